/- Operations that only compute: what the abstract executor says is what the machine does. -/
import Derived.Test.YtgbclgkadlfejaaAxRel
namespace Go.AX
open Go Go.RowKit
set_option linter.unusedVariables false
set_option linter.unusedSimpArgs false

variable {P : Program}

theorem size_info {t : TypeId} {n : Nat} (h : sizeT P t = some n) : ∃ i, P.info? t = some i ∧ i.size = n := by
  unfold sizeT at h
  cases hi : P.info? t with
  | none => simp [hi] at h
  | some i => simp [hi] at h; exact ⟨i, rfl, h⟩
theorem run_size {t : TypeId} {n : Nat} (h : sizeT P t = some n) (w : World) : (sizeOf t).run P w = .ok n w := by
  obtain ⟨i, hi, rfl⟩ := size_info h
  simp [sizeOf, typeInfo, hi]
theorem run_zero {t : TypeId} {z : Value} (h : zeroOf P t = some z) (w : World) : (zeroValue t).run P w = .ok z w ∧ plainV 9 z = true := by
  unfold zeroOf at h
  cases hi : P.info? t with
  | none => simp [hi] at h
  | some i => cases hz : i.zero with
    | none => simp [hi, hz] at h
    | some v => cases hp : plainV 9 v with
      | false => simp [hi, hz, hp] at h
      | true => simp [hi, hz, hp] at h; subst h; exact ⟨by simp [zeroValue, typeInfo, hi, hz], hp⟩
theorem run_info {t : TypeId} {i : TypeInfo} (h : P.info? t = some i) (w : World) : (typeInfo t).run P w = .ok i w := by simp [typeInfo, h]
theorem run_under {t : TypeId} {d : TypeDesc} (h : P.underlying t = some d) (w : World) : (underlying t).run P w = .ok d w := run_underlying h w
theorem run_agg {t : TypeId} {d : TypeDesc} (h : P.underlying t = some d) (w : World) : (isAgg t).run P w = .ok (isAggD d) w := by
  unfold isAgg
  rw [Sem.run_bind, run_under h w]
  cases d <;> rfl

theorem extract_rel {ρ : Rho} {xs ys : Array Value} (h : VsRel ρ xs.toList ys.toList) (i j : Nat) : VsRel ρ (xs.extract i j).toList (ys.extract i j).toList := by
  have hl : xs.size = ys.size := by simpa using h.length
  refine LRel.of_get (by simp [hl]) fun n x hx => ?_
  simp only [Array.toList_extract, List.extract_eq_take_drop, List.getElem?_take, List.getElem?_drop] at hx ⊢
  split at hx
  · rename_i hn
    obtain ⟨y, hy, hr⟩ := h.get _ _ hx
    exact ⟨y, by rw [if_pos hn]; exact hy, hr⟩
  · cases hx

theorem part_rel {ρ : Rho} {t : TypeId} {xs ys : Array Value} {off : Nat} {v : Value} (h : VsRel ρ xs.toList ys.toList) (hp : partA P t xs off = some v) (w : World) :
    ∃ v', (part t ys off).run P w = .ok v' w ∧ VRel ρ v v' := by
  unfold partA at hp
  cases hd : P.underlying t with
  | none => simp [hd] at hp
  | some d =>
    simp only [hd] at hp
    cases hb : isAggD d with
    | true =>
      simp only [hb, cond_true] at hp
      cases hn : sizeT P t with
      | none => simp [hn] at hp
      | some n =>
        simp [hn] at hp; subst hp
        refine ⟨.agg (ys.extract off (off + n)), by simp [part, run_agg hd w, hb, run_size hn w], ?_⟩
        exact .agg (idx_of_vs (extract_rel h _ _)).1 (idx_of_vs (extract_rel h _ _)).2
    | false =>
      simp only [hb, cond_false] at hp
      obtain ⟨v', hv', hr⟩ := h.get off v (by simpa using hp)
      have hv2 : ys[off]? = some v' := by simpa using hv'
      exact ⟨v', by simp [part, run_agg hd w, hb, hv2], hr⟩

/-! ### equality -/
theorem vs_agg {ρ : Rho} {xs ys : Array Value} (h : VRel ρ (.agg xs) (.agg ys)) : VsRel ρ xs.toList ys.toList := by
  cases h with | agg h1 h => exact vs_of_idx h1 h

theorem fields_run {eq : TypeId → Value → Value → Option Bool} {D : Nat} {ρ : Rho} {xs ys xs' ys' : Array Value} (hx : VsRel ρ xs.toList xs'.toList) (hy : VsRel ρ ys.toList ys'.toList)
    (he : ∀ t u v u' v' b, eq t u v = some b → VRel ρ u u' → VRel ρ v v' → ∀ w, (Op.equalIn D t u' v').run P w = .ok b w) (w : World) :
    ∀ (l : List Field) (b : Bool), eqFields P eq xs ys l = some b →
    (forIn (m := Sem) l ((none : Option Bool), ()) fun f __s =>
      if f.name ≠ "_" then do
        let __do_lift ← part f.type xs' f.offset
        let __do_lift_1 ← part f.type ys' f.offset
        let __do_lift ← Op.equalIn D f.type __do_lift __do_lift_1
        if (!__do_lift) = true then pure (ForInStep.done (some false, ())) else pure (ForInStep.yield (none, ()))
      else pure (ForInStep.yield (none, ()))).run P w = .ok (if b then (none, ()) else (some false, ())) w
  | [], b, h => by
    simp [eqFields] at h; subst h; simp
  | f :: r, b, h => by
    simp only [eqFields] at h
    simp only [List.forIn_cons, Sem.run_bind]
    cases hn : (f.name == "_") with
    | true =>
      simp only [hn, cond_true] at h
      have hn' : ¬ (f.name ≠ "_") := by simpa using hn
      rw [if_neg hn']
      simp only [Sem.run_pure, Result.andThen_ok]
      exact fields_run hx hy he w r b h
    | false =>
      simp only [hn, cond_false] at h
      have hn' : f.name ≠ "_" := by simpa using hn
      rw [if_pos hn']
      cases h1 : partA P f.type xs f.offset with
      | none => simp [h1] at h
      | some u => cases h2 : partA P f.type ys f.offset with
        | none => simp [h1, h2] at h
        | some v =>
          obtain ⟨u', hu, hru⟩ := part_rel hx h1 w
          obtain ⟨v', hv, hrv⟩ := part_rel hy h2 w
          simp only [h1, h2] at h
          cases h3 : eq f.type u v with
          | none => simp [h3] at h
          | some c =>
            have he' := he _ _ _ _ _ _ h3 hru hrv w
            simp only [Sem.run_bind, hu, hv, he', Result.andThen_ok]
            cases c with
            | true =>
              simp only [h3] at h
              simp only [Bool.not_true, Bool.false_eq_true, if_false, Sem.run_pure, Result.andThen_ok]
              exact fields_run hx hy he w r b h
            | false =>
              simp [h3] at h; subst h
              simp

theorem ones_run {eq : Value → Value → Option Bool} {D : Nat} {ρ : Rho} {e : TypeId} {xs ys xs' ys' : Array Value} (h1 : oneT P e = true) (hx : VsRel ρ xs.toList xs'.toList) (hy : VsRel ρ ys.toList ys'.toList)
    (he : ∀ u v u' v' b, eq u v = some b → VRel ρ u u' → VRel ρ v v' → ∀ w, (Op.equalIn D e u' v').run P w = .ok b w) (w : World) :
    ∀ (m i : Nat) (b : Bool), eqOnes eq m (xs.toList.drop i) (ys.toList.drop i) = some b →
    (forIn (m := Sem) (List.range' i m) ((none : Option Bool), ()) fun j __s => do
        let __do_lift ← part e xs' (j * 1)
        let __do_lift_1 ← part e ys' (j * 1)
        let __do_lift ← Op.equalIn D e __do_lift __do_lift_1
        if (!__do_lift) = true then pure (ForInStep.done (some false, ())) else pure (ForInStep.yield (none, ()))).run P w = .ok (if b then (none, ()) else (some false, ())) w
  | 0, i, b, h => by simp [eqOnes] at h; subst h; simp
  | m + 1, i, b, h => by
    have hone : ∃ d, P.underlying e = some d ∧ isAggD d = false := by
      unfold oneT at h1
      split at h1
      · rename_i d n hd hn
        simp only [Bool.and_eq_true, Bool.not_eq_true'] at h1
        exact ⟨d, hd, h1.1⟩
      · cases h1
    obtain ⟨dd, hd, hag⟩ := hone
    simp only [List.range'_succ, List.forIn_cons, Sem.run_bind]
    rcases hxd : xs.toList.drop i with _ | ⟨u, us⟩
    · rw [hxd] at h; simp [eqOnes] at h
    · rcases hyd : ys.toList.drop i with _ | ⟨v, vs⟩
      · rw [hxd, hyd] at h; simp [eqOnes] at h
      · rw [hxd, hyd] at h
        simp only [eqOnes] at h
        have hxi : xs.toList[i]? = some u := by rw [← List.head?_drop, hxd]; rfl
        have hyi : ys.toList[i]? = some v := by rw [← List.head?_drop, hyd]; rfl
        obtain ⟨u', hu, hru⟩ := hx.get i u hxi
        obtain ⟨v', hv, hrv⟩ := hy.get i v hyi
        have hpu : (part e xs' (i * 1)).run P w = .ok u' w := by
          have : xs'[i]? = some u' := by simpa using hu
          simp [part, run_agg hd w, hag, Nat.mul_one, this]
        have hpv : (part e ys' (i * 1)).run P w = .ok v' w := by
          have : ys'[i]? = some v' := by simpa using hv
          simp [part, run_agg hd w, hag, Nat.mul_one, this]
        cases h3 : eq u v with
        | none => simp [h3] at h
        | some c =>
          have he' := he _ _ _ _ _ h3 hru hrv w
          simp only [hpu, hpv, he', Result.andThen_ok]
          cases c with
          | true =>
            simp only [h3] at h
            simp only [Bool.not_true, Bool.false_eq_true, if_false, Sem.run_pure, Result.andThen_ok]
            have hxd' : xs.toList.drop (i + 1) = us := by rw [← List.drop_drop, hxd]; rfl
            have hyd' : ys.toList.drop (i + 1) = vs := by rw [← List.drop_drop, hyd]; rfl
            exact ones_run h1 hx hy he w m (i + 1) b (by rw [hxd', hyd']; exact h)
          | false =>
            simp [h3] at h; subst h
            simp

theorem eq_run : ∀ (d D : Nat) (t : TypeId) (x y x' y' : Value) (ρ : Rho) (b : Bool), d ≤ D → aEqIn P d t x y = some b → VRel ρ x x' → VRel ρ y y' →
    ∀ w, (Op.equalIn D t x' y').run P w = .ok b w := by
  intro d
  induction d with
  | zero => intro D t x y x' y' ρ b hD h; simp [aEqIn] at h
  | succ d ih =>
    intro D t x y x' y' ρ b hD h hx hy w
    obtain ⟨D, rfl⟩ : ∃ m, D = m + 1 := ⟨D - 1, by omega⟩
    cases hd : P.underlying t with
    | none => simp [aEqIn, hd] at h
    | some desc =>
      simp only [Op.equalIn, Sem.run_bind, run_under hd, Result.andThen_ok]
      simp only [aEqIn, hd] at h
      split at h <;> rename_i heq <;> (try cases heq)
      case h_10 =>
        cases hx with | agg a1 a2 =>
        cases hy with | agg b1 b2 =>
        have hvx := vs_of_idx a1 a2
        have hvy := vs_of_idx b1 b2
        cases hst : P.stoodInHeld t with
        | true => simp [hst] at h
        | false =>
          simp only [hst, cond_false] at h
          simp only [Sem.run_bind, run_program, Result.andThen_ok, hst, Bool.false_eq_true, if_false, Sem.run_pure]
          rw [← Array.forIn_toList, fields_run hvx hvy (fun t u v u' v' b h1 h2 h3 w => ih D t u v u' v' ρ b (by omega) h1 h2 h3 w) w _ _ h]
          cases b <;> simp
      case h_11 =>
        rename_i len e xs ys
        cases hx with | agg a1 a2 =>
        cases hy with | agg b1 b2 =>
        have hvx := vs_of_idx a1 a2
        have hvy := vs_of_idx b1 b2
        cases h1 : oneT P e with
        | false => simp [h1] at h
        | true =>
          simp only [h1, cond_true] at h
          have hsz : (sizeOf e).run P w = .ok 1 w := by
            unfold oneT at h1
            split at h1
            · rename_i dd n hdd hn
              simp only [Bool.and_eq_true] at h1
              rw [Nat.eq_of_beq_eq_true h1.2] at hn
              exact run_size hn w
            · cases h1
          have := ones_run (P := P) h1 hvx hvy (fun u v u' v' b h1 h2 h3 w => ih D e u v u' v' ρ b (by omega) h1 h2 h3 w) w len 0 b (by simpa using h)
          simp only [Sem.run_bind, hsz, Result.andThen_ok, Std.Legacy.Range.forIn_eq_forIn_range', Std.Legacy.Range.size, Nat.sub_zero, Nat.add_sub_cancel, Nat.div_one]
          rw [this]
          cases b <;> simp
      case h_9 =>
        cases hx with | iface _ hx =>
        cases hy with | iface _ hy =>
        simp only
        split at h
        · rename_i hne
          simp at h; subst h
          rw [if_pos hne]; rfl
        · rename_i hne
          rw [if_neg hne]
          split at h
          · rename_i i hi
            cases hc : i.comparable with
            | false => simp [hc] at h
            | true =>
              simp only [hc, cond_true] at h
              simp only [Sem.run_bind, run_info hi, Result.andThen_ok, hc, Bool.not_true, Bool.false_eq_true, if_false]
              exact ih D _ _ _ _ _ ρ b (by omega) h hx hy w
          · cases h
      case h_2 =>
        cases hx; cases hy
        split at h
        · rename_i e; subst e; simp at h; subst h; simp
        · cases h
      all_goals first | (simp at h; done) | (cases hx <;> cases hy <;> first | (simp at h; subst h; rfl) | (simp at h; subst h; simp; done))
end Go.AX
