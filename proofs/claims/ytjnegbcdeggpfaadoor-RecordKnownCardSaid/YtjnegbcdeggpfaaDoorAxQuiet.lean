/- Operations that only compute: what the abstract executor says is what the machine does. -/
import Derived.Test.YtjnegbcdeggpfaaDoorAxRel
namespace Go.AX
open Go Go.RowKit
set_option linter.unusedVariables false
set_option linter.unusedSimpArgs false

variable {P : Program}

theorem size_info {t : TypeId} {n : Nat} (h : sizeT P t = some n) : ∃ i, P.info? t = some i ∧ i.size = n := by
  unfold sizeT at h
  cases hi : P.info? t with
  | none => simp [hi] at h
  | some i => simp [hi] at h; exact ⟨i, rfl, h⟩
theorem run_size {t : TypeId} {n : Nat} (h : sizeT P t = some n) (w : World) : (sizeOf t).run P w = .ok n w := by
  obtain ⟨i, hi, rfl⟩ := size_info h
  simp [sizeOf, typeInfo, hi]
theorem run_zero {t : TypeId} {z : Value} (h : zeroOf P t = some z) (w : World) : (zeroValue t).run P w = .ok z w ∧ plainV 9 z = true := by
  unfold zeroOf at h
  cases hi : P.info? t with
  | none => simp [hi] at h
  | some i => cases hz : i.zero with
    | none => simp [hi, hz] at h
    | some v => cases hp : plainV 9 v with
      | false => simp [hi, hz, hp] at h
      | true => simp [hi, hz, hp] at h; subst h; exact ⟨by simp [zeroValue, typeInfo, hi, hz], hp⟩
theorem run_info {t : TypeId} {i : TypeInfo} (h : P.info? t = some i) (w : World) : (typeInfo t).run P w = .ok i w := by simp [typeInfo, h]
theorem run_under {t : TypeId} {d : TypeDesc} (h : P.underlying t = some d) (w : World) : (underlying t).run P w = .ok d w := run_underlying h w
theorem run_agg {t : TypeId} {d : TypeDesc} (h : P.underlying t = some d) (w : World) : (isAgg t).run P w = .ok (isAggD d) w := by
  unfold isAgg
  rw [Sem.run_bind, run_under h w]
  cases d <;> rfl

theorem extract_rel {ρ : Rho} {xs ys : Array Value} (h : VsRel ρ xs.toList ys.toList) (i j : Nat) : VsRel ρ (xs.extract i j).toList (ys.extract i j).toList := by
  have hl : xs.size = ys.size := by simpa using h.length
  refine LRel.of_get (by simp [hl]) fun n x hx => ?_
  simp only [Array.toList_extract, List.extract_eq_take_drop, List.getElem?_take, List.getElem?_drop] at hx ⊢
  split at hx
  · rename_i hn
    obtain ⟨y, hy, hr⟩ := h.get _ _ hx
    exact ⟨y, by rw [if_pos hn]; exact hy, hr⟩
  · cases hx

theorem part_rel {ρ : Rho} {t : TypeId} {xs ys : Array Value} {off : Nat} {v : Value} (h : VsRel ρ xs.toList ys.toList) (hp : partA P t xs off = some v) (w : World) :
    ∃ v', (part t ys off).run P w = .ok v' w ∧ VRel ρ v v' := by
  unfold partA at hp
  cases hd : P.underlying t with
  | none => simp [hd] at hp
  | some d =>
    simp only [hd] at hp
    cases hb : isAggD d with
    | true =>
      simp only [hb, cond_true] at hp
      cases hn : sizeT P t with
      | none => simp [hn] at hp
      | some n =>
        simp [hn] at hp; subst hp
        refine ⟨.agg (ys.extract off (off + n)), by simp [part, run_agg hd w, hb, run_size hn w], ?_⟩
        exact .agg (idx_of_vs (extract_rel h _ _)).1 (idx_of_vs (extract_rel h _ _)).2
    | false =>
      simp only [hb, cond_false] at hp
      obtain ⟨v', hv', hr⟩ := h.get off v (by simpa using hp)
      have hv2 : ys[off]? = some v' := by simpa using hv'
      exact ⟨v', by simp [part, run_agg hd w, hb, hv2], hr⟩

/-! ### equality -/
theorem vs_agg {ρ : Rho} {xs ys : Array Value} (h : VRel ρ (.agg xs) (.agg ys)) : VsRel ρ xs.toList ys.toList := by
  cases h with | agg h1 h => exact vs_of_idx h1 h

theorem fields_run {eq : TypeId → Value → Value → Option Bool} {D : Nat} {ρ : Rho} {xs ys xs' ys' : Array Value} (hx : VsRel ρ xs.toList xs'.toList) (hy : VsRel ρ ys.toList ys'.toList)
    (he : ∀ t u v u' v' b, eq t u v = some b → VRel ρ u u' → VRel ρ v v' → ∀ w, (Op.equalIn D t u' v').run P w = .ok b w) (w : World) :
    ∀ (l : List Field) (b : Bool), eqFields P eq xs ys l = some b →
    (forIn (m := Sem) l ((none : Option Bool), ()) fun f __s =>
      if f.name ≠ "_" then do
        let __do_lift ← part f.type xs' f.offset
        let __do_lift_1 ← part f.type ys' f.offset
        let __do_lift ← Op.equalIn D f.type __do_lift __do_lift_1
        if (!__do_lift) = true then pure (ForInStep.done (some false, ())) else pure (ForInStep.yield (none, ()))
      else pure (ForInStep.yield (none, ()))).run P w = .ok (if b then (none, ()) else (some false, ())) w
  | [], b, h => by
    simp [eqFields] at h; subst h; simp
  | f :: r, b, h => by
    simp only [eqFields] at h
    simp only [List.forIn_cons, Sem.run_bind]
    cases hn : (f.name == "_") with
    | true =>
      simp only [hn, cond_true] at h
      have hn' : ¬ (f.name ≠ "_") := by simpa using hn
      rw [if_neg hn']
      simp only [Sem.run_pure, Result.andThen_ok]
      exact fields_run hx hy he w r b h
    | false =>
      simp only [hn, cond_false] at h
      have hn' : f.name ≠ "_" := by simpa using hn
      rw [if_pos hn']
      cases h1 : partA P f.type xs f.offset with
      | none => simp [h1] at h
      | some u => cases h2 : partA P f.type ys f.offset with
        | none => simp [h1, h2] at h
        | some v =>
          obtain ⟨u', hu, hru⟩ := part_rel hx h1 w
          obtain ⟨v', hv, hrv⟩ := part_rel hy h2 w
          simp only [h1, h2] at h
          cases h3 : eq f.type u v with
          | none => simp [h3] at h
          | some c =>
            have he' := he _ _ _ _ _ _ h3 hru hrv w
            simp only [Sem.run_bind, hu, hv, he', Result.andThen_ok]
            cases c with
            | true =>
              simp only [h3] at h
              simp only [Bool.not_true, Bool.false_eq_true, if_false, Sem.run_pure, Result.andThen_ok]
              exact fields_run hx hy he w r b h
            | false =>
              simp [h3] at h; subst h
              simp

theorem ones_run {eq : Value → Value → Option Bool} {D : Nat} {ρ : Rho} {e : TypeId} {xs ys xs' ys' : Array Value} (h1 : oneT P e = true) (hx : VsRel ρ xs.toList xs'.toList) (hy : VsRel ρ ys.toList ys'.toList)
    (he : ∀ u v u' v' b, eq u v = some b → VRel ρ u u' → VRel ρ v v' → ∀ w, (Op.equalIn D e u' v').run P w = .ok b w) (w : World) :
    ∀ (m i : Nat) (b : Bool), eqOnes eq m (xs.toList.drop i) (ys.toList.drop i) = some b →
    (forIn (m := Sem) (List.range' i m) ((none : Option Bool), ()) fun j __s => do
        let __do_lift ← part e xs' (j * 1)
        let __do_lift_1 ← part e ys' (j * 1)
        let __do_lift ← Op.equalIn D e __do_lift __do_lift_1
        if (!__do_lift) = true then pure (ForInStep.done (some false, ())) else pure (ForInStep.yield (none, ()))).run P w = .ok (if b then (none, ()) else (some false, ())) w
  | 0, i, b, h => by simp [eqOnes] at h; subst h; simp
  | m + 1, i, b, h => by
    have hone : ∃ d, P.underlying e = some d ∧ isAggD d = false := by
      unfold oneT at h1
      split at h1
      · rename_i d n hd hn
        simp only [Bool.and_eq_true, Bool.not_eq_true'] at h1
        exact ⟨d, hd, h1.1⟩
      · cases h1
    obtain ⟨dd, hd, hag⟩ := hone
    simp only [List.range'_succ, List.forIn_cons, Sem.run_bind]
    rcases hxd : xs.toList.drop i with _ | ⟨u, us⟩
    · rw [hxd] at h; simp [eqOnes] at h
    · rcases hyd : ys.toList.drop i with _ | ⟨v, vs⟩
      · rw [hxd, hyd] at h; simp [eqOnes] at h
      · rw [hxd, hyd] at h
        simp only [eqOnes] at h
        have hxi : xs.toList[i]? = some u := by rw [← List.head?_drop, hxd]; rfl
        have hyi : ys.toList[i]? = some v := by rw [← List.head?_drop, hyd]; rfl
        obtain ⟨u', hu, hru⟩ := hx.get i u hxi
        obtain ⟨v', hv, hrv⟩ := hy.get i v hyi
        have hpu : (part e xs' (i * 1)).run P w = .ok u' w := by
          have : xs'[i]? = some u' := by simpa using hu
          simp [part, run_agg hd w, hag, Nat.mul_one, this]
        have hpv : (part e ys' (i * 1)).run P w = .ok v' w := by
          have : ys'[i]? = some v' := by simpa using hv
          simp [part, run_agg hd w, hag, Nat.mul_one, this]
        cases h3 : eq u v with
        | none => simp [h3] at h
        | some c =>
          have he' := he _ _ _ _ _ h3 hru hrv w
          simp only [hpu, hpv, he', Result.andThen_ok]
          cases c with
          | true =>
            simp only [h3] at h
            simp only [Bool.not_true, Bool.false_eq_true, if_false, Sem.run_pure, Result.andThen_ok]
            have hxd' : xs.toList.drop (i + 1) = us := by rw [← List.drop_drop, hxd]; rfl
            have hyd' : ys.toList.drop (i + 1) = vs := by rw [← List.drop_drop, hyd]; rfl
            exact ones_run h1 hx hy he w m (i + 1) b (by rw [hxd', hyd']; exact h)
          | false =>
            simp [h3] at h; subst h
            simp

theorem eq_run : ∀ (d D : Nat) (t : TypeId) (x y x' y' : Value) (ρ : Rho) (b : Bool), d ≤ D → aEqIn P d t x y = some b → VRel ρ x x' → VRel ρ y y' →
    ∀ w, (Op.equalIn D t x' y').run P w = .ok b w := by
  intro d
  induction d with
  | zero => intro D t x y x' y' ρ b hD h; simp [aEqIn] at h
  | succ d ih =>
    intro D t x y x' y' ρ b hD h hx hy w
    obtain ⟨D, rfl⟩ : ∃ m, D = m + 1 := ⟨D - 1, by omega⟩
    cases hd : P.underlying t with
    | none => simp [aEqIn, hd] at h
    | some desc =>
      simp only [Op.equalIn, Sem.run_bind, run_under hd, Result.andThen_ok]
      simp only [aEqIn, hd] at h
      split at h <;> rename_i heq <;> (try cases heq)
      case h_10 =>
        cases hx with | agg a1 a2 =>
        cases hy with | agg b1 b2 =>
        have hvx := vs_of_idx a1 a2
        have hvy := vs_of_idx b1 b2
        cases hst : P.stoodInHeld t with
        | true => simp [hst] at h
        | false =>
          simp only [hst, cond_false] at h
          simp only [Sem.run_bind, run_program, Result.andThen_ok, hst, Bool.false_eq_true, if_false, Sem.run_pure]
          rw [← Array.forIn_toList, fields_run hvx hvy (fun t u v u' v' b h1 h2 h3 w => ih D t u v u' v' ρ b (by omega) h1 h2 h3 w) w _ _ h]
          cases b <;> simp
      case h_11 =>
        rename_i len e xs ys
        cases hx with | agg a1 a2 =>
        cases hy with | agg b1 b2 =>
        have hvx := vs_of_idx a1 a2
        have hvy := vs_of_idx b1 b2
        cases h1 : oneT P e with
        | false => simp [h1] at h
        | true =>
          simp only [h1, cond_true] at h
          have hsz : (sizeOf e).run P w = .ok 1 w := by
            unfold oneT at h1
            split at h1
            · rename_i dd n hdd hn
              simp only [Bool.and_eq_true] at h1
              rw [Nat.eq_of_beq_eq_true h1.2] at hn
              exact run_size hn w
            · cases h1
          have := ones_run (P := P) h1 hvx hvy (fun u v u' v' b h1 h2 h3 w => ih D e u v u' v' ρ b (by omega) h1 h2 h3 w) w len 0 b (by simpa using h)
          simp only [Sem.run_bind, hsz, Result.andThen_ok, Std.Legacy.Range.forIn_eq_forIn_range', Std.Legacy.Range.size, Nat.sub_zero, Nat.add_sub_cancel, Nat.div_one]
          rw [this]
          cases b <;> simp
      case h_9 =>
        cases hx with | iface _ hx =>
        cases hy with | iface _ hy =>
        simp only
        split at h
        · rename_i hne
          simp at h; subst h
          rw [if_pos hne]; rfl
        · rename_i hne
          rw [if_neg hne]
          split at h
          · rename_i i hi
            cases hc : i.comparable with
            | false => simp [hc] at h
            | true =>
              simp only [hc, cond_true] at h
              simp only [Sem.run_bind, run_info hi, Result.andThen_ok, hc, Bool.not_true, Bool.false_eq_true, if_false]
              exact ih D _ _ _ _ _ ρ b (by omega) h hx hy w
          · cases h
      case h_2 =>
        cases hx; cases hy
        split at h
        · rename_i e; subst e; simp at h; subst h; simp
        · cases h
      all_goals first | (simp at h; done) | (cases hx <;> cases hy <;> first | (simp at h; subst h; rfl) | (simp at h; subst h; simp; done))
end Go.AX
namespace Go.AX
open Go Go.RowKit
set_option linter.unusedVariables false
set_option linter.unusedSimpArgs false

variable {P : Program}

theorem int_run {op : BinOp} {k : IntKind} {x y : Int} {v : Value} (hs : isShift op = false) (h : aInt op k x y = some v) (t : TypeId) (w : World) :
    (binOp op t (.int k x) (.int k y)).run P w = .ok v w ∧ ∀ ρ, VRel ρ v v := by
  cases op <;> simp [isShift] at hs <;> simp only [aInt] at h
  case quo => split at h <;> simp at h; rename_i hy; subst h; exact ⟨by simp [binOp, Op.intDiv, hy], fun ρ => .int _ _⟩
  case rem => split at h <;> simp at h; rename_i hy; subst h; exact ⟨by simp [binOp, Op.intDiv, hy], fun ρ => .int _ _⟩
  all_goals (cases h; first
    | (refine ⟨?_, fun ρ => .int _ _⟩; simp [binOp, Op.intArith]; done)
    | (refine ⟨?_, fun ρ => .int _ _⟩; simp only [binOp, ne_eq, not_true_eq_false, if_false]; rfl)
    | (refine ⟨?_, fun ρ => .bool _⟩; simp [binOp, Op.intCmp]; done))
theorem shift_run {op : BinOp} {k k' : IntKind} {x y : Int} {v : Value} (hs : isShift op = true) (h : aShift op k x y = some v) (t : TypeId) (w : World) :
    (binOp op t (.int k x) (.int k' y)).run P w = .ok v w ∧ ∀ ρ, VRel ρ v v := by
  unfold aShift at h
  split at h
  · cases h
  · rename_i hy
    cases op <;> simp [isShift] at hs <;> simp at h <;> subst h
    · exact ⟨by simp [binOp, Op.shift, hy], fun ρ => .int _ _⟩
    · exact ⟨by simp [binOp, Op.shift, hy], fun ρ => .int _ _⟩
theorem toList_loop (x : ByteArray) : ∀ (n i : Nat) (r : List UInt8), x.size - i = n → ByteArray.toList.loop x i r = r.reverse ++ x.data.toList.drop i := by
  intro n
  induction n with
  | zero =>
    intro i r h
    rw [ByteArray.toList.loop, if_neg (by omega), List.drop_eq_nil_of_le (by have : x.size = x.data.toList.length := by rw [Array.length_toList]; rfl
                                                                             omega)]
    simp
  | succ n ih =>
    intro i r h
    have hi : i < x.data.toList.length := by have : x.size = x.data.toList.length := by rw [Array.length_toList]; rfl
                                             omega
    rw [ByteArray.toList.loop, if_pos (by omega), ih (i + 1) _ (by omega), List.drop_eq_getElem_cons hi]
    have : x.get! i = x.data.toList[i] := by
      have hi' : i < x.data.size := by simpa using hi
      simp only [ByteArray.get!, Array.getElem_toList]; exact getElem!_pos x.data i hi'
    simp [this]
theorem toList_data (x : ByteArray) : x.toList = x.data.toList := by
  unfold ByteArray.toList
  rw [toList_loop x _ 0 [] rfl]; simp
theorem str_run {op : BinOp} {x y : ByteArray} {v : Value} (h : aStr op x y = some v) (t : TypeId) (w : World) :
    (binOp op t (.string x) (.string y)).run P w = .ok v w ∧ ∀ ρ, VRel ρ v v := by
  unfold aStr at h
  cases op <;> simp only [] at h <;> try (cases h; done)
  case add =>
    split at h
    · cases h
    · rename_i hn
      cases h
      exact ⟨by simp only [binOp, Op.stringOp]; rw [if_neg hn]; rfl, fun ρ => .string _⟩
  all_goals (cases h; exact ⟨by simp only [binOp, Op.stringOp, toList_data]; rfl, fun ρ => .bool _⟩)

theorem aEq_bool {t : TypeId} {x y : Value} {op : BinOp} {v : Value} (h : (match op with
      | .eql => (aEqIn P 50 t x y).map .bool
      | .neq => (aEqIn P 50 t x y).map fun b => .bool (!b)
      | _ => none) = some v) : ∃ b, aEqIn P 50 t x y = some b ∧ ((op = .eql ∧ v = .bool b) ∨ (op = .neq ∧ v = .bool (!b))) := by
  cases op <;> simp only [] at h <;> try (cases h; done)
  all_goals (cases hb : aEqIn P 50 t x y with
    | none => simp [hb] at h
    | some b => simp [hb] at h; subst h; exact ⟨b, rfl, by simp⟩)

theorem binEq {t : TypeId} {x y : Value} (h1 : ∀ k a k' b, x = .int k a → y = .int k' b → False) (h2 : ∀ a b, x = .string a → y = .string b → False) (h3 : ∀ k a, x ≠ .float k a) (h4 : ∀ k a b, x ≠ .complex k a b) :
    binOp .eql t x y = (do pure (.bool (← Op.equal t x y))) ∧ binOp .neq t x y = (do pure (.bool (!(← Op.equal t x y)))) := by
  constructor <;> (unfold binOp; split <;> first | rfl | exact (h1 _ _ _ _ rfl rfl).elim | exact (h2 _ _ rfl rfl).elim | exact (h3 _ _ rfl).elim | exact (h4 _ _ _ rfl).elim | (simp_all; done))

theorem isConst_eq (x : Operand) : isConst x = (x matches .const _) := by cases x <;> rfl

theorem guard_nil {op : BinOp} {t : TypeId} {ox oy : Operand} (h : (isConst ox || isConst oy) = true) (w : World) : (eqGuard op t ox oy .nilIface .nilIface).run P w = .ok () w := by
  cases op <;> cases ox <;> cases oy <;> first | rfl | (simp [isConst] at h; done)

theorem aEq_hid1 (n : Nat) (t : TypeId) (y : Value) : aEqIn P n t (.chan none) y = none := by
  cases n with
  | zero => rfl
  | succ n => unfold aEqIn; split <;> first | rfl | (simp_all; done)
theorem aEq_hid2 (n : Nat) (t : TypeId) (x : Value) : aEqIn P n t x (.chan none) = none := by
  cases n with
  | zero => rfl
  | succ n => unfold aEqIn; split <;> first | rfl | (simp_all; done)

/-- An operator on two values. -/
theorem bin_run {op : BinOp} {t : TypeId} {ox oy : Operand} {x y x' y' v : Value} {ρ : Rho} (h : aBin P op t (isConst ox) (isConst oy) x y = some v) (hx : VRel ρ x x') (hy : VRel ρ y y') (w : World) :
    ((do eqGuard op t ox oy x' y'; binOp op t x' y') : Sem Value).run P w = .ok v w ∧ VRel ρ v v := by
  unfold aBin at h
  split at h
  · -- two numbers
    cases hx; cases hy
    rename_i k a k' b
    have hg : ∀ w, (eqGuard op t ox oy (.int k a) (.int k' b)).run P w = .ok () w := by intro w; unfold eqGuard; split <;> rfl
    simp only [Sem.run_bind, hg, Result.andThen_ok]
    cases hs : isShift op with
    | true => simp [hs] at h; have := shift_run (P := P) (k' := k') hs h t w; exact ⟨this.1, this.2 ρ⟩
    | false =>
      simp only [hs, cond_false] at h
      split at h
      · rename_i e; subst e; have := int_run (P := P) hs h t w; exact ⟨this.1, this.2 ρ⟩
      · cases h
  · cases hx; cases hy
    rename_i a b
    have hg : ∀ w, (eqGuard op t ox oy (.string a) (.string b)).run P w = .ok () w := by intro w; unfold eqGuard; split <;> rfl
    simp only [Sem.run_bind, hg, Result.andThen_ok]
    have := str_run (P := P) h t w
    exact ⟨this.1, this.2 ρ⟩
  · cases h
  · cases h
  · rename_i n1 n2 n3 n4
    have fin : ∀ {b : Bool}, aEqIn P 50 t x y = some b → ((op = .eql ∧ v = .bool b) ∨ (op = .neq ∧ v = .bool (!b))) → (∀ w, (eqGuard op t ox oy x' y').run P w = .ok () w) →
        ((do eqGuard op t ox oy x' y'; binOp op t x' y') : Sem Value).run P w = .ok v w ∧ VRel ρ v v := by
      intro b hb hv hg
      have z1 : x ≠ .chan none := fun e => by rw [e, aEq_hid1] at hb; cases hb
      have z2 : y ≠ .chan none := fun e => by rw [e, aEq_hid2] at hb; cases hb
      have hr := eq_run (P := P) 50 10000 t x y x' y' ρ b (by omega) hb hx hy w
      have hr' : (Op.equal t x' y').run P w = .ok b w := hr
      have he := binEq (t := t) (x := x') (y := y')
        (fun k a k' b e1 e2 => by
          subst e1; subst e2
          cases hx with
          | hid => exact z1 rfl
          | int => cases hy with
            | hid => exact z2 rfl
            | int => exact n3 _ _ _ _ rfl rfl)
        (fun a b e1 e2 => by
          subst e1; subst e2
          cases hx with
          | hid => exact z1 rfl
          | string => cases hy with
            | hid => exact z2 rfl
            | string => exact n4 _ _ rfl rfl)
        (fun k a e => by
          subst e
          cases hx with
          | hid => exact z1 rfl) (fun k a b e => by
          subst e
          cases hx with
          | hid => exact z1 rfl)
      simp only [Sem.run_bind, hg, Result.andThen_ok]
      rcases hv with ⟨rfl, rfl⟩ | ⟨rfl, rfl⟩
      · rw [he.1]; exact ⟨by simp [hr'], .bool _⟩
      · rw [he.2]; exact ⟨by simp [hr'], .bool _⟩
    split at h
    · cases hx; cases hy
      cases hc : (isConst ox || isConst oy) with
      | false => simp [hc] at h
      | true =>
        simp only [hc, cond_true] at h
        obtain ⟨b, hb, hv⟩ := aEq_bool h
        refine fin hb hv fun w => ?_
        exact guard_nil hc w
    · cases hx; cases hy
      rename_i cs ds _ _ _ _ _ _
      cases hc : P.eqGuardType P.depth t with
      | true => simp [hc] at h
      | false =>
        simp only [hc, Bool.not_false, cond_true] at h
        obtain ⟨b, hb, hv⟩ := aEq_bool h
        refine fin hb hv fun w => ?_
        rcases hv with ⟨rfl, _⟩ | ⟨rfl, _⟩ <;> simp [eqGuard, hc]
    · simp at h
    · simp at h
    · simp at h
    · rename_i m1 m2 m3 m4 m5
      simp only [cond_true] at h
      obtain ⟨b, hb, hv⟩ := aEq_bool h
      have z1 : x ≠ .chan none := fun e => by rw [e, aEq_hid1] at hb; cases hb
      have z2 : y ≠ .chan none := fun e => by rw [e, aEq_hid2] at hb; cases hb
      refine fin hb hv fun w => ?_
      rcases hv with ⟨rfl, _⟩ | ⟨rfl, _⟩ <;> (simp only [eqGuard, Bool.not_true, Bool.false_eq_true, if_false]; split <;> first | rfl | (cases hx <;> cases hy <;> exfalso <;> first | exact z1 rfl | exact z2 rfl | (simp_all; done)))
end Go.AX
namespace Go.AX
open Go Go.RowKit
set_option linter.unusedVariables false
set_option linter.unusedSimpArgs false

variable {P : Program}

/-- A value that may be there. -/
def MRelO (ρ : Rho) : Option Value → Option Value → Prop
  | none, none => True
  | some v, some v' => VRel ρ v v'
  | _, _ => False
theorem evM_rel {ρ : Rho} {f : Fr} {a : Act} (h : FRel ρ f a) {x : Option Operand} {v : Option Value} (hv : evM f x = some v) : MRelO ρ v (x.map a.eval) := by
  cases x with
  | none => simp [evM] at hv; subst hv; trivial
  | some x =>
    simp only [evM] at hv
    cases h1 : evO f x with
    | none => simp [h1] at hv
    | some w => simp [h1] at hv; subst hv; exact evO_rel h h1

theorem bound_some {v v' : Value} {ρ : Rho} {hi d n : Nat} (h : aBound (some v) 0 hi d = some n) (hv : VRel ρ v v') {hi' : Nat} (hh : hi ≤ hi') (code : BoundsCode) (w : World) :
    (Instr.sliceBound v' hi' code).run P w = .ok n w ∧ n ≤ hi := by
  cases v <;> simp only [aBound] at h <;> try (cases h; done)
  rename_i k i
  cases hv
  split at h
  · rename_i hc
    simp at h; subst h
    have : 0 ≤ i ∧ i ≤ (hi' : Int) := by omega
    refine ⟨?_, by omega⟩
    unfold Instr.sliceBound
    simp only [Sem.run_bind, asIntOf, Sem.run_pure, Result.andThen_ok]
    rw [if_pos this]; rfl
  · cases h

/-- The three bounds of a slice expression. -/
theorem bounds_run {ρ : Rho} {isSlice : Bool} {len cap cap' m h l : Nat} {lo hi mx lo' hi' mx' : Option Value} (hlo : MRelO ρ lo lo') (hhi : MRelO ρ hi hi') (hmx : MRelO ρ mx mx')
    (hm : aBound mx 0 cap cap = some m) (hh : aBound hi 0 m len = some h) (hl : aBound lo 0 h 0 = some l) (hmh : mx = none ∨ ∃ v, hi = some v) (hc : cap ≤ cap') (w : World) :
    (Instr.sliceBounds isSlice len cap' lo' hi' mx').run P w = .ok (l, h, mx.elim cap' (fun _ => m)) w ∧ l ≤ h ∧ m ≤ cap ∧ (hi = none → h = len) ∧ (∀ v, hi = some v → h ≤ m) := by
  have e1 : l ≤ h ∧ ∀ code, (match lo' with | some v => Instr.sliceBound v h code | none => (pure 0 : Sem Nat)).run P w = .ok l w := by
    cases lo with
    | none => cases lo' with
      | none => simp [aBound] at hl; subst hl; exact ⟨Nat.zero_le _, fun _ => rfl⟩
      | some _ => exact hlo.elim
    | some v => cases lo' with
      | none => exact hlo.elim
      | some v' => exact ⟨(bound_some (P := P) hl hlo (Nat.le_refl _) .index w).2, fun code => (bound_some (P := P) hl hlo (Nat.le_refl _) code w).1⟩
  cases mx with
  | none =>
    cases mx' with
    | some _ => exact hmx.elim
    | none =>
      simp [aBound] at hm; subst hm
      cases hi with
      | none => cases hi' with
        | some _ => exact hhi.elim
        | none =>
          simp [aBound] at hh; subst hh
          refine ⟨?_, e1.1, Nat.le_refl _, fun _ => rfl, fun _ e => by cases e⟩
          have := e1.2 (if Option.isSome (none : Option Value) then .slice3C else .sliceB)
          simp only [Instr.sliceBounds, Sem.run_bind, Sem.run_pure, Result.andThen_ok]
          cases lo' <;> simp_all
      | some v => cases hi' with
        | none => exact hhi.elim
        | some v' =>
          have hb := bound_some (P := P) hh hhi hc (if isSlice then .sliceAcap else .sliceAlen) w
          refine ⟨?_, e1.1, Nat.le_refl _, (fun e => by cases e), fun _ _ => hb.2⟩
          have := e1.2 (if Option.isSome (none : Option Value) then .slice3C else .sliceB)
          simp only [Instr.sliceBounds, Sem.run_bind, Sem.run_pure, Result.andThen_ok, hb.1]
          cases lo' <;> simp_all
  | some mv =>
    cases mx' with
    | none => exact hmx.elim
    | some mv' =>
      obtain ⟨v, rfl⟩ : ∃ v, hi = some v := by rcases hmh with e | e; · cases e
                                               · exact e
      cases hi' with
      | none => exact hhi.elim
      | some v' =>
        have hmb := bound_some (P := P) hm hmx hc (if isSlice then .slice3Acap else .slice3Alen) w
        have hb := bound_some (P := P) hh hhi (Nat.le_refl _) .slice3B w
        refine ⟨?_, e1.1, hmb.2, (fun e => by cases e), fun _ _ => hb.2⟩
        have := e1.2 (if Option.isSome (some mv') then .slice3C else .sliceB)
        simp only [Instr.sliceBounds, Sem.run_bind, Sem.run_pure, Result.andThen_ok, hmb.1, hb.1]
        cases lo' <;> simp_all

theorem slice_run {ρ : Rho} {t : TypeId} {x x' v : Value} {lo hi mx lo' hi' mx' : Option Value} (h : aSlice P t x lo hi mx = some v) (hx : VRel ρ x x') (hlo : MRelO ρ lo lo') (hhi : MRelO ρ hi hi') (hmx : MRelO ρ mx mx') :
    ∃ v', (∀ w, (Instr.sliceAt t x' lo' hi' mx').run P w = .ok v' w) ∧ VRel ρ v v' := by
  unfold aSlice at h
  split at h
  · rename_i s hu
    cases hx
    split at h
    · cases h
    · cases mx' with
      | some _ => exact hmx.elim
      | none =>
      split at h
      · rename_i hh hhe
        split at h
        · rename_i ll hle
          simp at h; subst h
          refine ⟨_, fun w => ?_, .string _⟩
          have hb := (bounds_run (P := P) (isSlice := false) (mx := none) (mx' := none) hlo hhi trivial (m := s.size) (cap := s.size) rfl hhe hle (.inl rfl) (Nat.le_refl _) w).1
          simp only [Instr.sliceAt, Instr.slice, Sem.run_bind, run_under hu, Result.andThen_ok, Option.isSome_none, Bool.false_eq_true, if_false, Sem.run_pure, hb]
        · cases h
      · cases h
  · rename_i e a len cap hu
    split at h
    · cases h
    · rename_i hnn
      have hmh : mx = none ∨ ∃ v, hi = some v := by
        cases mx with
        | none => exact .inl rfl
        | some _ => cases hi with
          | none => exact (hnn _ rfl rfl).elim
          | some v => exact .inr ⟨v, rfl⟩
      split at h
      · rename_i m hm
        split at h
        · rename_i hh hhe
          split at h
          · rename_i ll hle
            cases hbm : Nat.ble hh m with
            | false => simp [hbm] at h
            | true =>
            simp only [hbm, cond_true] at h
            have hhm : hh ≤ m := by simpa using hbm
            split at h
            · cases h
            · rename_i n hsz
              simp at h; subst h
              cases hx
              have hb := fun w => bounds_run (P := P) (isSlice := true) hlo hhi hmx hm hhe hle hmh (Nat.le_refl cap) w
              have hmm : mx.elim cap (fun _ => m) = m := by
                cases mx with
                | none => simp [aBound] at hm; exact hm
                | some _ => rfl
              refine ⟨_, fun w => ?_, .snil _ _⟩
              have hb1 := (hb w).1
              rw [hmm] at hb1
              simp only [Instr.sliceAt, Instr.slice, Sem.run_bind, run_under hu, Result.andThen_ok, hb1, run_size hsz, Sem.run_pure]
              congr 2
              split <;> rfl
            · rename_i n b o s hsz
              cases hx
              rename_i a' c' hs
              have hle' : cap ≤ c' := by
                cases hr : ρ b with
                | no => simp [SRel, hr] at hs
                | gone x => simp only [SRel, hr] at hs; omega
                | live c k x => simp only [SRel, hr] at hs; omega
              have hb := fun w => bounds_run (P := P) (isSlice := true) (len := len) hlo hhi hmx hm hhe hle hmh hle' w
              obtain ⟨m', hm'⟩ : ∃ m', m' = mx.elim c' (fun _ => m) := ⟨_, rfl⟩
              have hrun : ∀ w, (Instr.sliceAt t (.slice (some a') len c') lo' hi' mx').run P w = .ok (.slice (some (if m' = ll then a' else a'.add (ll * n))) (hh - ll) (m' - ll)) w := fun w => by
                have hb1 := (hb w).1
                rw [← hm'] at hb1
                simp only [Instr.sliceAt, Instr.slice, Sem.run_bind, run_under hu, Result.andThen_ok, hb1, run_size hsz, Sem.run_pure]
                congr 2
                split <;> rfl
              refine ⟨_, hrun, ?_⟩
              obtain ⟨-, hlh, hmc, hi0, hi1⟩ := hb default
              split at h
              · -- a row whose room is known
                rename_i q
                simp at h; subst h
                have hmm : m' = m := by
                  subst hm'
                  cases mx with
                  | none =>
                    simp [aBound] at hm
                    cases hr : ρ b with
                    | no => simp [SRel, hr] at hs
                    | gone x => simp only [SRel, hr] at hs; simp; omega
                    | live c k x => simp only [SRel, hr] at hs; simp; omega
                  | some _ => rfl
                rw [hmm]
                by_cases e : m = ll
                · rw [if_pos e, if_pos e]
                  refine .slice ?_
                  cases hr : ρ b with
                  | no => simp [SRel, hr] at hs
                  | gone x => simp [SRel, hr]
                  | live c k x => simp [SRel, hr, e]
                · rw [if_neg e, if_neg e]
                  refine .slice ?_
                  cases hr : ρ b with
                  | no => simp [SRel, hr] at hs
                  | gone x => simp [SRel, hr]
                  | live c k x =>
                    simp only [SRel, hr] at hs ⊢
                    refine ⟨.inr ?_, by simp⟩
                    rcases hs.1 with h0 | h0
                    · omega
                    · rw [h0, Addr.add_mid, Nat.add_assoc]
              · rename_i q
                simp at h; subst h
                simp [aBound] at hm
                simp at hm'
                subst hm'
                refine .slice ?_
                cases hr : ρ b with
                | no => simp [SRel, hr] at hs
                | gone x => simp only [SRel, hr] at hs ⊢; omega
                | live c k x =>
                  simp only [SRel, hr] at hs ⊢
                  refine ⟨?_, by omega⟩
                  by_cases e : m' = ll
                  · left; omega
                  · rw [if_neg e]
                    rcases hs.1 with h0 | h0
                    · left; omega
                    · right; rw [h0, Addr.add_mid, Nat.add_assoc]
              · split at h
                · rename_i e
                  simp at h; subst h
                  simp at hm'
                  subst hm'
                  rw [e.2, e.1, Nat.sub_self]
                  refine .slice ?_
                  cases hr : ρ b with
                  | no => simp [SRel, hr] at hs
                  | gone x => simp [SRel, hr]
                  | live c k x => simp [SRel, hr]
                · cases h
          · cases h
        · cases h
      · cases h
  · rename_i n e b o hu
    cases hx
    rename_i a' hp
    split at h
    · cases h
    · cases mx' with
      | some _ => exact hmx.elim
      | none =>
      split at h
      · rename_i hh hhe
        split at h
        · rename_i ll hle
          split at h
          · rename_i k hsz
            simp at h; subst h
            have hb := fun w => (bounds_run (P := P) (isSlice := false) (len := n) (mx := none) (mx' := none) hlo hhi trivial (m := n) (cap := n) rfl hhe hle (.inl rfl) (Nat.le_refl _) w).1
            refine ⟨.slice (some (if n = ll then a' else a'.add (ll * k))) (hh - ll) (n - ll), fun w => ?_, ?_⟩
            · have hb1 := hb w
              simp only [Option.elim_none] at hb1
              simp only [Instr.sliceAt, Instr.sureAddr, Sem.run_bind, run_under hu, Result.andThen_ok, Sem.run_pure, hb1, run_size hsz]
            · by_cases e : n = ll
              · rw [if_pos e, if_pos e]
                refine .slice ?_
                cases hr : ρ b with
                | no => simp [PRel, hr] at hp
                | gone x => simp [SRel, hr]
                | live c q x => simp [SRel, hr, e]
              · rw [if_neg e, if_neg e]
                refine .slice ?_
                cases hr : ρ b with
                | no => simp [PRel, hr] at hp
                | gone x => simp [SRel, hr]
                | live c q x => simp only [PRel, hr] at hp; simp only [SRel, hr]; exact ⟨.inr (by rw [hp, Addr.add_mid, Nat.add_assoc]), by simp⟩
          · cases h
        · cases h
      · cases h
  · cases h

theorem indexAddr_run {ρ : Rho} {t : TypeId} {x x' i i' v : Value} (h : aIndexAddr P t x i = some v) (hx : VRel ρ x x') (hi : VRel ρ i i') :
    ∃ v', (∀ w, (Instr.indexAt t x' i').run P w = .ok v' w) ∧ VRel ρ v v' := by
  unfold aIndexAddr at h
  split at h
  · rename_i k i
    cases hi
    split at h
    · rename_i len e b o hu
      cases hx
      rename_i a' hp
      split at h
      · rename_i n hsz
        split at h
        · rename_i hb
          simp at h; subst h
          refine ⟨.pointer (some (a'.add (i.toNat * n))), fun w => ?_, .ptr ?_⟩
          · simp only [Instr.indexAt, asIntOf, Instr.sureAddr, Sem.run_bind, Sem.run_pure, run_under hu, Result.andThen_ok, run_size hsz, hb, and_self, if_true]
          · cases hr : ρ b with
            | no => simp [PRel, hr] at hp
            | gone x => simp [PRel, hr]
            | live c q x => simp only [PRel, hr] at hp ⊢; rw [hp, Addr.add_mid, Nat.add_assoc]
        · cases h
      · cases h
    · rename_i e b o s len cap hu
      cases hx
      rename_i a' c' hp
      split at h
      · rename_i n hsz
        split at h
        · rename_i hb
          simp at h; subst h
          refine ⟨.pointer (some (a'.add (i.toNat * n))), fun w => ?_, .ptr ?_⟩
          · simp only [Instr.indexAt, asIntOf, Sem.run_bind, Sem.run_pure, run_under hu, Result.andThen_ok, run_size hsz, hb.1, hb.2.1, and_self, if_true]
          · cases hr : ρ b with
            | no => simp [SRel, hr] at hp
            | gone x => simp [PRel, hr]
            | live c q x =>
              simp only [SRel, hr] at hp; simp only [PRel, hr]
              rcases hp.1 with h0 | h0
              · omega
              · rw [h0, Addr.add_mid, Nat.add_assoc]
        · cases h
      · cases h
    · cases h
  · cases h

theorem index_run {ρ : Rho} {t : TypeId} {x x' i i' v : Value} (h : aIndex P t x i = some v) (hx : VRel ρ x x') (hi : VRel ρ i i') (w : World) :
    ∃ v', (Instr.index t x' i').run P w = .ok v' w ∧ VRel ρ v v' := by
  unfold aIndex at h
  split at h
  · rename_i k i
    cases hi
    split at h
    · rename_i len e cs hu
      obtain ⟨cs', rfl⟩ : ∃ q, x' = .agg q := by cases hx; exact ⟨_, rfl⟩
      split at h
      · rename_i n hsz
        split at h
        · rename_i hb
          obtain ⟨v', hv', hr⟩ := part_rel (vs_agg hx) h w
          exact ⟨v', by simp only [Instr.index, asIntOf, Sem.run_bind, Sem.run_pure, run_under hu, Result.andThen_ok, hb, and_self, if_true, run_size hsz, hv'], hr⟩
        · cases h
      · cases h
    · rename_i s hu
      cases hx
      split at h
      · rename_i h0
        split at h
        · rename_i b hb
          simp at h; subst h
          refine ⟨_, ?_, .int _ _⟩
          have hb' : s[i.toNat]? = some b := by
            rw [List.getElem?_eq_some_iff] at hb
            obtain ⟨hi, rfl⟩ := hb
            have hi' : i.toNat < s.size := by have : s.size = s.data.toList.length := by rw [Array.length_toList]; rfl
                                              omega
            rw [getElem?_pos s i.toNat hi']; simp only [Array.getElem_toList]; rfl
          simp only [Instr.index, asIntOf, Sem.run_bind, Sem.run_pure, run_under hu, Result.andThen_ok, h0, if_true, hb']
        · cases h
      · cases h
    · cases h
  · cases h

theorem fieldAddr_run {ρ : Rho} {s : TypeId} {x x' v : Value} {j : Nat} (h : aFieldAddr P s x j = some v) (hx : VRel ρ x x') :
    ∃ v', (∀ w, (Instr.fieldAt s x' j).run P w = .ok v' w) ∧ VRel ρ v v' := by
  unfold aFieldAddr at h
  split at h
  · rename_i fs b o hu
    cases hx
    rename_i a' hp
    split at h
    · rename_i fd hf
      split at h
      · rename_i n hsz
        simp at h; subst h
        refine ⟨.pointer (some (a'.add fd.offset)), fun w => ?_, .ptr ?_⟩
        · simp only [Instr.fieldAt, Instr.sureAddr, fieldPlace, Sem.run_bind, Sem.run_pure, run_under hu, Result.andThen_ok, hf, run_size hsz]
          simp
        · cases hr : ρ b with
          | no => simp [PRel, hr] at hp
          | gone x => simp [PRel, hr]
          | live c q x => simp only [PRel, hr] at hp ⊢; rw [hp, Addr.add_mid, Nat.add_assoc]
      · cases h
    · cases h
  · cases h

theorem field_run {ρ : Rho} {s : TypeId} {x x' v : Value} {j : Nat} (h : aField P s x j = some v) (hx : VRel ρ x x') (w : World) :
    ∃ v', (Instr.field s x' j).run P w = .ok v' w ∧ VRel ρ v v' := by
  unfold aField at h
  split at h
  · rename_i fs cs hu
    obtain ⟨cs', rfl⟩ : ∃ q, x' = .agg q := by cases hx; exact ⟨_, rfl⟩
    split at h
    · rename_i fd hf
      obtain ⟨v', hv', hr⟩ := part_rel (vs_agg hx) h w
      exact ⟨v', by simp only [Instr.field, asAgg, Sem.run_bind, Sem.run_pure, run_under hu, Result.andThen_ok, hf, hv'], hr⟩
    · cases h
  · cases h

/-! ### parts laid into cells -/
theorem putAt_get : ∀ (cs : List Value) (o : Nat) (vs cs' : List Value), putAt cs o vs = some cs' → cs'.length = cs.length ∧ (vs ≠ [] → o + vs.length ≤ cs.length) ∧
    ∀ i, cs'[i]? = if o ≤ i ∧ i < o + vs.length then vs[i - o]? else cs[i]?
  | cs, o, [], cs', h => by
    have : putAt cs o [] = some cs := by cases cs <;> rfl
    rw [this] at h; simp at h; subst h
    exact ⟨rfl, fun e => (e rfl).elim, fun i => by rw [if_neg (by simp only [List.length_nil]; omega)]⟩
  | [], o, v :: vs, cs', h => by simp [putAt] at h
  | c :: cs, 0, v :: vs, cs', h => by
    simp only [putAt] at h
    cases hp : putAt cs 0 vs with
    | none => simp [hp] at h
    | some r =>
      simp [hp] at h; subst h
      obtain ⟨h1, h2, h3⟩ := putAt_get cs 0 vs r hp
      refine ⟨by simp [h1], fun _ => ?_, fun i => ?_⟩
      · cases vs with
        | nil => simp
        | cons _ _ => have := h2 (by simp); simp at this ⊢; omega
      · cases i with
        | zero => simp
        | succ i =>
          simp only [List.getElem?_cons_succ, h3 i, Nat.zero_le, true_and, Nat.zero_add, List.length_cons, Nat.sub_zero]
          by_cases e : i < vs.length
          · rw [if_pos e, if_pos (by omega)]
          · rw [if_neg e, if_neg (by omega)]
  | c :: cs, o + 1, v :: vs, cs', h => by
    simp only [putAt] at h
    cases hp : putAt cs o (v :: vs) with
    | none => simp [hp] at h
    | some r =>
      simp [hp] at h; subst h
      obtain ⟨h1, h2, h3⟩ := putAt_get cs o (v :: vs) r hp
      refine ⟨by simp [h1], fun _ => ?_, fun i => ?_⟩
      · have := h2 (by simp); simp at this ⊢; omega
      · cases i with
        | zero => rw [if_neg (by omega)]; simp
        | succ i =>
          simp only [List.getElem?_cons_succ, h3 i]
          by_cases e : o ≤ i ∧ i < o + (v :: vs).length
          · rw [if_pos e, if_pos (by omega), Nat.add_sub_add_right]
          · rw [if_neg e, if_neg (by omega)]

theorem putAt_rel {ρ : Rho} {cs : List Value} {o : Nat} {vs cs' ds ws ds' : List Value} (h : putAt cs o vs = some cs') (hc : VsRel ρ cs ds) (hv : VsRel ρ vs ws)
    (hl : ds'.length = ds.length) (hd : ∀ i, ds'[i]? = if o ≤ i ∧ i < o + ws.length then ws[i - o]? else ds[i]?) : VsRel ρ cs' ds' := by
  obtain ⟨h1, h2, h3⟩ := putAt_get _ _ _ _ h
  refine LRel.of_get (by rw [h1, hl]; exact hc.length) fun i x hx => ?_
  rw [h3] at hx
  rw [hd, ← hv.length]
  split at hx
  · rename_i hi
    rw [if_pos hi]; exact hv.get _ _ hx
  · rename_i hi
    rw [if_neg hi]; exact hc.get _ _ hx

theorem foldl_set (off : Nat) : ∀ (l : List Value) (k : Nat) (arr : Array Value), ((l.zipIdx k).foldl (fun cs (x : Value × Nat) => cs.setIfInBounds (off + x.2) x.1) arr).size = arr.size
  | [], k, arr => rfl
  | v :: l, k, arr => by simp only [List.zipIdx_cons, List.foldl_cons]; rw [foldl_set off l (k + 1)]; simp
theorem foldl_get (off : Nat) : ∀ (l : List Value) (k : Nat) (arr : Array Value), off + k + l.length ≤ arr.size → ∀ i, ((l.zipIdx k).foldl (fun cs (x : Value × Nat) => cs.setIfInBounds (off + x.2) x.1) arr)[i]? =
    if off + k ≤ i ∧ i < off + k + l.length then l[i - (off + k)]? else arr[i]?
  | [], k, arr, _, i => by rw [if_neg (by simp only [List.length_nil]; omega)]; rfl
  | v :: l, k, arr, hs, i => by
    simp only [List.zipIdx_cons, List.foldl_cons]
    rw [foldl_get off l (k + 1) _ (by simp at hs ⊢; omega)]
    simp only [List.length_cons] at hs ⊢
    by_cases e : i = off + k
    · subst e
      rw [if_neg (by omega), if_pos (by omega), Nat.sub_self]
      simp [Array.getElem?_setIfInBounds]
      try omega
    · by_cases e2 : off + (k + 1) ≤ i ∧ i < off + (k + 1) + l.length
      · rw [if_pos e2, if_pos (by omega), show i - (off + k) = (i - (off + (k + 1))) + 1 by omega]; simp
      · rw [if_neg e2, if_neg (by omega), Array.getElem?_setIfInBounds, if_neg (by omega)]

theorem fill_rel {ρ : Rho} {place : Nat → Option (Nat × Nat)} : ∀ {parts parts' : List (Nat × Value)} {cs cs' : List Value} {arr : Array Value}, fillL place cs parts = some cs' →
    LRel (fun (p q : Nat × Value) => p.1 = q.1 ∧ VRel ρ p.2 q.2) parts parts' → VsRel ρ cs arr.toList → ∃ arr', Instr.fill place arr parts' = some arr' ∧ VsRel ρ cs' arr'.toList
  | [], [], cs, cs', arr, h, _, hc => by simp [fillL] at h; subst h; exact ⟨arr, rfl, hc⟩
  | (i, v) :: r, (i', v') :: r', cs, cs', arr, h, hp, hc => by
    obtain ⟨⟨rfl, hv⟩, hr⟩ := hp
    simp only [fillL] at h
    cases hpl : place i with
    | none => simp [hpl] at h
    | some os =>
      obtain ⟨off, size⟩ := os
      simp only [hpl] at h
      cases hb : Nat.beq v.cells.size size && Nat.ble (off + size) cs.length with
      | false => simp [hb] at h
      | true =>
        simp only [hb, cond_true] at h
        rw [Bool.and_eq_true] at hb
        have hsz : v.cells.size = size := Nat.eq_of_beq_eq_true hb.1
        have hfit : off + size ≤ cs.length := Nat.le_of_ble_eq_true hb.2
        cases hq : putAt cs off v.cells.toList with
        | none => simp [hq] at h
        | some cs1 =>
          simp only [hq] at h
          have hlen := hc.length
          have hvs : v.cells.size = v'.cells.size := hv.size
          have hal : cs.length = arr.size := by simpa using hlen
          have hfit' : off + 0 + v'.cells.toList.length ≤ arr.size := by rw [Array.length_toList]; omega
          have hz : v'.cells.zipIdx.foldl (fun cs (x : Value × Nat) => cs.setIfInBounds (off + x.2) x.1) arr = (v'.cells.toList.zipIdx 0).foldl (fun cs (x : Value × Nat) => cs.setIfInBounds (off + x.2) x.1) arr := by
            rw [← Array.foldl_toList]; simp
          have hnext : VsRel ρ cs1 ((v'.cells.toList.zipIdx 0).foldl (fun cs (x : Value × Nat) => cs.setIfInBounds (off + x.2) x.1) arr).toList := by
            refine putAt_rel hq hc hv.cells (by simp [foldl_set]) fun i => ?_
            have := foldl_get off v'.cells.toList 0 arr hfit' i
            simpa using this
          obtain ⟨arr', ha, hr'⟩ := fill_rel h hr hnext
          refine ⟨arr', ?_, hr'⟩
          have hcond : (decide (v'.cells.size ≠ size) || decide (off + v'.cells.size > arr.size)) = false := by simp; omega
          simp only [Instr.fill, hpl]
          rw [← ha, ← hz]
          have h1 : ¬ (v'.cells.size ≠ size) := by omega
          have h2 : ¬ (off + v'.cells.size > arr.size) := by omega
          simp [h1, h2]
  | [], _ :: _, _, _, _, _, hp, _ => hp.elim
  | _ :: _, [], _, _, _, _, hp, _ => hp.elim
end Go.AX
namespace Go.AX
open Go Go.RowKit
set_option linter.unusedVariables false
set_option linter.unusedSimpArgs false

variable {P : Program}

theorem places_run (w : World) : ∀ {l : List Field} {pl : List (Nat × Nat)}, places P l = some pl →
    (l.mapM (m := Sem) fun f => do pure (f.offset, ← sizeOf f.type)).run P w = .ok pl w
  | [], pl, h => by simp [places] at h; subst h; rfl
  | f :: r, pl, h => by
    simp only [places] at h
    cases h1 : sizeT P f.type with
    | none => simp [h1] at h
    | some n => cases h2 : places P r with
      | none => simp [h1, h2] at h
      | some l =>
        simp [h1, h2] at h; subst h
        simp only [List.mapM_cons, Sem.run_bind, run_size h1, Result.andThen_ok, Sem.run_pure, places_run w h2]

theorem build_run {ρ : Rho} {t : TypeId} {parts parts' : List (Nat × Value)} {v : Value} (h : aBuild P t parts = some v)
    (hp : LRel (fun (p q : Nat × Value) => p.1 = q.1 ∧ VRel ρ p.2 q.2) parts parts') : ∃ v', (∀ w, (Instr.build t parts'.toArray).run P w = .ok v' w) ∧ VRel ρ v v' := by
  unfold aBuild at h
  split at h
  · cases h
  · rename_i z hz
    have hzp := (run_zero (P := P) hz default).2
    have hzr : VsRel ρ z.cells.toList z.cells.toList := (vrel_plain ρ 9 z hzp).cells
    split at h
    · rename_i fs hu
      split at h
      · rename_i pl hpl
        cases hf : fillL (pl[·]?) z.cells.toList parts with
        | none => simp [hf] at h
        | some cs =>
          simp [hf] at h; subst h
          obtain ⟨arr', ha, hr⟩ := fill_rel hf hp hzr
          refine ⟨.agg arr', fun w => ?_, ?_⟩
          · have hpr : (fs.mapM (m := Sem) fun f => do pure (f.offset, ← sizeOf f.type)).run P w = .ok pl.toArray w := by
              rw [Array.mapM_eq_mapM_toList]
              simp only [Sem.run_map, places_run w hpl, Result.andThen_ok]
            have ha' : Instr.fill (fun i => (pl.toArray)[i]?) z.cells parts' = some arr' := by simpa using ha
            simp only [Instr.build, Sem.run_bind, (run_zero (P := P) hz w).1, run_under hu, Result.andThen_ok, hpr, ha', Sem.run_pure]
          · exact .agg (by simpa using hr.length) fun i p q => (idx_of_vs (xs := cs.toArray) (ys := arr') (by simpa using hr)).2 i p q
      · cases h
    · rename_i n e hu
      split at h
      · rename_i sz hsz
        cases hf : fillL (fun i => some (i * sz, sz)) z.cells.toList parts with
        | none => simp [hf] at h
        | some cs =>
          simp [hf] at h; subst h
          obtain ⟨arr', ha, hr⟩ := fill_rel hf hp hzr
          refine ⟨.agg arr', fun w => ?_, ?_⟩
          · simp only [Instr.build, Sem.run_bind, (run_zero (P := P) hz w).1, run_under hu, Result.andThen_ok, run_size hsz, ha, Sem.run_pure]
          · exact .agg (by simpa using hr.length) fun i p q => (idx_of_vs (xs := cs.toArray) (ys := arr') (by simpa using hr)).2 i p q
      · cases h
    · cases h

theorem min_fold (w : World) : ∀ {l l' : List Value} {v x : Value} {ρ : Rho}, aMM true x l = some v → VsRel ρ l l' → (∃ k n, x = .int k n) → (l'.foldlM Builtin.min2 x).run P w = .ok v w ∧ ∃ k n, v = .int k n
  | [], [], v, x, ρ, h, _, hx => by simp [aMM] at h; subst h; exact ⟨rfl, hx⟩
  | y :: r, y' :: r', v, x, ρ, h, hr, hx => by
    obtain ⟨k, n, rfl⟩ := hx
    cases y <;> simp only [aMM] at h <;> try (cases h; done)
    obtain ⟨h1, h2⟩ := hr
    cases h1
    split at h
    · rename_i e; subst e
      simp only [cond_true] at h
      have := min_fold w h h2 ⟨_, _, rfl⟩
      simp only [List.foldlM_cons, Builtin.min2, Sem.run_bind, Sem.run_pure, Result.andThen_ok]
      exact this
    · cases h
  | [], _ :: _, _, _, _, _, h, _ => h.elim
  | _ :: _, [], _, _, _, _, h, _ => h.elim
theorem max_fold (w : World) : ∀ {l l' : List Value} {v x : Value} {ρ : Rho}, aMM false x l = some v → VsRel ρ l l' → (∃ k n, x = .int k n) → (l'.foldlM Builtin.max2 x).run P w = .ok v w ∧ ∃ k n, v = .int k n
  | [], [], v, x, ρ, h, _, hx => by simp [aMM] at h; subst h; exact ⟨rfl, hx⟩
  | y :: r, y' :: r', v, x, ρ, h, hr, hx => by
    obtain ⟨k, n, rfl⟩ := hx
    cases y <;> simp only [aMM] at h <;> try (cases h; done)
    obtain ⟨h1, h2⟩ := hr
    cases h1
    split at h
    · rename_i e; subst e
      simp only [cond_false] at h
      have := max_fold w h h2 ⟨_, _, rfl⟩
      simp only [List.foldlM_cons, Builtin.max2, Sem.run_bind, Sem.run_pure, Result.andThen_ok]
      exact this
    · cases h
  | [], _ :: _, _, _, _, _, h, _ => h.elim
  | _ :: _, [], _, _, _, _, h, _ => h.elim

theorem lenCap_run {ρ : Rho} {b : Bool} {t : TypeId} {x x' v : Value} (h : aLenCap P b t x = some v) (hx : VRel ρ x x') (ts : Array TypeId) (ht : ts[0]? = some t) (ty : TypeId) (args : Array Value) (ha : args[0]? = some x') (w : World) :
    ((if b then Builtin.len_ ts ty args else Builtin.cap_ ts ty args) : Sem Value).run P w = .ok v w ∧ VRel ρ v v := by
  unfold aLenCap at h
  cases b
  · simp only [Bool.false_eq_true, if_false, Builtin.cap_, ht, ha, Sem.run_bind]
    split at h
    · simp at h
    · rename_i n e hu
      simp at h; subst h
      simp only [run_under hu, Result.andThen_ok]
      exact ⟨by cases hx <;> rfl, .int _ _⟩
    · rename_i e a n c hu
      simp only [cond_false] at h
      split at h
      · cases h
      · rename_i hne
        simp at h; subst h
        simp only [run_under hu, Result.andThen_ok]
        cases hx with
        | snil => exact ⟨rfl, .int _ _⟩
        | @slice b o s n c a' c' hs =>
          cases s with
          | some q => exact (hne _ _ _ rfl).elim
          | none =>
            have : c' = c := by
              cases hr : ρ b with
              | no => simp [SRel, hr] at hs
              | gone x => simp only [SRel, hr] at hs; omega
              | live c k x => simp only [SRel, hr] at hs; omega
            subst this
            exact ⟨rfl, .int _ _⟩
    · simp at h
    · cases h
  · simp only [if_true, Builtin.len_, ht, ha, Sem.run_bind]
    split at h
    · rename_i s hu
      simp at h; subst h
      cases hx
      simp only [run_under hu, Result.andThen_ok]
      exact ⟨rfl, .int _ _⟩
    · rename_i n e hu
      simp at h; subst h
      simp only [run_under hu, Result.andThen_ok]
      exact ⟨by cases hx <;> rfl, .int _ _⟩
    · rename_i e a n c hu
      simp at h; subst h
      simp only [run_under hu, Result.andThen_ok]
      cases hx <;> exact ⟨rfl, .int _ _⟩
    · rename_i hu
      simp at h; subst h
      simp only [run_under hu, Result.andThen_ok]
      cases hx
      exact ⟨rfl, .int _ _⟩
    · cases h

theorem map_get {f : Fr} {a : Act} {ρ : Rho} (hf : FRel ρ f a) {xs : Array Operand} {x : Value} (h : (xs[0]?).bind (evO f) = some x) : ∃ x', (xs.map a.eval)[0]? = some x' ∧ VRel ρ x x' := by
  cases h0 : xs[0]? with
  | none => simp [h0] at h
  | some o => simp [h0] at h; exact ⟨a.eval o, by simp [h0], evO_rel hf h⟩

/-- What an operation computes. -/
theorem quiet_run {ρ : Rho} {f : Fr} {a : Act} {o : Oper} {v : Value} (hf : FRel ρ f a) (h : aQuiet P f o.op = some v) (w : World) :
    ∃ v', (execOp a.eval o).run P w = .ok (.value v') w ∧ VRel ρ v v' := by
  cases ho : o.op <;> simp only [ho, aQuiet] at h <;> try (cases h; done)
  case move x => exact ⟨_, by simp only [execOp, ho]; rfl, evO_rel hf h⟩
  case assign x => exact ⟨_, by simp only [execOp, ho]; rfl, evO_rel hf h⟩
  case pick c x y =>
    split at h
    · rename_i t hc
      have hcr := evO_rel hf hc
      generalize hcv : a.eval c = cv at hcr
      cases hcr
      cases t with
      | true => simp only [cond_true] at h; exact ⟨_, by simp only [execOp, ho, hcv, asBool]; rfl, evO_rel hf h⟩
      | false => simp only [cond_false] at h; exact ⟨_, by simp only [execOp, ho, hcv, asBool]; rfl, evO_rel hf h⟩
    · cases h
  case nilCheck x =>
    split at h
    · rename_i b hx
      simp at h; subst h
      have hr := evO_rel hf hx
      generalize hv : a.eval x = xv at hr
      cases hr
      rename_i b o a' hp
      exact ⟨_, by simp only [execOp, ho, hv]; rfl, .ptr hp⟩
    · rename_i g fi ca hx
      simp at h; subst h
      have hr := evO_rel hf hx
      generalize hv : a.eval x = xv at hr
      cases hr with
      | func fn p1 p2 p3 p4 => exact ⟨_, by simp only [execOp, ho, hv]; rfl, .func _ p1 p2 p3 p4⟩
    · cases h
  case build t ps =>
    split at h
    · rename_i l hl
      have hr := partsL_rel hf hl
      obtain ⟨v', hv, hrel⟩ := build_run h hr
      refine ⟨v', ?_, hrel⟩
      have : ps.map (fun (x : Nat × Operand) => (x.1, a.eval x.2)) = (ps.toList.map fun (i, x) => (i, a.eval x)).toArray := by apply Array.ext'; simp only [Array.toList_map]
      simp only [execOp, ho, Sem.run_bind]
      rw [this, hv w]; rfl
    · cases h
  case binOp op t x y yt =>
    split at h
    · rename_i u v2 hx hy
      obtain ⟨h1, h2⟩ := bin_run (P := P) h (evO_rel hf hx) (evO_rel hf hy) w
      refine ⟨v, ?_, h2⟩
      simp only [execOp, ho]
      rw [Sem.run_bind, h1]; rfl
    · cases h
  case unOp op t x =>
    split at h
    · rename_i u hx
      have hr := evO_rel hf hx
      generalize hv : a.eval x = xv at hr
      unfold aUn at h
      split at h
      · cases hr
        have := (int_run (P := P) (op := .sub) rfl h 0 w)
        simp only [aInt] at h; cases h
        exact ⟨_, by simp only [execOp, ho, hv, Op.unary, Op.intArith, Sem.run_bind]; rfl, .int _ _⟩
      · cases hr
        simp only [aInt] at h; cases h
        exact ⟨_, by simp only [execOp, ho, hv, Op.unary, Op.intBits, Sem.run_bind]; rfl, .int _ _⟩
      · cases hr
        cases h
        exact ⟨_, by simp only [execOp, ho, hv, Op.unary, Sem.run_bind]; rfl, .bool _⟩
      · cases h
    · cases h
  case convert s d x =>
    split at h
    · rename_i u hx
      have hr := evO_rel hf hx
      generalize hv : a.eval x = xv at hr
      unfold aConv at h
      split at h
      · rename_i ds k k2 n h1 h2
        cases hr; cases h
        refine ⟨_, ?_, .int _ _⟩
        simp only [execOp, ho, hv, Go.convert, Sem.run_bind, run_under h1, run_under h2, Result.andThen_ok, Conv.intToInt]
        rfl
      · rename_i ds s2 h1 h2
        cases hr; cases h
        refine ⟨_, ?_, .string _⟩
        simp only [execOp, ho, hv, Go.convert, Sem.run_bind, run_under h1, run_under h2, Result.andThen_ok]
        cases ds <;> rfl
      · cases h
    · cases h
  case makeInterface t x =>
    split at h
    · cases h
    · rename_i u d hn hx hu
      simp at h; subst h
      refine ⟨_, ?_, .iface t (evO_rel hf hx)⟩
      simp only [execOp, ho, Instr.makeInterface, Sem.run_bind, run_under hu, Result.andThen_ok]
      cases d <;> first | rfl | exact (hn _ rfl).elim
    · cases h
  case makeFunc fn first captured =>
    split at h
    · rename_i l1 l2 h1 h2
      simp at h; subst h
      have r1 := evL_rel hf h1
      have r2 := evL_rel hf h2
      refine ⟨_, by simp only [execOp, ho, Instr.makeFunc, Sem.run_bind]; rfl, ?_⟩
      have e1 := idx_of_vs (ρ := ρ) (xs := l1.toArray) (ys := first.map a.eval) (by simpa using r1)
      have e2 := idx_of_vs (ρ := ρ) (xs := l2.toArray) (ys := captured.map a.eval) (by simpa using r2)
      exact .func fn e1.1 e2.1 e1.2 e2.2
    · cases h
  case slice t x lo hi mx =>
    split at h
    · rename_i u l2 h2 m2 hx hl hh hm
      obtain ⟨v', hv, hr⟩ := slice_run h (evO_rel hf hx) (evM_rel hf hl) (evM_rel hf hh) (evM_rel hf hm)
      exact ⟨v', by simp only [execOp, ho, Sem.run_bind]; rw [hv w]; rfl, hr⟩
    · cases h
  case fieldAddr s x j =>
    split at h
    · rename_i u hx
      obtain ⟨v', hv, hr⟩ := fieldAddr_run h (evO_rel hf hx)
      exact ⟨v', by simp only [execOp, ho, Sem.run_bind]; rw [hv w]; rfl, hr⟩
    · cases h
  case field s x j =>
    split at h
    · rename_i u hx
      obtain ⟨v', hv, hr⟩ := field_run h (evO_rel hf hx) w
      exact ⟨v', by simp only [execOp, ho, Sem.run_bind]; rw [hv]; rfl, hr⟩
    · cases h
  case indexAddr t x i =>
    split at h
    · rename_i u u2 hx hi
      obtain ⟨v', hv, hr⟩ := indexAddr_run h (evO_rel hf hx) (evO_rel hf hi)
      exact ⟨v', by simp only [execOp, ho, Sem.run_bind]; rw [hv w]; rfl, hr⟩
    · cases h
  case index t x i =>
    split at h
    · rename_i u u2 hx hi
      obtain ⟨v', hv, hr⟩ := index_run h (evO_rel hf hx) (evO_rel hf hi) w
      exact ⟨v', by simp only [execOp, ho, Sem.run_bind]; rw [hv]; rfl, hr⟩
    · cases h
  case extract t i =>
    split at h
    · rename_i vs hx
      have hr := evO_rel hf hx
      generalize hv : a.eval t = tv at hr
      cases hr
      rename_i ys h1 h2
      have hvs := vs_of_idx h1 h2
      obtain ⟨v', hv', hr'⟩ := hvs.get i v (by simpa using h)
      have hv2 : ys[i]? = some v' := by simpa using hv'
      refine ⟨v', ?_, hr'⟩
      simp only [execOp, ho, hv, Instr.extract, hv2, Sem.run_bind]; rfl
    · cases h
  case typeAssert x xt d ok =>
    split at h
    · rename_i u hx
      have hr := evO_rel hf hx
      generalize hv : a.eval x = xv at hr
      unfold aAssert at h
      split at h
      · rename_i td hd
        cases hi : isIfaceD td with
        | true => simp [hi] at h
        | false =>
          simp only [hi, cond_false] at h
          have hni : ∀ ms, td ≠ .interface ms := fun ms e => by subst e; simp [isIfaceD] at hi
          have hfails : (ok = true → (execOp a.eval o).run P w = ((zeroValue d).run P w).andThen fun z w' => .ok (.value (.tuple #[z, .bool false])) w') → (bif ok then (zeroOf P d).map fun z => Value.tuple #[z, .bool false] else none) = some v →
              ∃ v', (execOp a.eval o).run P w = .ok (.value v') w ∧ VRel ρ v v' := by
            intro hrun hz
            cases ok with
            | false => simp at hz
            | true =>
              simp only [cond_true, Option.map_eq_some_iff] at hz
              obtain ⟨z, hz, rfl⟩ := hz
              obtain ⟨z1, z2⟩ := run_zero (P := P) hz w
              refine ⟨_, by rw [hrun rfl, z1]; rfl, ?_⟩
              exact VRel.mkTuple (xs := [z, .bool false]) (ys := [z, .bool false]) ⟨vrel_plain ρ 9 z z2, .bool _, trivial⟩
          split at h
          · cases hr
            refine hfails (fun hok => ?_) h
            subst hok
            simp only [execOp, ho, hv, Instr.typeAssert, Sem.run_bind, run_under hd, Result.andThen_ok]
            cases td <;> first | exact (hni _ rfl).elim | (simp only [if_true, Sem.run_bind, Sem.run_pure]; cases (zeroValue d).run P w <;> rfl)
          · rename_i t u'
            cases hr with
            | iface _ hr =>
            rename_i u2
            split at h
            · rename_i e
              subst e
              cases ok with
              | true =>
                simp at h; subst h
                refine ⟨.tuple #[u2, .bool true], ?_, VRel.mkTuple (xs := [u', .bool true]) (ys := [u2, .bool true]) ⟨hr, .bool _, trivial⟩⟩
                simp only [execOp, ho, hv, Instr.typeAssert, Sem.run_bind, run_under hd, Result.andThen_ok]
                cases td <;> first | exact (hni _ rfl).elim | (simp only [if_true, Sem.run_bind, Sem.run_pure]; rfl)
              | false =>
                simp at h; subst h
                refine ⟨u2, ?_, hr⟩
                simp only [execOp, ho, hv, Instr.typeAssert, Sem.run_bind, run_under hd, Result.andThen_ok]
                cases td <;> first | exact (hni _ rfl).elim | (simp only [if_true, Sem.run_bind, Sem.run_pure]; rfl)
            · rename_i e
              refine hfails (fun hok => ?_) h
              subst hok
              simp only [execOp, ho, hv, Instr.typeAssert, Sem.run_bind, run_under hd, Result.andThen_ok]
              cases td <;> first | exact (hni _ rfl).elim | (simp only [if_neg e, if_true, Sem.run_bind, Sem.run_pure]; cases (zeroValue d).run P w <;> rfl)
          · cases h
      · cases h
    · cases h
  case call c =>
    have hres : ∀ (b : Builtin), c.callee = .builtin b → (execOp a.eval o).run P w = (builtin b c.argTypes o.type (c.args.map fun | .const _ => true | _ => false) (c.args.map a.eval)).run P w := by
      intro b hb
      simp only [execOp, ho, resolve, hb, Sem.run_bind, Sem.run_pure, Result.andThen_ok, invoke]
      rfl
    split at h
    · rename_i hc
      split at h
      · rename_i t x ht hx
        obtain ⟨x', hx', hr⟩ := map_get hf hx
        have := lenCap_run (P := P) h hr c.argTypes ht o.type (c.args.map a.eval) hx' w
        simp only [if_true] at this
        exact ⟨v, by rw [hres _ hc]; simp only [builtin, Sem.run_bind, this.1]; rfl, this.2⟩
      · cases h
    · rename_i hc
      split at h
      · rename_i t x ht hx
        obtain ⟨x', hx', hr⟩ := map_get hf hx
        have := lenCap_run (P := P) h hr c.argTypes ht o.type (c.args.map a.eval) hx' w
        simp only [Bool.false_eq_true, if_false] at this
        exact ⟨v, by rw [hres _ hc]; simp only [builtin, Sem.run_bind, this.1]; rfl, this.2⟩
      · cases h
    · rename_i hc
      split at h
      · rename_i l hl
        have hr := evL_rel hf hl
        unfold aMinMax at h
        split at h
        · rename_i k n r
          cases hargs : c.args.toList.map a.eval with
          | nil => rw [hargs] at hr; exact hr.elim
          | cons y ys =>
            rw [hargs] at hr
            obtain ⟨h1, h2⟩ := hr
            cases h1
            obtain ⟨hm, k', n', rfl⟩ := min_fold (P := P) w h h2 ⟨_, _, rfl⟩
            refine ⟨_, ?_, .int _ _⟩
            rw [hres _ hc]
            have : (c.args.map a.eval).toList = .int k n :: ys := by rw [Array.toList_map]; exact hargs
            simp only [builtin, Builtin.min_, this, Sem.run_bind, hm]; rfl
        · cases h
      · cases h
    · rename_i hc
      split at h
      · rename_i l hl
        have hr := evL_rel hf hl
        unfold aMinMax at h
        split at h
        · rename_i k n r
          cases hargs : c.args.toList.map a.eval with
          | nil => rw [hargs] at hr; exact hr.elim
          | cons y ys =>
            rw [hargs] at hr
            obtain ⟨h1, h2⟩ := hr
            cases h1
            obtain ⟨hm, k', n', rfl⟩ := max_fold (P := P) w h h2 ⟨_, _, rfl⟩
            refine ⟨_, ?_, .int _ _⟩
            rw [hres _ hc]
            have : (c.args.map a.eval).toList = .int k n :: ys := by rw [Array.toList_map]; exact hargs
            simp only [builtin, Builtin.max_, this, Sem.run_bind, hm]; rfl
        · cases h
      · cases h
    · cases h
end Go.AX
