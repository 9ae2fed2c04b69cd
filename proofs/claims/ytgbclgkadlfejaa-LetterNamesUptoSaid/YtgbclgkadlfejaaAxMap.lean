/- Operations of maps. -/
import Derived.Test.YtgbclgkadlfejaaAxApp3
import Derived.MapKept
namespace Go.AX
open Go Go.RowKit
set_option linter.unusedVariables false
set_option linter.unusedSimpArgs false

variable {P : Program}

/-- A value without addresses is its own fellow. -/
theorem plain_eq {ρ : Rho} : ∀ (n : Nat) (v v' : Value), plainV n v = true → VRel ρ v v' → v' = v := by
  intro n
  induction n with
  | zero => intro v v' hp h; cases h <;> first | rfl | (simp [plainV] at hp; done)
  | succ n ih =>
    intro v v' hp h
    cases h with
    | iface t h => rw [ih _ _ (by simpa [plainV] using hp) h]
    | @agg xs ys h1 h =>
      have hx := List.all_eq_true.1 (show xs.toList.all (plainV n) = true from hp)
      congr 1
      refine (Array.ext h1 fun i p q => ?_).symm
      exact (ih _ _ (hx _ (Array.mem_toList_iff.2 (Array.getElem_mem p))) (h i p q)).symm
    | @tuple xs ys h1 h =>
      have hx := List.all_eq_true.1 (show xs.toList.all (plainV n) = true from hp)
      congr 1
      refine (Array.ext h1 fun i p q => ?_).symm
      exact (ih _ _ (hx _ (Array.mem_toList_iff.2 (Array.getElem_mem p))) (h i p q)).symm
    | _ => first | rfl | (simp [plainV] at hp; done)

theorem keyFields_run {chk : TypeId → Value → Bool} {e : Bool} {D : Nat} {ρ : Rho} {xs xs' : Array Value} (hx : VsRel ρ xs.toList xs'.toList)
    (hc : ∀ t u u', chk t u = true → VRel ρ u u' → ∀ w, (Instr.checkKey e D t u').run P w = .ok () w) (w : World) :
    ∀ (l : List Field), keyFields P chk xs l = true →
    (forIn (m := Sem) l () fun f __s =>
      if f.name ≠ "_" then do
        let __do_lift ← part f.type xs' f.offset
        Instr.checkKey e D f.type __do_lift
        pure (ForInStep.yield ())
      else pure (ForInStep.yield ())).run P w = .ok () w
  | [], h => by simp
  | f :: r, h => by
    simp only [keyFields, Bool.and_eq_true, Bool.or_eq_true] at h
    simp only [List.forIn_cons, Sem.run_bind]
    cases hn : (f.name == "_") with
    | true =>
      have hn' : ¬ (f.name ≠ "_") := by simpa using hn
      rw [if_neg hn']
      simp only [Sem.run_pure, Result.andThen_ok]
      exact keyFields_run hx hc w r h.2
    | false =>
      have hn' : f.name ≠ "_" := by simpa using hn
      rw [if_pos hn']
      have h1 := h.1
      rw [hn] at h1
      cases hp : partA P f.type xs f.offset with
      | none => simp [hp] at h1
      | some u =>
        obtain ⟨u', hu, hru⟩ := part_rel hx hp w
        simp [hp] at h1
        simp only [Sem.run_bind, hu, hc _ _ _ h1 hru w, Result.andThen_ok, Sem.run_pure]
        exact keyFields_run hx hc w r h.2

theorem keyChk_run : ∀ (d D : Nat) (t : TypeId) (x x' : Value) (ρ : Rho) (e : Bool), d ≤ D → keyChk P d t x = true → VRel ρ x x' → ∀ w, (Instr.checkKey e D t x').run P w = .ok () w := by
  intro d
  induction d with
  | zero => intro D t x x' ρ e hD h; simp [keyChk] at h
  | succ d ih =>
    intro D t x x' ρ e hD h hx w
    obtain ⟨D, rfl⟩ : ∃ m, D = m + 1 := ⟨D - 1, by omega⟩
    unfold Instr.checkKey
    cases hd : P.underlying t with
    | none => simp [keyChk, hd] at h
    | some desc =>
      simp only [Sem.run_bind, run_under hd, Result.andThen_ok]
      cases desc with
      | bool => rfl
      | int k => rfl
      | string => rfl
      | struct fs =>
        cases x with
        | agg cs =>
          cases hx with
          | agg h1 hh =>
            rename_i cs'
            simp only [keyChk, hd] at h
            have := keyFields_run (P := P) (e := e) (D := D) (vs_of_idx h1 hh) (fun t u u' hc hr w => ih D t u u' ρ e (by omega) hc hr w) w fs.toList h
            rw [Array.forIn_toList] at this
            dsimp only
            rw [Sem.run_bind]
            erw [this]
            rfl
        | _ => simp [keyChk, hd] at h
      | array len e' =>
        cases x with
        | agg cs =>
          cases hx with
          | agg h1 hh =>
            rename_i cs'
            simp only [keyChk, hd, Bool.and_eq_true] at h
            obtain ⟨⟨⟨g0, g1⟩, g2⟩, g3⟩ := h
            have g0' : 1 ≤ d := Nat.le_of_ble_eq_true g0
            have g3' : len ≤ cs.size := Nat.le_of_ble_eq_true g3
            have hone : ∃ d, P.underlying e' = some d ∧ isAggD d = false ∧ sizeT P e' = some 1 := by
              unfold oneT at g1
              split at g1
              · rename_i d n hd hn
                simp only [Bool.and_eq_true, Bool.not_eq_true'] at g1
                rw [Nat.eq_of_beq_eq_true g1.2] at hn
                exact ⟨d, hd, g1.1, hn⟩
              · cases g1
            obtain ⟨dd, hdd, hag, hsz⟩ := hone
            have hflat : ∀ (n : Nat) u, 0 < D → (Instr.checkKey e D e' u).run P w = .ok () w := by
              intro n u hD0
              obtain ⟨D', rfl⟩ : ∃ m, D = m + 1 := ⟨D - 1, by omega⟩
              unfold Instr.checkKey
              simp only [Sem.run_bind, run_under hdd, Result.andThen_ok]
              unfold flatT at g2
              rw [hdd] at g2
              cases dd <;> first | rfl | (simp at g2; done)
            have hloop : ∀ (m i : Nat), i + m ≤ cs'.size → (forIn (m := Sem) (List.range' i m) PUnit.unit fun j __s => do
                let __do_lift ← sizeOf e'
                let __do_lift ← part e' cs' (j * __do_lift)
                Instr.checkKey e D e' __do_lift
                pure (ForInStep.yield PUnit.unit)).run P w = .ok PUnit.unit w := by
              intro m
              induction m with
              | zero => intro i _; simp
              | succ m ihm =>
                intro i hi
                have hii : i < cs'.size := by omega
                have hpu : (part e' cs' (i * 1)).run P w = .ok cs'[i] w := by
                  simp [part, run_agg hdd w, hag, Nat.mul_one, Array.getElem?_eq_getElem hii]
                have hD0 : 0 < D := by omega
                simp only [List.range'_succ, List.forIn_cons, Sem.run_bind, run_size hsz, Result.andThen_ok, hpu, hflat 0 _ hD0, Sem.run_pure]
                exact ihm (i + 1) (by omega)
            have := hloop len 0 (by omega)
            dsimp only
            simp only [Sem.run_bind, Std.Legacy.Range.forIn_eq_forIn_range', Std.Legacy.Range.size, Nat.sub_zero, Nat.add_sub_cancel, Nat.div_one] at this ⊢
            first | exact this | (erw [this]; rfl)
        | _ => simp [keyChk, hd] at h
      | _ => simp [keyChk, hd] at h

/-! ### looking for a key -/
abbrev ERel (ρ : Rho) : List (Value × Value) → List MapEntry → Prop := LRel (fun (e : Value × Value) (e' : MapEntry) => VRel ρ e.1 e'.key ∧ VRel ρ e.2 e'.val)

def FRes (ρ : Rho) (i0 : Nat) (es : List (Value × Value)) (es' : List MapEntry) : Option (Nat × Value) → Option (Nat × Value) → Prop
  | none, none => True
  | some (i, v), some (j, v') => i = j ∧ VRel ρ v v' ∧ ∃ n, i = i0 + n ∧ n < es.length
  | _, _ => False

theorem FRes.step {ρ : Rho} {i0 : Nat} {e : Value × Value} {e' : MapEntry} {es : List (Value × Value)} {es' : List MapEntry} : ∀ {r : Option (Nat × Value)} {r' : Option (Nat × Value)}, FRes ρ (i0 + 1) es es' r r' → FRes ρ i0 (e :: es) (e' :: es') r r'
  | none, none, _ => trivial
  | some (i, v), some (j, v'), ⟨h1, h2, n, h3, h4⟩ => ⟨h1, h2, n + 1, by omega, by simpa using h4⟩
  | none, some _, h => h.elim
  | some _, none, h => h.elim

theorem findAsk_run {ρ : Rho} {t : TypeId} {k k' : Value} (hk : VRel ρ k k') (w : World) : ∀ (es : List (Value × Value)) (es' : List MapEntry) (i : Nat) (r : Option (Nat × Value)), ERel ρ es es' → findA P t k es i = some r →
    ∃ r', (Instr.findAsking t k' es' i).run P w = .ok r' w ∧ FRes ρ i es es' r r'
  | [], [], i, r, _, h => by simp [findA] at h; subst h; exact ⟨none, rfl, trivial⟩
  | (q, v) :: es, e' :: es', i, r, hr, h => by
    simp only [findA] at h
    cases he : aEqIn P 50 t k q with
    | none => simp [he] at h
    | some b =>
      have hrun := eq_run (P := P) 50 10000 t k q k' e'.key ρ b (by omega) he hk hr.1.1 w
      have hrun' : (Op.equal t k' e'.key).run P w = .ok b w := hrun
      simp only [Instr.findAsking, Sem.run_bind, hrun', Result.andThen_ok]
      cases b with
      | true =>
        simp [he] at h; subst h
        exact ⟨some (i, e'.val), rfl, rfl, hr.1.2, 0, rfl, by simp⟩
      | false =>
        simp [he] at h
        obtain ⟨r', h1, h2⟩ := findAsk_run hk w es es' (i + 1) r hr.2 h
        exact ⟨r', by simpa using h1, h2.step⟩
  | [], _ :: _, _, _, h, _ => h.elim
  | _ :: _, [], _, _, h, _ => h.elim

theorem sameNow_eq {ρ : Rho} {t : TypeId} {d : TypeDesc} (hd : P.underlying t = some d) {k k' q q' : Value} (hk : VRel ρ k k') (hq : VRel ρ q q') {b b' : Bool} (h : Instr.sameNow d k' q' = some b') (he : aEqIn P 50 t k q = some b) : b' = b := by
  cases d with
  | bool => cases hk <;> cases hq <;> simp [Instr.sameNow, aEqIn, hd] at h he <;> subst h <;> subst he <;> rfl
  | int _ =>
    cases hk <;> cases hq <;> simp [Instr.sameNow, aEqIn, hd] at h he
    obtain ⟨_, rfl⟩ := h; obtain ⟨_, rfl⟩ := he; rfl
  | string => cases hk <;> cases hq <;> simp [Instr.sameNow, aEqIn, hd] at h he <;> subst h <;> subst he <;> rfl
  | _ => cases hk <;> cases hq <;> simp [Instr.sameNow] at h

theorem findNow_rel {ρ : Rho} {t : TypeId} {d : TypeDesc} (hd : P.underlying t = some d) {k k' : Value} (hk : VRel ρ k k') : ∀ (es : List (Value × Value)) (es' : List MapEntry) (i : Nat) (r : Option (Nat × Value)) (r' : Option (Nat × Value)), ERel ρ es es' → findA P t k es i = some r → Instr.findNow d k' es' i = some r' → FRes ρ i es es' r r'
  | [], [], i, r, r', _, h, h' => by simp [findA] at h; simp [Instr.findNow] at h'; subst h; subst h'; trivial
  | (q, v) :: es, e' :: es', i, r, r', hr, h, h' => by
    simp only [findA] at h
    simp only [Instr.findNow] at h'
    cases hn : Instr.sameNow d k' e'.key with
    | none => simp [hn] at h'
    | some b' =>
      cases he : aEqIn P 50 t k q with
      | none => simp [he] at h
      | some b =>
        have := sameNow_eq hd hk hr.1.1 hn he
        subst this
        cases b' with
        | true => simp [he] at h; simp [hn] at h'; subst h; subst h'; exact ⟨rfl, hr.1.2, 0, rfl, by simp⟩
        | false => simp [he] at h; simp [hn] at h'; exact (findNow_rel hd hk es es' (i + 1) r r' hr.2 h h').step
  | [], _ :: _, _, _, _, h, _, _ => h.elim
  | _ :: _, [], _, _, _, h, _, _ => h.elim

theorem keyChk_under {d : Nat} {t : TypeId} {k : Value} (h : keyChk P d t k = true) : ∃ ds, P.underlying t = some ds := by
  cases d with
  | zero => simp [keyChk] at h
  | succ d => cases hu : P.underlying t with
    | none => simp [keyChk, hu] at h
    | some ds => exact ⟨ds, rfl⟩

theorem findKey_run {ρ : Rho} {t : TypeId} {d : Nat} {k k' : Value} (hc : keyChk P d t k = true) (hk : VRel ρ k k') (w : World) {es : List (Value × Value)} {es' : List MapEntry} {r : Option (Nat × Value)} (hr : ERel ρ es es') (h : findA P t k es 0 = some r) :
    ∃ r', (Instr.findKey t k' es').run P w = .ok r' w ∧ FRes ρ 0 es es' r r' := by
  obtain ⟨ds, hd⟩ := keyChk_under hc
  unfold Instr.findKey
  simp only [Sem.run_bind, run_under hd, Result.andThen_ok]
  cases hn : Instr.findNow ds k' es' 0 with
  | some r' => exact ⟨r', rfl, findNow_rel hd hk es es' 0 r r' hr h hn⟩
  | none => exact findAsk_run hk w es es' 0 r hr h

/-! ### the operations -/
/-- The entries of a map value, both ways. -/
theorem entries_run {ρ : Rho} {base : Nat} {H : AHeap} {w : World} (hs : Sim ρ base H w) {r : Option Nat} {x' : Value} {es : List (Value × Value)} (h : entriesOf H r = some es) (hx : VRel ρ (.map r) x') :
    ∃ r', x' = .map r' ∧ ((r = none ∧ r' = none ∧ es = []) ∨ ∃ b c k x es' clk, r = some b ∧ r' = some c ∧ ρ b = .live c k x ∧ H.get b = some (.map es) ∧ w.heap[c]? = some (.map es' clk) ∧ base ≤ c ∧ ERel ρ es es'.toList) := by
  cases hx with
  | mnil => simp [entriesOf] at h; subst h; exact ⟨none, rfl, .inl ⟨rfl, rfl, rfl⟩⟩
  | @map b c hm =>
    simp only [entriesOf] at h
    split at h
    · rename_i es0 hg
      simp at h; subst h
      refine ⟨some c, rfl, .inr ?_⟩
      cases hr : ρ b with
      | no => simp [MRel, hr] at hm
      | gone x => rcases hs.alive b x hr with e | e <;> rw [hg] at e <;> cases e
      | live c' k x =>
        simp [MRel, hr] at hm; subst hm
        have := hs.obj b _ hg
        simp only [ObjRel, hr] at this
        obtain ⟨h1, es', clk, h2, h3⟩ := this
        exact ⟨b, c, k, x, es', clk, rfl, rfl, hr, hg, h2, h1, h3⟩
    · cases h

theorem lookup_run {ρ : Rho} {base : Nat} {H H' : AHeap} {w : World} (hs : Sim ρ base H w) {t : TypeId} {m m' k k' v : Value} {ok : Bool} {e : Ev} (h : aLookup P H t m k ok = some (.val v H' e)) (hm : VRel ρ m m') (hk : VRel ρ k k') :
    H' = H ∧ e = .eff H H ∧ ∃ v', (Instr.lookup t m' k' ok).run P w = .ok v' w ∧ VRel ρ v v' := by
  unfold aLookup at h
  split at h
  · rename_i kt el r hd
    cases hc : keyChk P 9 kt k with
    | false => simp [hc] at h
    | true =>
      simp only [hc, cond_true] at h
      split at h
      · rename_i es z he hz
        obtain ⟨r', rfl, hcase⟩ := entries_run hs he hm
        have hlook : ∀ (es' : List MapEntry) (emp : Bool), ERel ρ es es' → ∃ (r' : Option (Nat × Value)) (v' : Value), (Instr.checkKey emp 10000 kt k').run P w = .ok () w ∧ (Instr.findKey kt k' es').run P w = .ok r' w ∧
            (match r' with | some (_, u) => v' = (if ok = true then .tuple #[u, .bool true] else u) | none => ∃ z, (zeroValue el).run P w = .ok z w ∧ v' = (if ok = true then .tuple #[z, .bool false] else z)) ∧ VRel ρ v v' ∧ H' = H ∧ e = .eff H H := by
          intro es' emp hE
          have hck := keyChk_run 9 10000 kt k k' ρ emp (by omega) hc hk w
          have htup : ∀ {a a' : Value} (b : Bool), VRel ρ a a' → VRel ρ (bif ok then .tuple #[a, .bool b] else a) (if ok then .tuple #[a', .bool b] else a') := by
            intro a a' b ha
            cases ok with
            | true => exact VRel.mkTuple (xs := [a, .bool b]) (ys := [a', .bool b]) ⟨ha, .bool b, trivial⟩
            | false => exact ha
          split at h
          · rename_i i u hf
            simp at h; obtain ⟨rfl, rfl, rfl⟩ := h
            obtain ⟨r', h1, h2⟩ := findKey_run hc hk w hE hf
            cases r' with
            | none => exact h2.elim
            | some p =>
              obtain ⟨j, u'⟩ := p
              exact ⟨_, _, hck, h1, rfl, htup true h2.2.1, rfl, rfl⟩
          · rename_i hf
            simp at h; obtain ⟨rfl, rfl, rfl⟩ := h
            obtain ⟨r', h1, h2⟩ := findKey_run hc hk w hE hf
            cases r' with
            | some p => exact h2.elim
            | none =>
              obtain ⟨hz1, hz2⟩ := run_zero hz w
              exact ⟨_, _, hck, h1, ⟨z, hz1, rfl⟩, htup false (vrel_plain ρ 9 z hz2), rfl, rfl⟩
          · cases h
        rcases hcase with ⟨rfl, rfl, rfl⟩ | ⟨b, c, k1, x, es', clk, rfl, rfl, hr, hg, hw, -, hE⟩
        · obtain ⟨r', v', h0, h1, h5, h2, h3, h4⟩ := hlook [] true trivial
          refine ⟨h3, h4, v', ?_, h2⟩
          simp only [Instr.lookup, Sem.run_bind, run_under hd, Result.andThen_ok, Sem.run_pure]
          have h0' : (Instr.checkKey (#[] : Array MapEntry).isEmpty 10000 kt k').run P w = .ok () w := h0
          have h1' : (Instr.findKey kt k' (#[] : Array MapEntry).toList).run P w = .ok r' w := h1
          simp only [h0', h1', Result.andThen_ok]
          cases r' with
          | some p => obtain ⟨i, u⟩ := p; subst h5; simp only [Sem.run_bind, Sem.run_pure, Result.andThen_ok]
          | none => obtain ⟨z, hz, rfl⟩ := h5; simp only [Sem.run_bind, Sem.run_pure, Result.andThen_ok, hz]
        · obtain ⟨r', v', h0, h1, h5, h2, h3, h4⟩ := hlook es'.toList es'.isEmpty hE
          refine ⟨h3, h4, v', ?_, h2⟩
          simp only [Instr.lookup, Sem.run_bind, run_under hd, Result.andThen_ok, Sem.run_pure, MapKept.run_getObj_map hw, h0, h1]
          cases r' with
          | some p => obtain ⟨i, u⟩ := p; subst h5; simp only [Sem.run_bind, Sem.run_pure, Result.andThen_ok]
          | none => obtain ⟨z, hz, rfl⟩ := h5; simp only [Sem.run_bind, Sem.run_pure, Result.andThen_ok, hz]
      · cases h
  · cases h
end Go.AX
