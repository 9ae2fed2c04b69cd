/- Operations of maps. -/
import Derived.Test.YtjnegbcdeggpfaaDoorAxApp
import Derived.MapKept
namespace Go.AX
open Go Go.RowKit
set_option linter.unusedVariables false
set_option linter.unusedSimpArgs false

variable {P : Program}

/-- A value without addresses is its own fellow. -/
theorem plain_eq {ρ : Rho} : ∀ (n : Nat) (v v' : Value), plainV n v = true → VRel ρ v v' → v' = v := by
  intro n
  induction n with
  | zero => intro v v' hp h; cases h <;> first | rfl | (simp [plainV] at hp; done)
  | succ n ih =>
    intro v v' hp h
    cases h with
    | iface t h => rw [ih _ _ (by simpa [plainV] using hp) h]
    | @agg xs ys h1 h =>
      have hx := List.all_eq_true.1 (show xs.toList.all (plainV n) = true from hp)
      congr 1
      refine (Array.ext h1 fun i p q => ?_).symm
      exact (ih _ _ (hx _ (Array.mem_toList_iff.2 (Array.getElem_mem p))) (h i p q)).symm
    | @tuple xs ys h1 h =>
      have hx := List.all_eq_true.1 (show xs.toList.all (plainV n) = true from hp)
      congr 1
      refine (Array.ext h1 fun i p q => ?_).symm
      exact (ih _ _ (hx _ (Array.mem_toList_iff.2 (Array.getElem_mem p))) (h i p q)).symm
    | _ => first | rfl | (simp [plainV] at hp; done)

theorem keyFields_run {chk : TypeId → Value → Bool} {e : Bool} {D : Nat} {ρ : Rho} {xs xs' : Array Value} (hx : VsRel ρ xs.toList xs'.toList)
    (hc : ∀ t u u', chk t u = true → VRel ρ u u' → ∀ w, (Instr.checkKey e D t u').run P w = .ok () w) (w : World) :
    ∀ (l : List Field), keyFields P chk xs l = true →
    (forIn (m := Sem) l () fun f __s =>
      if f.name ≠ "_" then do
        let __do_lift ← part f.type xs' f.offset
        Instr.checkKey e D f.type __do_lift
        pure (ForInStep.yield ())
      else pure (ForInStep.yield ())).run P w = .ok () w
  | [], h => by simp
  | f :: r, h => by
    simp only [keyFields, Bool.and_eq_true, Bool.or_eq_true] at h
    simp only [List.forIn_cons, Sem.run_bind]
    cases hn : (f.name == "_") with
    | true =>
      have hn' : ¬ (f.name ≠ "_") := by simpa using hn
      rw [if_neg hn']
      simp only [Sem.run_pure, Result.andThen_ok]
      exact keyFields_run hx hc w r h.2
    | false =>
      have hn' : f.name ≠ "_" := by simpa using hn
      rw [if_pos hn']
      have h1 := h.1
      rw [hn] at h1
      cases hp : partA P f.type xs f.offset with
      | none => simp [hp] at h1
      | some u =>
        obtain ⟨u', hu, hru⟩ := part_rel hx hp w
        simp [hp] at h1
        simp only [Sem.run_bind, hu, hc _ _ _ h1 hru w, Result.andThen_ok, Sem.run_pure]
        exact keyFields_run hx hc w r h.2

theorem keyChk_run : ∀ (d D : Nat) (t : TypeId) (x x' : Value) (ρ : Rho) (e : Bool), d ≤ D → keyChk P d t x = true → VRel ρ x x' → ∀ w, (Instr.checkKey e D t x').run P w = .ok () w := by
  intro d
  induction d with
  | zero => intro D t x x' ρ e hD h; simp [keyChk] at h
  | succ d ih =>
    intro D t x x' ρ e hD h hx w
    obtain ⟨D, rfl⟩ : ∃ m, D = m + 1 := ⟨D - 1, by omega⟩
    unfold Instr.checkKey
    cases hd : P.underlying t with
    | none => simp [keyChk, hd] at h
    | some desc =>
      simp only [Sem.run_bind, run_under hd, Result.andThen_ok]
      cases desc with
      | bool => rfl
      | int k => rfl
      | string => rfl
      | struct fs =>
        cases x with
        | agg cs =>
          cases hx with
          | agg h1 hh =>
            rename_i cs'
            simp only [keyChk, hd] at h
            have := keyFields_run (P := P) (e := e) (D := D) (vs_of_idx h1 hh) (fun t u u' hc hr w => ih D t u u' ρ e (by omega) hc hr w) w fs.toList h
            rw [Array.forIn_toList] at this
            dsimp only
            rw [Sem.run_bind]
            erw [this]
            rfl
        | _ => simp [keyChk, hd] at h
      | array len e' =>
        cases x with
        | agg cs =>
          cases hx with
          | agg h1 hh =>
            rename_i cs'
            simp only [keyChk, hd, Bool.and_eq_true] at h
            obtain ⟨⟨⟨g0, g1⟩, g2⟩, g3⟩ := h
            have g0' : 1 ≤ d := Nat.le_of_ble_eq_true g0
            have g3' : len ≤ cs.size := Nat.le_of_ble_eq_true g3
            have hone : ∃ d, P.underlying e' = some d ∧ isAggD d = false ∧ sizeT P e' = some 1 := by
              unfold oneT at g1
              split at g1
              · rename_i d n hd hn
                simp only [Bool.and_eq_true, Bool.not_eq_true'] at g1
                rw [Nat.eq_of_beq_eq_true g1.2] at hn
                exact ⟨d, hd, g1.1, hn⟩
              · cases g1
            obtain ⟨dd, hdd, hag, hsz⟩ := hone
            have hflat : ∀ (n : Nat) u, 0 < D → (Instr.checkKey e D e' u).run P w = .ok () w := by
              intro n u hD0
              obtain ⟨D', rfl⟩ : ∃ m, D = m + 1 := ⟨D - 1, by omega⟩
              unfold Instr.checkKey
              simp only [Sem.run_bind, run_under hdd, Result.andThen_ok]
              unfold flatT at g2
              rw [hdd] at g2
              cases dd <;> first | rfl | (simp at g2; done)
            have hloop : ∀ (m i : Nat), i + m ≤ cs'.size → (forIn (m := Sem) (List.range' i m) PUnit.unit fun j __s => do
                let __do_lift ← sizeOf e'
                let __do_lift ← part e' cs' (j * __do_lift)
                Instr.checkKey e D e' __do_lift
                pure (ForInStep.yield PUnit.unit)).run P w = .ok PUnit.unit w := by
              intro m
              induction m with
              | zero => intro i _; simp
              | succ m ihm =>
                intro i hi
                have hii : i < cs'.size := by omega
                have hpu : (part e' cs' (i * 1)).run P w = .ok cs'[i] w := by
                  simp [part, run_agg hdd w, hag, Nat.mul_one, Array.getElem?_eq_getElem hii]
                have hD0 : 0 < D := by omega
                simp only [List.range'_succ, List.forIn_cons, Sem.run_bind, run_size hsz, Result.andThen_ok, hpu, hflat 0 _ hD0, Sem.run_pure]
                exact ihm (i + 1) (by omega)
            have := hloop len 0 (by omega)
            dsimp only
            simp only [Sem.run_bind, Std.Legacy.Range.forIn_eq_forIn_range', Std.Legacy.Range.size, Nat.sub_zero, Nat.add_sub_cancel, Nat.div_one] at this ⊢
            first | exact this | (erw [this]; rfl)
        | _ => simp [keyChk, hd] at h
      | _ => simp [keyChk, hd] at h

/-! ### looking for a key -/
abbrev ERel (ρ : Rho) : List (Value × Value) → List MapEntry → Prop := LRel (fun (e : Value × Value) (e' : MapEntry) => VRel ρ e.1 e'.key ∧ VRel ρ e.2 e'.val)

def FRes (ρ : Rho) (i0 : Nat) (es : List (Value × Value)) (es' : List MapEntry) : Option (Nat × Value) → Option (Nat × Value) → Prop
  | none, none => True
  | some (i, v), some (j, v') => i = j ∧ VRel ρ v v' ∧ ∃ n, i = i0 + n ∧ n < es.length
  | _, _ => False

theorem FRes.step {ρ : Rho} {i0 : Nat} {e : Value × Value} {e' : MapEntry} {es : List (Value × Value)} {es' : List MapEntry} : ∀ {r : Option (Nat × Value)} {r' : Option (Nat × Value)}, FRes ρ (i0 + 1) es es' r r' → FRes ρ i0 (e :: es) (e' :: es') r r'
  | none, none, _ => trivial
  | some (i, v), some (j, v'), ⟨h1, h2, n, h3, h4⟩ => ⟨h1, h2, n + 1, by omega, by simpa using h4⟩
  | none, some _, h => h.elim
  | some _, none, h => h.elim

theorem findAsk_run {ρ : Rho} {t : TypeId} {k k' : Value} (hk : VRel ρ k k') (w : World) : ∀ (es : List (Value × Value)) (es' : List MapEntry) (i : Nat) (r : Option (Nat × Value)), ERel ρ es es' → findA P t k es i = some r →
    ∃ r', (Instr.findAsking t k' es' i).run P w = .ok r' w ∧ FRes ρ i es es' r r'
  | [], [], i, r, _, h => by simp [findA] at h; subst h; exact ⟨none, rfl, trivial⟩
  | (q, v) :: es, e' :: es', i, r, hr, h => by
    simp only [findA] at h
    cases he : aEqIn P 50 t k q with
    | none => simp [he] at h
    | some b =>
      have hrun := eq_run (P := P) 50 10000 t k q k' e'.key ρ b (by omega) he hk hr.1.1 w
      have hrun' : (Op.equal t k' e'.key).run P w = .ok b w := hrun
      simp only [Instr.findAsking, Sem.run_bind, hrun', Result.andThen_ok]
      cases b with
      | true =>
        simp [he] at h; subst h
        exact ⟨some (i, e'.val), rfl, rfl, hr.1.2, 0, rfl, by simp⟩
      | false =>
        simp [he] at h
        obtain ⟨r', h1, h2⟩ := findAsk_run hk w es es' (i + 1) r hr.2 h
        exact ⟨r', by simpa using h1, h2.step⟩
  | [], _ :: _, _, _, h, _ => h.elim
  | _ :: _, [], _, _, h, _ => h.elim

theorem sameNow_eq {ρ : Rho} {t : TypeId} {d : TypeDesc} (hd : P.underlying t = some d) {k k' q q' : Value} (hk : VRel ρ k k') (hq : VRel ρ q q') {b b' : Bool} (h : Instr.sameNow d k' q' = some b') (he : aEqIn P 50 t k q = some b) : b' = b := by
  cases d with
  | bool => cases hk <;> cases hq <;> simp [Instr.sameNow, aEqIn, hd] at h he <;> subst h <;> subst he <;> rfl
  | int _ =>
    cases hk <;> cases hq <;> simp [Instr.sameNow, aEqIn, hd] at h he
    obtain ⟨_, rfl⟩ := h; obtain ⟨_, rfl⟩ := he; rfl
  | string => cases hk <;> cases hq <;> simp [Instr.sameNow, aEqIn, hd] at h he <;> subst h <;> subst he <;> rfl
  | _ => cases hk <;> cases hq <;> simp [Instr.sameNow] at h

theorem findNow_rel {ρ : Rho} {t : TypeId} {d : TypeDesc} (hd : P.underlying t = some d) {k k' : Value} (hk : VRel ρ k k') : ∀ (es : List (Value × Value)) (es' : List MapEntry) (i : Nat) (r : Option (Nat × Value)) (r' : Option (Nat × Value)), ERel ρ es es' → findA P t k es i = some r → Instr.findNow d k' es' i = some r' → FRes ρ i es es' r r'
  | [], [], i, r, r', _, h, h' => by simp [findA] at h; simp [Instr.findNow] at h'; subst h; subst h'; trivial
  | (q, v) :: es, e' :: es', i, r, r', hr, h, h' => by
    simp only [findA] at h
    simp only [Instr.findNow] at h'
    cases hn : Instr.sameNow d k' e'.key with
    | none => simp [hn] at h'
    | some b' =>
      cases he : aEqIn P 50 t k q with
      | none => simp [he] at h
      | some b =>
        have := sameNow_eq hd hk hr.1.1 hn he
        subst this
        cases b' with
        | true => simp [he] at h; simp [hn] at h'; subst h; subst h'; exact ⟨rfl, hr.1.2, 0, rfl, by simp⟩
        | false => simp [he] at h; simp [hn] at h'; exact (findNow_rel hd hk es es' (i + 1) r r' hr.2 h h').step
  | [], _ :: _, _, _, _, h, _, _ => h.elim
  | _ :: _, [], _, _, _, h, _, _ => h.elim

theorem keyChk_under {d : Nat} {t : TypeId} {k : Value} (h : keyChk P d t k = true) : ∃ ds, P.underlying t = some ds := by
  cases d with
  | zero => simp [keyChk] at h
  | succ d => cases hu : P.underlying t with
    | none => simp [keyChk, hu] at h
    | some ds => exact ⟨ds, rfl⟩

theorem findKey_run {ρ : Rho} {t : TypeId} {d : Nat} {k k' : Value} (hc : keyChk P d t k = true) (hk : VRel ρ k k') (w : World) {es : List (Value × Value)} {es' : List MapEntry} {r : Option (Nat × Value)} (hr : ERel ρ es es') (h : findA P t k es 0 = some r) :
    ∃ r', (Instr.findKey t k' es').run P w = .ok r' w ∧ FRes ρ 0 es es' r r' := by
  obtain ⟨ds, hd⟩ := keyChk_under hc
  unfold Instr.findKey
  simp only [Sem.run_bind, run_under hd, Result.andThen_ok]
  cases hn : Instr.findNow ds k' es' 0 with
  | some r' => exact ⟨r', rfl, findNow_rel hd hk es es' 0 r r' hr h hn⟩
  | none => exact findAsk_run hk w es es' 0 r hr h

/-! ### the operations -/
/-- The entries of a map value, both ways. -/
theorem entries_run {ρ : Rho} {base : Nat} {H : AHeap} {w : World} (hs : Sim ρ base H w) {r : Option Nat} {x' : Value} {es : List (Value × Value)} (h : entriesOf H r = some es) (hx : VRel ρ (.map r) x') :
    ∃ r', x' = .map r' ∧ ((r = none ∧ r' = none ∧ es = []) ∨ ∃ b c k x es' clk, r = some b ∧ r' = some c ∧ ρ b = .live c k x ∧ H.get b = some (.map es) ∧ w.heap[c]? = some (.map es' clk) ∧ base ≤ c ∧ ERel ρ es es'.toList) := by
  cases hx with
  | mnil => simp [entriesOf] at h; subst h; exact ⟨none, rfl, .inl ⟨rfl, rfl, rfl⟩⟩
  | @map b c hm =>
    simp only [entriesOf] at h
    split at h
    · rename_i es0 hg
      simp at h; subst h
      refine ⟨some c, rfl, .inr ?_⟩
      cases hr : ρ b with
      | no => simp [MRel, hr] at hm
      | gone x => rcases hs.alive b x hr with e | e <;> rw [hg] at e <;> cases e
      | live c' k x =>
        simp [MRel, hr] at hm; subst hm
        have := hs.obj b _ hg
        simp only [ObjRel, hr] at this
        obtain ⟨h1, es', clk, h2, h3⟩ := this
        exact ⟨b, c, k, x, es', clk, rfl, rfl, hr, hg, h2, h1, h3⟩
    · cases h

theorem lookup_run {ρ : Rho} {base : Nat} {H H' : AHeap} {w : World} (hs : Sim ρ base H w) {t : TypeId} {m m' k k' v : Value} {ok : Bool} {e : Ev} (h : aLookup P H t m k ok = some (.val v H' e)) (hm : VRel ρ m m') (hk : VRel ρ k k') :
    H' = H ∧ e = .eff H H ∧ ∃ v', (Instr.lookup t m' k' ok).run P w = .ok v' w ∧ VRel ρ v v' := by
  unfold aLookup at h
  split at h
  · rename_i kt el r hd
    cases hc : keyChk P 9 kt k with
    | false => simp [hc] at h
    | true =>
      simp only [hc, cond_true] at h
      split at h
      · rename_i es z he hz
        obtain ⟨r', rfl, hcase⟩ := entries_run hs he hm
        have hlook : ∀ (es' : List MapEntry) (emp : Bool), ERel ρ es es' → ∃ (r' : Option (Nat × Value)) (v' : Value), (Instr.checkKey emp 10000 kt k').run P w = .ok () w ∧ (Instr.findKey kt k' es').run P w = .ok r' w ∧
            (match r' with | some (_, u) => v' = (if ok = true then .tuple #[u, .bool true] else u) | none => ∃ z, (zeroValue el).run P w = .ok z w ∧ v' = (if ok = true then .tuple #[z, .bool false] else z)) ∧ VRel ρ v v' ∧ H' = H ∧ e = .eff H H := by
          intro es' emp hE
          have hck := keyChk_run 9 10000 kt k k' ρ emp (by omega) hc hk w
          have htup : ∀ {a a' : Value} (b : Bool), VRel ρ a a' → VRel ρ (bif ok then .tuple #[a, .bool b] else a) (if ok then .tuple #[a', .bool b] else a') := by
            intro a a' b ha
            cases ok with
            | true => exact VRel.mkTuple (xs := [a, .bool b]) (ys := [a', .bool b]) ⟨ha, .bool b, trivial⟩
            | false => exact ha
          split at h
          · rename_i i u hf
            simp at h; obtain ⟨rfl, rfl, rfl⟩ := h
            obtain ⟨r', h1, h2⟩ := findKey_run hc hk w hE hf
            cases r' with
            | none => exact h2.elim
            | some p =>
              obtain ⟨j, u'⟩ := p
              exact ⟨_, _, hck, h1, rfl, htup true h2.2.1, rfl, rfl⟩
          · rename_i hf
            simp at h; obtain ⟨rfl, rfl, rfl⟩ := h
            obtain ⟨r', h1, h2⟩ := findKey_run hc hk w hE hf
            cases r' with
            | some p => exact h2.elim
            | none =>
              obtain ⟨hz1, hz2⟩ := run_zero hz w
              exact ⟨_, _, hck, h1, ⟨z, hz1, rfl⟩, htup false (vrel_plain ρ 9 z hz2), rfl, rfl⟩
          · cases h
        rcases hcase with ⟨rfl, rfl, rfl⟩ | ⟨b, c, k1, x, es', clk, rfl, rfl, hr, hg, hw, -, hE⟩
        · obtain ⟨r', v', h0, h1, h5, h2, h3, h4⟩ := hlook [] true trivial
          refine ⟨h3, h4, v', ?_, h2⟩
          simp only [Instr.lookup, Sem.run_bind, run_under hd, Result.andThen_ok, Sem.run_pure]
          have h0' : (Instr.checkKey (#[] : Array MapEntry).isEmpty 10000 kt k').run P w = .ok () w := h0
          have h1' : (Instr.findKey kt k' (#[] : Array MapEntry).toList).run P w = .ok r' w := h1
          simp only [h0', h1', Result.andThen_ok]
          cases r' with
          | some p => obtain ⟨i, u⟩ := p; subst h5; simp only [Sem.run_bind, Sem.run_pure, Result.andThen_ok]
          | none => obtain ⟨z, hz, rfl⟩ := h5; simp only [Sem.run_bind, Sem.run_pure, Result.andThen_ok, hz]
        · obtain ⟨r', v', h0, h1, h5, h2, h3, h4⟩ := hlook es'.toList es'.isEmpty hE
          refine ⟨h3, h4, v', ?_, h2⟩
          simp only [Instr.lookup, Sem.run_bind, run_under hd, Result.andThen_ok, Sem.run_pure, MapKept.run_getObj_map hw, h0, h1]
          cases r' with
          | some p => obtain ⟨i, u⟩ := p; subst h5; simp only [Sem.run_bind, Sem.run_pure, Result.andThen_ok]
          | none => obtain ⟨z, hz, rfl⟩ := h5; simp only [Sem.run_bind, Sem.run_pure, Result.andThen_ok, hz]
      · cases h
  · cases h
end Go.AX
namespace Go.AX
open Go Go.RowKit
set_option linter.unusedVariables false
set_option linter.unusedSimpArgs false

variable {P : Program}

theorem map_set {ρ : Rho} {base : Nat} {H : AHeap} {w : World} (hs : Sim ρ base H w) {b c k x clk clk1 : Nat} {es es1 : List (Value × Value)} {es' es1' : Array MapEntry} (hg : H.get b = some (.map es)) (hr : ρ b = .live c k x)
    (hw : w.heap[c]? = some (.map es' clk)) (hb : base ≤ c) (hE : ERel ρ es1 es1'.toList) :
    (setObj c (.map es1' clk1)).run P w = .ok () { w with heap := w.heap.setIfInBounds c (.map es1' clk1) } ∧ Ok ρ base H w ρ (H.set b (.map es1)) { w with heap := w.heap.setIfInBounds c (.map es1' clk1) } := by
  refine ⟨MapKept.run_setObj_map _ hw, ?_⟩
  have hc : c < w.heap.size := hs.inb _ _ _ _ hr
  obtain ⟨r1, r2⟩ := sim_set (w' := { w with heap := w.heap.setIfInBounds c (.map es1' clk1) }) (o := .map es1) hs (by simp [ownB, hg]) hr rfl rfl rfl (by simp) (fun q hq => by simp [Array.getElem?_setIfInBounds, Ne.symm hq]) (by
    simp only [ObjRel, hr]
    exact ⟨hb, es1', clk1, by simp [Array.getElem?_setIfInBounds, hc], hE⟩)
  exact ⟨Mono.refl _ _, r1, r2⟩

theorem setVal_rel {ρ : Rho} {k v k' v' : Value} (hk : VRel ρ k k') (hv : VRel ρ v v') : ∀ (es : List (Value × Value)) (es' : List MapEntry) (i : Nat), ERel ρ es es' → ERel ρ (setVal es i k v) (es'.modify i fun e => { e with key := k', val := v' })
  | [], [], i, _ => by cases i <;> simp [setVal] <;> trivial
  | e :: es, e' :: es', 0, h => ⟨⟨hk, hv⟩, h.2⟩
  | e :: es, e' :: es', i + 1, h => ⟨h.1, setVal_rel hk hv es es' i h.2⟩
  | [], _ :: _, _, h => h.elim
  | _ :: _, [], _, h => h.elim
theorem eraseAt_rel {ρ : Rho} : ∀ (es : List (Value × Value)) (es' : List MapEntry) (i : Nat), ERel ρ es es' → ERel ρ (eraseAt es i) (es'.eraseIdx i)
  | [], [], i, _ => by simp [eraseAt]; trivial
  | e :: es, e' :: es', 0, h => h.2
  | e :: es, e' :: es', i + 1, h => ⟨h.1, eraseAt_rel es es' i h.2⟩
  | [], _ :: _, _, h => h.elim
  | _ :: _, [], _, h => h.elim

theorem oldKey_rel {ρ : Rho} {k : Value} : ∀ (es : List (Value × Value)) (es' : List MapEntry) (i : Nat), ERel ρ es es' → oldKey es i k = true → ∃ e, es'[i]? = some e ∧ Instr.sameBits 10000 e.key k = true
  | [], [], i, _, h => by simp [oldKey] at h
  | e :: es, e' :: es', 0, h, ho => by
    simp only [oldKey, Bool.and_eq_true] at ho
    refine ⟨e', rfl, ?_⟩
    rw [plain_eq 9 _ _ ho.1 h.1.1]; exact ho.2
  | e :: es, e' :: es', i + 1, h, ho => oldKey_rel es es' i h.2 ho
  | [], _ :: _, _, h, _ => h.elim
  | _ :: _, [], _, h, _ => h.elim

theorem mapUpdate_run {ρ : Rho} {base : Nat} {H H' : AHeap} {w : World} (hs : Sim ρ base H w) {t : TypeId} {m m' k k' v v' u : Value} {e : Ev} (h : aMapUpdate P H t m k v = some (.val u H' e)) (hm : VRel ρ m m') (hk : VRel ρ k k') (hv : VRel ρ v v') :
    H'.next = H.next ∧ u = undef ∧ ∃ w', (Instr.mapUpdate t m' k' v').run P w = .ok () w' ∧ Ok ρ base H w ρ H' w' := by
  unfold aMapUpdate at h
  split at h
  · rename_i kt el r hd
    cases hc : keyChk P 9 kt k && plainV 9 k with
    | false => simp [hc] at h
    | true =>
      simp only [hc, cond_true] at h
      rw [Bool.and_eq_true] at hc
      have hkk := plain_eq 9 k k' hc.2 hk
      subst hkk
      split at h
      · rename_i es hg
        obtain ⟨r', rfl, hcase⟩ := entries_run (es := es) hs (by simp [entriesOf, hg]) hm
        rcases hcase with ⟨h1, -, -⟩ | ⟨b, c, k1, x, es', clk, h1, rfl, hr, hg', hw, hb, hE⟩
        · cases h1
        · cases h1
          have hck := keyChk_run 9 10000 kt k' k' ρ false (by omega) hc.1 hk w
          split at h
          · rename_i i old hf
            cases ho : oldKey es i k' with
            | false => simp [ho] at h
            | true =>
              simp only [ho, Bool.not_true, cond_false, Option.some.injEq, Out.val.injEq] at h
              obtain ⟨rfl, rfl, rfl⟩ := h
              obtain ⟨r', h1, h2⟩ := findKey_run hc.1 hk w hE hf
              cases r' with
              | none => exact h2.elim
              | some p =>
                obtain ⟨j, u'⟩ := p
                obtain ⟨rfl, -, -⟩ := h2
                obtain ⟨e', he', hsb⟩ := oldKey_rel es es'.toList i hE ho
                have he2 : es'[i]? = some e' := by simpa using he'
                obtain ⟨s1, s2⟩ := map_set (P := P) (clk1 := clk) (es1 := setVal es i k' v) (es1' := es'.modify i fun e => { e with key := k', val := v' }) hs hg hr hw hb (by rw [Array.toList_modify]; exact setVal_rel hk hv es es'.toList i hE)
                refine ⟨rfl, rfl, _, ?_, s2⟩
                simp only [Instr.mapUpdate, Sem.run_bind, run_under hd, Result.andThen_ok, MapKept.run_getObj_map hw, hck, h1, he2, Option.map_some, Option.getD_some, Instr.keyThatStays, hsb, if_true, Sem.run_pure, s1]
          · rename_i hf
            simp only [Option.some.injEq, Out.val.injEq] at h
            obtain ⟨rfl, rfl, rfl⟩ := h
            obtain ⟨r', h1, h2⟩ := findKey_run hc.1 hk w hE hf
            cases r' with
            | some p => exact h2.elim
            | none =>
              obtain ⟨s1, s2⟩ := map_set (P := P) (clk1 := clk + 1) (es1 := es ++ [(k', v)]) (es1' := es'.push { key := k', val := v', born := clk }) hs hg hr hw hb (by rw [Array.toList_push]; exact LRel.append hE ⟨⟨hk, hv⟩, trivial⟩)
              refine ⟨rfl, rfl, _, ?_, s2⟩
              simp only [Instr.mapUpdate, Sem.run_bind, run_under hd, Result.andThen_ok, MapKept.run_getObj_map hw, hck, h1, s1]
          · cases h
      · cases h
  · cases h

theorem delete_run {ρ : Rho} {base : Nat} {H H' : AHeap} {w : World} (hs : Sim ρ base H w) {ts : Array TypeId} {ty : TypeId} {args : List Value} {args' : Array Value} {u : Value} {e : Ev} (h : aDelete P H ts args = some (.val u H' e)) (ha : VsRel ρ args args'.toList) :
    H'.next = H.next ∧ ∃ u' w', (Builtin.delete_ ts ty args').run P w = .ok u' w' ∧ VRel ρ u u' ∧ Ok ρ base H w ρ H' w' := by
  unfold aDelete at h
  split at h
  · rename_i t r k ht
    obtain ⟨l⟩ := args'
    rcases l with _ | ⟨m', _ | ⟨k', _ | ⟨z, l⟩⟩⟩
    · exact ha.elim
    · exact ha.2.elim
    · obtain ⟨hm, hk, -⟩ := ha
      split at h
      · rename_i kt el hd
        cases hc : keyChk P 9 kt k with
        | false => simp [hc] at h
        | true =>
          simp only [hc, cond_true] at h
          split at h
          · simp only [Option.some.injEq, Out.val.injEq] at h
            obtain ⟨rfl, rfl, rfl⟩ := h
            cases hm
            have hck := keyChk_run 9 10000 kt k k' ρ true (by omega) hc hk w
            refine ⟨rfl, _, w, ?_, VRel.undef ρ, Ok.refl hs⟩
            simp only [Builtin.delete_, ht, List.getElem?_toArray, List.getElem?_cons_zero, List.getElem?_cons_succ, Sem.run_bind, run_under hd, Result.andThen_ok, hck, Sem.run_pure]
            rfl
          · rename_i b
            split at h
            · rename_i es hg
              obtain ⟨r', rfl, hcase⟩ := entries_run (es := es) hs (by simp [entriesOf, hg]) hm
              rcases hcase with ⟨h1, -, -⟩ | ⟨b, c, k1, x, es', clk, h1, rfl, hr, hg', hw, hb, hE⟩
              · cases h1
              · cases h1
                have hck := keyChk_run 9 10000 kt k k' ρ es'.isEmpty (by omega) hc hk w
                split at h
                · rename_i i old hf
                  simp only [Option.some.injEq, Out.val.injEq] at h
                  obtain ⟨rfl, rfl, rfl⟩ := h
                  obtain ⟨r', h1, h2⟩ := findKey_run hc hk w hE hf
                  cases r' with
                  | none => exact h2.elim
                  | some p =>
                    obtain ⟨j, u'⟩ := p
                    obtain ⟨rfl, -, -⟩ := h2
                    obtain ⟨s1, s2⟩ := map_set (P := P) (clk1 := clk) (es1 := eraseAt es i) (es1' := es'.eraseIdxIfInBounds i) hs hg hr hw hb (by rw [Array.toList_eraseIdxIfInBounds]; exact eraseAt_rel es es'.toList i hE)
                    refine ⟨rfl, _, _, ?_, VRel.undef ρ, s2⟩
                    simp only [Builtin.delete_, ht, List.getElem?_toArray, List.getElem?_cons_zero, List.getElem?_cons_succ, Sem.run_bind, run_under hd, Result.andThen_ok, hck, h1, MapKept.run_getObj_map hw, s1, Sem.run_pure]
                    rfl
                · rename_i hf
                  simp only [Option.some.injEq, Out.val.injEq] at h
                  obtain ⟨rfl, rfl, rfl⟩ := h
                  obtain ⟨r', h1, h2⟩ := findKey_run hc hk w hE hf
                  cases r' with
                  | some p => exact h2.elim
                  | none =>
                    have hset : (setObj c (.map es' clk)).run P w = .ok () w := by
                      rw [MapKept.run_setObj_map _ hw]
                      have : w.heap.setIfInBounds c (.map es' clk) = w.heap := by
                        apply Array.ext'
                        rw [Array.toList_setIfInBounds]
                        apply List.ext_getElem?
                        intro n
                        rw [List.getElem?_set]
                        split
                        · rename_i e; subst e
                          split
                          · simpa using hw.symm
                          · rename_i hl; simp at hl; have := hs.inb _ _ _ _ hr; omega
                        · rfl
                      rw [this]
                    refine ⟨rfl, _, w, ?_, VRel.undef ρ, Ok.refl hs⟩
                    simp only [Builtin.delete_, ht, List.getElem?_toArray, List.getElem?_cons_zero, List.getElem?_cons_succ, Sem.run_bind, run_under hd, Result.andThen_ok, hck, h1, MapKept.run_getObj_map hw, hset, Sem.run_pure]
                    rfl
                · cases h
            · cases h
      · cases h
    · exact ha.2.2.elim
  · cases h
end Go.AX
namespace Go.AX
open Go Go.RowKit
set_option linter.unusedVariables false
set_option linter.unusedSimpArgs false

variable {P : Program}

theorem cut_run {ρ : Rho} {base : Nat} {H : AHeap} {w : World} (hs : Sim ρ base H w) {size n m d : Nat} {x x' x2 : Value} {new : List Value} (hc : cutSrc d x = some (m, x2)) (h : srcCells H size x2 = some (n, new)) (hn : n = Nat.min m d) (hx : VRel ρ x x') :
    ∃ news, VsRel ρ new news ∧ (Builtin.lenOf x').run P w = .ok m w ∧ (Builtin.firstCells size n x').run P w = .ok news.toArray w := by
  cases x with
  | slice a q c =>
    simp only [cutSrc, Option.some.injEq, Prod.mk.injEq] at hc
    obtain ⟨rfl, rfl⟩ := hc
    cases hx with
    | snil _ _ =>
      obtain ⟨news, h1, h2, h3⟩ := src_run (P := P) hs h (VRel.snil (ρ := ρ) _ _)
      exact ⟨news, h1, rfl, h3 w rfl⟩
    | slice hsr =>
      obtain ⟨news, h1, h2, h3⟩ := src_run (P := P) hs h (VRel.slice (n := Nat.min q d) hsr)
      exact ⟨news, h1, rfl, h3 w rfl⟩
  | string s =>
    simp only [cutSrc, Option.some.injEq, Prod.mk.injEq] at hc
    obtain ⟨rfl, rfl⟩ := hc
    cases hx
    obtain ⟨news, h1, h2, h3⟩ := src_run (P := P) hs h (VRel.string (ρ := ρ) _)
    refine ⟨news, h1, rfl, ?_⟩
    rw [← h3 w rfl]
    have : (s.extract 0 d).extract 0 n = s.extract 0 n := by
      rw [ByteArray.extract_extract]
      congr 1
      have : n ≤ d := by rw [hn]; exact Nat.min_le_right _ _
      omega
    simp only [Builtin.firstCells, this]
  | _ => simp [cutSrc] at hc

theorem copy_run {ρ : Rho} {base : Nat} {H H' : AHeap} {w : World} (hs : Sim ρ base H w) {ts : Array TypeId} {ty : TypeId} {args : List Value} {args' : Array Value} {u : Value} {e : Ev} (h : aCopy P H ts args = some (.val u H' e)) (ha : VsRel ρ args args'.toList) :
    H'.next = H.next ∧ ∃ u' w', (Builtin.copy_ ts ty args').run P w = .ok u' w' ∧ VRel ρ u u' ∧ Ok ρ base H w ρ H' w' := by
  unfold aCopy at h
  split at h
  · rename_i t bs dLen dCap x ht
    obtain ⟨l⟩ := args'
    rcases l with _ | ⟨d', _ | ⟨x', _ | ⟨z, l⟩⟩⟩
    · exact ha.elim
    · exact ha.2.elim
    · obtain ⟨hd, hx, -⟩ := ha
      split at h
      · rename_i el hu
        split at h
        · rename_i size m x2 hsz hcut
          split at h
          · rename_i n new hsrc
            cases hc : Nat.beq n (Nat.min m dLen) && Nat.beq new.length (n * size) && Nat.ble dLen dCap && allOne new with
            | false => simp [hc] at h
            | true =>
              simp only [hc, cond_true] at h
              simp only [Bool.and_eq_true] at hc
              obtain ⟨⟨⟨c1, c2⟩, c3⟩, c4⟩ := hc
              have hn : n = Nat.min m dLen := Nat.eq_of_beq_eq_true c1
              have hlen : new.length = n * size := Nat.eq_of_beq_eq_true c2
              have hle : dLen ≤ dCap := Nat.le_of_ble_eq_true c3
              obtain ⟨news, h1, h2, h3⟩ := cut_run (P := P) hs hcut hsrc hn hx
              have hrun : ∀ (d'' : Option Addr) (c'' : Nat), d' = .slice d'' dLen c'' → (Builtin.copy_ ts ty #[d', x']).run P w = ((match d'' with | some a => storeCells a news | none => pure () : Sem Unit).run P w).andThen fun _ w' => .ok (goInt n) w' := by
                intro d'' c'' e
                subst e
                have hsz' : (sizeOf el).run P w = .ok size w := run_size hsz w
                simp only [Builtin.copy_, ht, List.getElem?_toArray, List.getElem?_cons_zero, List.getElem?_cons_succ, Sem.run_bind, run_under hu, Result.andThen_ok, h2, hsz', ← hn, h3, Sem.run_pure]
                cases d'' with
                | none => rfl
                | some a => simp only [Sem.run_bind]; rfl
              unfold aCopyTo at h
              cases bs with
              | none =>
                simp only [Option.some.injEq, Out.val.injEq] at h
                obtain ⟨rfl, rfl, rfl⟩ := h
                cases hd
                exact ⟨rfl, _, w, hrun none _ rfl, .int _ _, Ok.refl hs⟩
              | some a =>
                obtain ⟨b, o, s⟩ := a
                simp only [] at h
                cases hd with
                | @slice _ _ _ _ _ a' c' hsr =>
                cases hb : Nat.beq n 0 with
                | true =>
                  simp only [hb, cond_true, Option.some.injEq, Out.val.injEq] at h
                  obtain ⟨rfl, rfl, rfl⟩ := h
                  have hn0 : n = 0 := Nat.eq_of_beq_eq_true hb
                  have hl0 : news = [] := by
                    have := h1.length
                    rw [hlen, hn0] at this
                    simp at this
                    exact List.eq_nil_of_length_eq_zero this.symm
                  refine ⟨rfl, _, w, ?_, .int _ _, Ok.refl hs⟩
                  rw [hrun (some a') _ rfl, hl0]
                  rfl
                | false =>
                  simp only [hb, cond_false] at h
                  split at h
                  · rename_i cs opn hg
                    split at h
                    · rename_i cs' hcs
                      simp only [Option.some.injEq, Out.val.injEq] at h
                      obtain ⟨rfl, rfl, rfl⟩ := h
                      have hn0 : n ≠ 0 := fun e => by rw [e] at hb; simp at hb
                      have hnd : n ≤ dLen := by rw [hn]; exact Nat.min_le_right _ _
                      cases hr : ρ b with
                      | no => simp [SRel, hr] at hsr
                      | gone x => rcases hs.alive b x hr with e | e <;> rw [hg] at e <;> cases e
                      | live c k x =>
                        simp only [SRel, hr] at hsr
                        have hae : a' = ⟨c, k + o, none⟩ := by
                          rcases hsr.1 with e | e
                          · have := hsr.2; omega
                          · exact e
                        subst hae
                        obtain ⟨r1, r2, r3⟩ := store_own (P := P) hs hg hr hcs h1 (allOne_rel c4 h1)
                        refine ⟨rfl, _, _, ?_, .int _ _, ⟨Mono.refl _ _, r2, r3⟩⟩
                        rw [hrun (some _) _ rfl]
                        simp only [r1, Result.andThen_ok]
                        rfl
                    · cases h
                  · cases h
          · cases h
        · cases h
      · cases h
    · exact ha.2.2.elim
  · cases h

theorem len_map_run {ρ : Rho} {base : Nat} {H : AHeap} {w : World} (hs : Sim ρ base H w) {ts : Array TypeId} {ty : TypeId} {r : Nat} {args' : Array Value} {t kt el : TypeId} {es : List (Value × Value)} (ht : ts[0]? = some t) (hu : P.underlying t = some (.map kt el)) (hg : H.get r = some (.map es))
    (ha : VsRel ρ [.map (some r)] args'.toList) : (Builtin.len_ ts ty args').run P w = .ok (.int .i64 es.length) w := by
  obtain ⟨l⟩ := args'
  rcases l with _ | ⟨m', _ | ⟨k', l⟩⟩
  · exact ha.elim
  · obtain ⟨hm, -⟩ := ha
    obtain ⟨r', rfl, hcase⟩ := entries_run (es := es) hs (by simp [entriesOf, hg]) hm
    rcases hcase with ⟨h1, -, -⟩ | ⟨b, c, k1, x, es', clk, h1, rfl, hr, hg', hw, hb, hE⟩
    · cases h1
    · have hl : es.length = es'.size := by simpa using hE.length
      simp only [Builtin.len_, ht, List.getElem?_toArray, List.getElem?_cons_zero, Sem.run_bind, run_under hu, Result.andThen_ok, MapKept.run_getObj_map hw, Sem.run_pure, hl]
      rfl
  · exact ha.2.elim
end Go.AX
