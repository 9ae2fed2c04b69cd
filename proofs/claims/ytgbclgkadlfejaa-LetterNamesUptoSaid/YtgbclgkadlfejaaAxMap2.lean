/- Operations that turn maps; copying and clearing. -/
import Derived.Test.YtgbclgkadlfejaaAxMap
namespace Go.AX
open Go Go.RowKit
set_option linter.unusedVariables false
set_option linter.unusedSimpArgs false

variable {P : Program}

theorem map_set {ρ : Rho} {base : Nat} {H : AHeap} {w : World} (hs : Sim ρ base H w) {b c k x clk clk1 : Nat} {es es1 : List (Value × Value)} {es' es1' : Array MapEntry} (hg : H.get b = some (.map es)) (hr : ρ b = .live c k x)
    (hw : w.heap[c]? = some (.map es' clk)) (hb : base ≤ c) (hE : ERel ρ es1 es1'.toList) :
    (setObj c (.map es1' clk1)).run P w = .ok () { w with heap := w.heap.setIfInBounds c (.map es1' clk1) } ∧ Ok ρ base H w ρ (H.set b (.map es1)) { w with heap := w.heap.setIfInBounds c (.map es1' clk1) } := by
  refine ⟨MapKept.run_setObj_map _ hw, ?_⟩
  have hc : c < w.heap.size := hs.inb _ _ _ _ hr
  obtain ⟨r1, r2⟩ := sim_set (w' := { w with heap := w.heap.setIfInBounds c (.map es1' clk1) }) (o := .map es1) hs (by simp [ownB, hg]) hr rfl rfl rfl (by simp) (fun q hq => by simp [Array.getElem?_setIfInBounds, Ne.symm hq]) (by
    simp only [ObjRel, hr]
    exact ⟨hb, es1', clk1, by simp [Array.getElem?_setIfInBounds, hc], hE⟩)
  exact ⟨Mono.refl _ _, r1, r2⟩

theorem setVal_rel {ρ : Rho} {k v k' v' : Value} (hk : VRel ρ k k') (hv : VRel ρ v v') : ∀ (es : List (Value × Value)) (es' : List MapEntry) (i : Nat), ERel ρ es es' → ERel ρ (setVal es i k v) (es'.modify i fun e => { e with key := k', val := v' })
  | [], [], i, _ => by cases i <;> simp [setVal] <;> trivial
  | e :: es, e' :: es', 0, h => ⟨⟨hk, hv⟩, h.2⟩
  | e :: es, e' :: es', i + 1, h => ⟨h.1, setVal_rel hk hv es es' i h.2⟩
  | [], _ :: _, _, h => h.elim
  | _ :: _, [], _, h => h.elim
theorem eraseAt_rel {ρ : Rho} : ∀ (es : List (Value × Value)) (es' : List MapEntry) (i : Nat), ERel ρ es es' → ERel ρ (eraseAt es i) (es'.eraseIdx i)
  | [], [], i, _ => by simp [eraseAt]; trivial
  | e :: es, e' :: es', 0, h => h.2
  | e :: es, e' :: es', i + 1, h => ⟨h.1, eraseAt_rel es es' i h.2⟩
  | [], _ :: _, _, h => h.elim
  | _ :: _, [], _, h => h.elim

theorem oldKey_rel {ρ : Rho} {k : Value} : ∀ (es : List (Value × Value)) (es' : List MapEntry) (i : Nat), ERel ρ es es' → oldKey es i k = true → ∃ e, es'[i]? = some e ∧ Instr.sameBits 10000 e.key k = true
  | [], [], i, _, h => by simp [oldKey] at h
  | e :: es, e' :: es', 0, h, ho => by
    simp only [oldKey, Bool.and_eq_true] at ho
    refine ⟨e', rfl, ?_⟩
    rw [plain_eq 9 _ _ ho.1 h.1.1]; exact ho.2
  | e :: es, e' :: es', i + 1, h, ho => oldKey_rel es es' i h.2 ho
  | [], _ :: _, _, h, _ => h.elim
  | _ :: _, [], _, h, _ => h.elim

theorem mapUpdate_run {ρ : Rho} {base : Nat} {H H' : AHeap} {w : World} (hs : Sim ρ base H w) {t : TypeId} {m m' k k' v v' u : Value} {e : Ev} (h : aMapUpdate P H t m k v = some (.val u H' e)) (hm : VRel ρ m m') (hk : VRel ρ k k') (hv : VRel ρ v v') :
    H'.next = H.next ∧ u = undef ∧ ∃ w', (Instr.mapUpdate t m' k' v').run P w = .ok () w' ∧ Ok ρ base H w ρ H' w' := by
  unfold aMapUpdate at h
  split at h
  · rename_i kt el r hd
    cases hc : keyChk P 9 kt k && plainV 9 k with
    | false => simp [hc] at h
    | true =>
      simp only [hc, cond_true] at h
      rw [Bool.and_eq_true] at hc
      have hkk := plain_eq 9 k k' hc.2 hk
      subst hkk
      split at h
      · rename_i es hg
        obtain ⟨r', rfl, hcase⟩ := entries_run (es := es) hs (by simp [entriesOf, hg]) hm
        rcases hcase with ⟨h1, -, -⟩ | ⟨b, c, k1, x, es', clk, h1, rfl, hr, hg', hw, hb, hE⟩
        · cases h1
        · cases h1
          have hck := keyChk_run 9 10000 kt k' k' ρ false (by omega) hc.1 hk w
          split at h
          · rename_i i old hf
            cases ho : oldKey es i k' with
            | false => simp [ho] at h
            | true =>
              simp only [ho, Bool.not_true, cond_false, Option.some.injEq, Out.val.injEq] at h
              obtain ⟨rfl, rfl, rfl⟩ := h
              obtain ⟨r', h1, h2⟩ := findKey_run hc.1 hk w hE hf
              cases r' with
              | none => exact h2.elim
              | some p =>
                obtain ⟨j, u'⟩ := p
                obtain ⟨rfl, -, -⟩ := h2
                obtain ⟨e', he', hsb⟩ := oldKey_rel es es'.toList i hE ho
                have he2 : es'[i]? = some e' := by simpa using he'
                obtain ⟨s1, s2⟩ := map_set (P := P) (clk1 := clk) (es1 := setVal es i k' v) (es1' := es'.modify i fun e => { e with key := k', val := v' }) hs hg hr hw hb (by rw [Array.toList_modify]; exact setVal_rel hk hv es es'.toList i hE)
                refine ⟨rfl, rfl, _, ?_, s2⟩
                simp only [Instr.mapUpdate, Sem.run_bind, run_under hd, Result.andThen_ok, MapKept.run_getObj_map hw, hck, h1, he2, Option.map_some, Option.getD_some, Instr.keyThatStays, hsb, if_true, Sem.run_pure, s1]
          · rename_i hf
            simp only [Option.some.injEq, Out.val.injEq] at h
            obtain ⟨rfl, rfl, rfl⟩ := h
            obtain ⟨r', h1, h2⟩ := findKey_run hc.1 hk w hE hf
            cases r' with
            | some p => exact h2.elim
            | none =>
              obtain ⟨s1, s2⟩ := map_set (P := P) (clk1 := clk + 1) (es1 := es ++ [(k', v)]) (es1' := es'.push { key := k', val := v', born := clk }) hs hg hr hw hb (by rw [Array.toList_push]; exact LRel.append hE ⟨⟨hk, hv⟩, trivial⟩)
              refine ⟨rfl, rfl, _, ?_, s2⟩
              simp only [Instr.mapUpdate, Sem.run_bind, run_under hd, Result.andThen_ok, MapKept.run_getObj_map hw, hck, h1, s1]
          · cases h
      · cases h
  · cases h

theorem delete_run {ρ : Rho} {base : Nat} {H H' : AHeap} {w : World} (hs : Sim ρ base H w) {ts : Array TypeId} {ty : TypeId} {args : List Value} {args' : Array Value} {u : Value} {e : Ev} (h : aDelete P H ts args = some (.val u H' e)) (ha : VsRel ρ args args'.toList) :
    H'.next = H.next ∧ ∃ u' w', (Builtin.delete_ ts ty args').run P w = .ok u' w' ∧ VRel ρ u u' ∧ Ok ρ base H w ρ H' w' := by
  unfold aDelete at h
  split at h
  · rename_i t r k ht
    obtain ⟨l⟩ := args'
    rcases l with _ | ⟨m', _ | ⟨k', _ | ⟨z, l⟩⟩⟩
    · exact ha.elim
    · exact ha.2.elim
    · obtain ⟨hm, hk, -⟩ := ha
      split at h
      · rename_i kt el hd
        cases hc : keyChk P 9 kt k with
        | false => simp [hc] at h
        | true =>
          simp only [hc, cond_true] at h
          split at h
          · simp only [Option.some.injEq, Out.val.injEq] at h
            obtain ⟨rfl, rfl, rfl⟩ := h
            cases hm
            have hck := keyChk_run 9 10000 kt k k' ρ true (by omega) hc hk w
            refine ⟨rfl, _, w, ?_, VRel.undef ρ, Ok.refl hs⟩
            simp only [Builtin.delete_, ht, List.getElem?_toArray, List.getElem?_cons_zero, List.getElem?_cons_succ, Sem.run_bind, run_under hd, Result.andThen_ok, hck, Sem.run_pure]
            rfl
          · rename_i b
            split at h
            · rename_i es hg
              obtain ⟨r', rfl, hcase⟩ := entries_run (es := es) hs (by simp [entriesOf, hg]) hm
              rcases hcase with ⟨h1, -, -⟩ | ⟨b, c, k1, x, es', clk, h1, rfl, hr, hg', hw, hb, hE⟩
              · cases h1
              · cases h1
                have hck := keyChk_run 9 10000 kt k k' ρ es'.isEmpty (by omega) hc hk w
                split at h
                · rename_i i old hf
                  simp only [Option.some.injEq, Out.val.injEq] at h
                  obtain ⟨rfl, rfl, rfl⟩ := h
                  obtain ⟨r', h1, h2⟩ := findKey_run hc hk w hE hf
                  cases r' with
                  | none => exact h2.elim
                  | some p =>
                    obtain ⟨j, u'⟩ := p
                    obtain ⟨rfl, -, -⟩ := h2
                    obtain ⟨s1, s2⟩ := map_set (P := P) (clk1 := clk) (es1 := eraseAt es i) (es1' := es'.eraseIdxIfInBounds i) hs hg hr hw hb (by rw [Array.toList_eraseIdxIfInBounds]; exact eraseAt_rel es es'.toList i hE)
                    refine ⟨rfl, _, _, ?_, VRel.undef ρ, s2⟩
                    simp only [Builtin.delete_, ht, List.getElem?_toArray, List.getElem?_cons_zero, List.getElem?_cons_succ, Sem.run_bind, run_under hd, Result.andThen_ok, hck, h1, MapKept.run_getObj_map hw, s1, Sem.run_pure]
                    rfl
                · rename_i hf
                  simp only [Option.some.injEq, Out.val.injEq] at h
                  obtain ⟨rfl, rfl, rfl⟩ := h
                  obtain ⟨r', h1, h2⟩ := findKey_run hc hk w hE hf
                  cases r' with
                  | some p => exact h2.elim
                  | none =>
                    have hset : (setObj c (.map es' clk)).run P w = .ok () w := by
                      rw [MapKept.run_setObj_map _ hw]
                      have : w.heap.setIfInBounds c (.map es' clk) = w.heap := by
                        apply Array.ext'
                        rw [Array.toList_setIfInBounds]
                        apply List.ext_getElem?
                        intro n
                        rw [List.getElem?_set]
                        split
                        · rename_i e; subst e
                          split
                          · simpa using hw.symm
                          · rename_i hl; simp at hl; have := hs.inb _ _ _ _ hr; omega
                        · rfl
                      rw [this]
                    refine ⟨rfl, _, w, ?_, VRel.undef ρ, Ok.refl hs⟩
                    simp only [Builtin.delete_, ht, List.getElem?_toArray, List.getElem?_cons_zero, List.getElem?_cons_succ, Sem.run_bind, run_under hd, Result.andThen_ok, hck, h1, MapKept.run_getObj_map hw, hset, Sem.run_pure]
                    rfl
                · cases h
            · cases h
      · cases h
    · exact ha.2.2.elim
  · cases h
end Go.AX
