/- Regions whose order is drawn: what is shown of the order of the text holds of every order. -/
import Derived.Test.YtjnegbcdeggpfaaDoorAxRun
import Derived.Test.YtjnegbcdeggpfaaDoorAxReg
namespace Go.AX
open Go Go.RowKit
set_option linter.unusedVariables false
set_option linter.unusedSimpArgs false

variable {P : Program}

/-! ### an operation hangs on what it reads -/
section
variable {f g : Fr}
theorem evL_congr : ∀ {l : List Operand}, (∀ x ∈ l, evO f x = evO g x) → evL f l = evL g l
  | [], _ => rfl
  | x :: r, h => by simp only [evL, h x (by simp), evL_congr (l := r) fun y hy => h y (by simp [hy])]
theorem partsL_congr : ∀ {l : List (Nat × Operand)}, (∀ x ∈ l.map (·.2), evO f x = evO g x) → partsL f l = partsL g l
  | [], _ => rfl
  | (i, x) :: r, h => by simp only [partsL, h x (by simp), partsL_congr (l := r) fun y hy => h y (by simp at hy ⊢; exact .inr hy)]
theorem evM_congr {x : Option Operand} (h : ∀ y, x = some y → evO f y = evO g y) : evM f x = evM g x := by
  cases x with
  | none => rfl
  | some y => simp only [evM, h y rfl]
theorem bind_congr {xs : Array Operand} (h : ∀ x ∈ xs.toList, evO f x = evO g x) : (xs[0]?).bind (evO f) = (xs[0]?).bind (evO g) := by
  cases h0 : xs[0]? with
  | none => rfl
  | some y =>
    have : y ∈ xs.toList := by
      have := List.mem_of_getElem? (l := xs.toList) (i := 0) (a := y) (by simpa using h0)
      exact this
    simp [h y this]

theorem aQuiet_congr {op : Op} (h : ∀ x ∈ op.operands.toList, evO f x = evO g x) : aQuiet P f op = aQuiet P g op := by
  cases op <;> simp only [aQuiet] <;> simp only [Op.operands] at h
  case move x => exact h x (by simp)
  case assign x => exact h x (by simp)
  case pick c a b => rw [h c (by simp), h a (by simp), h b (by simp)]
  case nilCheck x => rw [h x (by simp)]
  case build t ps => rw [partsL_congr (l := ps.toList) fun x hx => h x (by simpa using hx)]
  case binOp op t x y yt => rw [h x (by simp), h y (by simp)]
  case unOp op t x => rw [h x (by simp)]
  case convert s d x => rw [h x (by simp)]
  case makeInterface t x => rw [h x (by simp)]
  case makeFunc fn a b => rw [evL_congr (l := a.toList) fun x hx => h x (by simp at hx ⊢; exact .inl hx), evL_congr (l := b.toList) fun x hx => h x (by simp at hx ⊢; exact .inr hx)]
  case slice t x lo hi mx =>
    rw [h x (by simp), evM_congr (x := lo) fun y hy => h y (by subst hy; simp), evM_congr (x := hi) fun y hy => h y (by subst hy; simp), evM_congr (x := mx) fun y hy => h y (by subst hy; simp)]
  case fieldAddr s x j => rw [h x (by simp)]
  case field s x j => rw [h x (by simp)]
  case indexAddr t x i => rw [h x (by simp), h i (by simp)]
  case index t x i => rw [h x (by simp), h i (by simp)]
  case extract t i => rw [h t (by simp)]
  case typeAssert x xt d ok => rw [h x (by simp)]
  case call c =>
    have hargs : ∀ x ∈ c.args.toList, evO f x = evO g x := fun x hx => h x (by simp only [Call.operands, Array.toList_append, List.mem_append]; exact .inr hx)
    rw [evL_congr hargs, bind_congr hargs]

theorem aMake_congr {op : Op} (h : ∀ x ∈ op.operands.toList, evO f x = evO g x) : aMake P f op = aMake P g op := by
  cases op <;> simp only [aMake] <;> simp only [Op.operands] at h
  case box t x => rw [h x (by simp)]
  case buildSlice t l ps => rw [partsL_congr (l := ps.toList) fun x hx => h x (by simpa using hx)]
  case makeSlice t a b => rw [h a (by simp), h b (by simp)]
  case makeMap t r => cases r <;> rfl
  case range t x => rw [h x (by simp)]

theorem aOp_congr {call : FuncId → List Value → AHeap → Option (CRes × AHeap)} {H : AHeap} {op : Op} (h : ∀ x ∈ op.operands.toList, evO f x = evO g x) : aOp P call f H op = aOp P call g H op := by
  have hq := aQuiet_congr (P := P) h
  have hm := aMake_congr (P := P) h
  cases op <;> simp only [aOp, hq, hm] <;> simp only [Op.operands] at h
  case load t x => rw [h x (by simp)]
  case store t x y => rw [h x (by simp), h y (by simp)]
  case panic x => rw [h x (by simp)]
  case convert s d x => rw [h x (by simp)]
  case next it isS => rw [h it (by simp)]
  case lookup t x y b => rw [h x (by simp), h y (by simp)]
  case mapUpdate t x y z => rw [h x (by simp), h y (by simp), h z (by simp)]
  case insert t x y z => rw [h x (by simp), h y (by simp), h z (by simp)]
  case call c =>
    have hargs : ∀ x ∈ c.args.toList, evO f x = evO g x := fun x hx => h x (by simp only [Call.operands, Array.toList_append, List.mem_append]; exact .inr hx)
    rw [evL_congr hargs]
    cases hc : c.callee with
    | value x =>
      simp only
      rw [h x (by simp [Call.operands, hc])]
    | invoke r m => rfl
    | builtin b => cases b <;> rfl
end

/-! ### what an operation did -/
theorem op_ev {call : FuncId → List Value → AHeap → Option (CRes × AHeap)} {f : Fr} {H H' : AHeap} {op : Op} {v : Value} {e : Ev} (h : aOp P call f H op = some (.val v H' e)) :
    (e = .quiet ∧ H' = H ∧ ∀ F, aOp P call f F op = some (.val v F e)) ∨
    (∃ b o n, e = .look b o n ∧ H' = H ∧ (cellsAt H b o n).isSome = true ∧ ∀ F, cellsAt F b o n = cellsAt H b o n → aOp P call f F op = some (.val v F e)) ∨
    (∃ ob vf, e = .make H.next ob ∧ H' = H.push ob ∧ aMake P f op = some (ob, vf) ∧ v = vf H.next) ∨
    (e = .eff H H' ∧ isEff P op = true) := by
  have quiet : ∀ op, (∀ F, aOp P call f F op = (aQuiet P f op).map fun v => Out.val v F .quiet) → aOp P call f H op = some (.val v H' e) → e = .quiet ∧ H' = H ∧ ∀ F, aOp P call f F op = some (.val v F e) := by
    intro op ho hq
    rw [ho] at hq
    cases hv : aQuiet P f op with
    | none => simp [hv] at hq
    | some u =>
      simp [hv] at hq
      obtain ⟨rfl, rfl, rfl⟩ := hq
      exact ⟨rfl, rfl, fun F => by rw [ho, hv]; rfl⟩
  have make : ∀ op, (aOp P call f H op = match aMake P f op with | some (ob, vf) => some (Out.val (vf H.next) (H.push ob) (.make H.next ob)) | none => none) → aOp P call f H op = some (.val v H' e) →
      ∃ ob vf, e = .make H.next ob ∧ H' = H.push ob ∧ aMake P f op = some (ob, vf) ∧ v = vf H.next := by
    intro op ho hq
    rw [ho] at hq
    split at hq
    · rename_i ob vf hm
      simp at hq
      obtain ⟨rfl, rfl, rfl⟩ := hq
      exact ⟨ob, vf, rfl, rfl, hm, rfl⟩
    · cases hq
  cases op with
  | alloc x => exact .inr (.inr (.inl (make _ rfl h)))
  | box x y => exact .inr (.inr (.inl (make _ rfl h)))
  | buildSlice t l ps => exact .inr (.inr (.inl (make _ rfl h)))
  | makeSlice t l c => exact .inr (.inr (.inl (make _ rfl h)))
  | makeMap t r => exact .inr (.inr (.inl (make _ rfl h)))
  | range t x => exact .inr (.inr (.inl (make _ rfl h)))
  | next it isS =>
    right; right; right
    simp only [aOp] at h
    split at h
    · simp only [aNext, Bool.cond_eq_ite] at h
      repeat' split at h
      all_goals first | (cases h; done) | (simp only [Option.some.injEq, Out.val.injEq] at h; obtain ⟨_, rfl, rfl⟩ := h; exact ⟨rfl, rfl⟩)
    · cases h
  | load t x =>
    right; left
    simp only [aOp] at h ⊢
    split at h
    · rename_i av hav
      simp only [aLoad] at h ⊢
      split at h
      · rename_i b o d n hu hn
        cases hd : isAggD d with
        | true =>
          simp only [hd, cond_true] at h
          split at h
          · rename_i l hl
            simp at h
            obtain ⟨rfl, rfl, rfl⟩ := h
            exact ⟨b, o, n, rfl, rfl, by rw [hl]; rfl, fun F hF => by simp only [hu, hn, hd, cond_true, hF, hl]⟩
          · cases h
        | false =>
          simp only [hd, cond_false] at h
          split at h
          · rename_i u hl
            simp at h
            obtain ⟨rfl, rfl, rfl⟩ := h
            exact ⟨b, o, 1, rfl, rfl, by rw [hl]; rfl, fun F hF => by simp only [hu, hn, hd, cond_false, hF, hl]⟩
          · cases h
      · cases h
    · cases h
  | store t x y =>
    right; right; right
    simp only [aOp] at h
    split at h
    · simp only [aStore, Bool.cond_eq_ite] at h
      repeat' split at h
      all_goals first | (cases h; done) | (simp at h; obtain ⟨_, rfl, rfl⟩ := h; exact ⟨rfl, rfl⟩)
    · cases h
  | panic x =>
    simp only [aOp] at h
    split at h <;> simp at h
  | convert src dst x =>
    simp only [aOp] at h ⊢
    split at h
    · rename_i xv hxv
      unfold aText at h
      split at h
      · rename_i sa n c
        split at h
        · rename_i el hu hd
          split at h
          · rename_i hel
            split at h
            · rename_i m cs hcs
              split at h
              · rename_i l hl
                simp only [Option.some.injEq, Out.val.injEq] at h
                obtain ⟨rfl, rfl, rfl⟩ := h
                rcases sa with _ | ⟨b, o, s⟩
                · left
                  refine ⟨rfl, rfl, fun F => ?_⟩
                  have : srcCells F 1 (.slice none n c) = some (m, cs) := by rw [← hcs]; rfl
                  simp only [aText, hu, hd, hel, this, hl]
                · cases hb : Nat.beq n 0 with
                  | true =>
                    left
                    have hn : Nat.beq (n * 1) 0 = true := by rw [Nat.mul_one]; exact hb
                    refine ⟨by simp only [lookAt, hn, cond_true], rfl, fun F => ?_⟩
                    have : srcCells F 1 (.slice (some ⟨b, o, s⟩) n c) = some (m, cs) := by rw [← hcs]; simp only [srcCells, hb, cond_true]
                    simp only [aText, hu, hd, hel, this, hl]
                  | false =>
                    right; left
                    have hn : Nat.beq (n * 1) 0 = false := by rw [Nat.mul_one]; exact hb
                    have hcs' := hcs
                    simp only [srcCells, hb, cond_false] at hcs'
                    cases hle : Nat.ble n c with
                    | false => simp [hle] at hcs'
                    | true =>
                      simp only [hle, cond_true] at hcs'
                      split at hcs'
                      · rename_i l2 hl2
                        refine ⟨b, o, n * 1, by simp only [lookAt, hn, cond_false], rfl, by rw [hl2]; rfl, fun F hF => ?_⟩
                        have : srcCells F 1 (.slice (some ⟨b, o, s⟩) n c) = some (m, cs) := by rw [← hcs]; simp only [srcCells, hF]
                        simp only [aText, hu, hd, hel, this, hl]
                      · cases hcs'
              · cases h
            · cases h
          · cases h
        · cases h
      · rename_i hns
        left
        simp only [Option.map_eq_some_iff, Out.val.injEq] at h
        obtain ⟨u, hu, rfl, rfl, rfl⟩ := h
        refine ⟨rfl, rfl, fun F => ?_⟩
        unfold aText
        split
        · exact (hns _ _ _ rfl).elim
        · rw [hu]; rfl
    · cases h
  | lookup t m k ok =>
    right; right; right
    simp only [aOp] at h
    split at h
    · simp only [aLookup, Bool.cond_eq_ite] at h
      repeat' split at h
      all_goals first | (cases h; done) | (simp only [Option.some.injEq, Out.val.injEq] at h; obtain ⟨_, rfl, rfl⟩ := h; exact ⟨rfl, rfl⟩)
    · cases h
  | mapUpdate t m k y =>
    right; right; right
    simp only [aOp] at h
    split at h
    · simp only [aMapUpdate, Bool.cond_eq_ite] at h
      repeat' split at h
      all_goals first | (cases h; done) | (simp only [Option.some.injEq, Out.val.injEq] at h; obtain ⟨_, rfl, rfl⟩ := h; exact ⟨rfl, rfl⟩)
    · cases h
  | insert t m k y =>
    right; right; right
    simp only [aOp] at h
    split at h
    · simp only [aMapUpdate, Bool.cond_eq_ite] at h
      repeat' split at h
      all_goals first | (cases h; done) | (simp only [Option.some.injEq, Out.val.injEq] at h; obtain ⟨_, rfl, rfl⟩ := h; exact ⟨rfl, rfl⟩)
    · cases h
  | call c =>
    simp only [aOp] at h
    split at h
    · rename_i hc
      right; right; right
      split at h
      · refine ⟨?_, by simp [isEff, hc]⟩
        simp only [aAppend, aAppendTo, Bool.cond_eq_ite] at h
        repeat' split at h
        all_goals first | (cases h; done) | (simp at h; obtain ⟨_, rfl, rfl⟩ := h; rfl)
      · cases h
    · rename_i hc
      right; right; right
      split at h
      · refine ⟨?_, by simp [isEff, hc]⟩
        simp only [aCopy, aCopyTo, Bool.cond_eq_ite] at h
        repeat' split at h
        all_goals first | (cases h; done) | (simp only [Option.some.injEq, Out.val.injEq] at h; obtain ⟨_, rfl, rfl⟩ := h; rfl)
      · cases h
    · rename_i hc
      right; right; right
      split at h
      · refine ⟨?_, by simp [isEff, hc]⟩
        simp only [aDelete, Bool.cond_eq_ite] at h
        repeat' split at h
        all_goals first | (cases h; done) | (simp only [Option.some.injEq, Out.val.injEq] at h; obtain ⟨_, rfl, rfl⟩ := h; rfl)
      · cases h
    · rename_i hc
      right; right; right
      split at h
      · refine ⟨?_, by simp [isEff, hc]⟩
        simp only [aClear, Bool.cond_eq_ite] at h
        repeat' split at h
        all_goals first | (cases h; done) | (simp only [Option.some.injEq, Out.val.injEq] at h; obtain ⟨_, rfl, rfl⟩ := h; rfl)
      · cases h
    · rename_i hc
      right; right; right
      split at h
      · refine ⟨?_, by simp [isEff, hc]⟩
        obtain ⟨_, e⟩ := data_wf h; cases e; rfl
      · cases h
    · rename_i hc
      right; right; right
      split at h
      · refine ⟨?_, by simp [isEff, hc]⟩
        obtain ⟨_, e | ⟨_, _, _, e⟩⟩ := utext_wf h <;> cases e <;> rfl
      · cases h
    · rename_i hc
      split at h
      · rename_i l hl
        unfold aLen at h
        split at h
        · right; right; right
          split at h
          · simp only [Option.some.injEq, Out.val.injEq] at h; obtain ⟨_, rfl, rfl⟩ := h; exact ⟨rfl, by simp only [isEff, hc, isMapT, *]⟩
          · cases h
        · rename_i t x hx ht
          left
          simp only [Option.map_eq_some_iff, Out.val.injEq] at h
          obtain ⟨u, hu, rfl, rfl, rfl⟩ := h
          refine ⟨rfl, rfl, fun F => ?_⟩
          simp only [aOp, hc, hl, aLen, ht]
          rw [hu]; rfl
        · cases h
      · cases h
    · rename_i x hc
      right; right; right
      split at h
      · split at h
        · simp at h; obtain ⟨_, rfl, rfl⟩ := h; exact ⟨rfl, by simp [isEff, hc]⟩
        · simp at h
        · cases h
      · cases h
    · rename_i b hna hc
      left
      refine quiet (.call c) (fun F => ?_) ?_
      · simp only [aOp, hc]
      · simp only [aOp, hc]; exact h
    · cases h
  | _ => first | exact .inl (quiet _ (fun _ => rfl) h) | (simp [aOp, aQuiet] at h; done)
end Go.AX
namespace Go.AX
open Go Go.RowKit
set_option linter.unusedVariables false
set_option linter.unusedSimpArgs false

variable {P : Program}

/-! ### a step seen in a greater memory -/
theorem ownB_of {H G : AHeap} {b : Nat} (e : G.get b = H.get b) : ownB G b ↔ ownB H b := by simp [ownB, e]
theorem ownB_lt {H : AHeap} (hw : Wf H) {b : Nat} (h : ownB H b) : b < H.next := by
  rcases Nat.lt_or_ge b H.next with e | e
  · exact e
  · simp [ownB, hw b e] at h

theorem Sim.sub {ρ : Rho} {base : Nat} {G H : AHeap} {w : World} (h : Sim ρ base G w) (hw : Wf H) (he : ∀ b, b < H.next → G.get b = H.get b) : Sim ρ base H w where
  alive b x hb := by
    rcases Nat.lt_or_ge b H.next with e | e
    · rw [← he b e]; exact h.alive b x hb
    · exact .inl (hw b e)
  bsz := h.bsz
  inb := h.inb
  obj b o hb := h.obj b o (by rw [he b (hw.lt hb)]; exact hb)
  apart b b' c k x k' x' ho := h.apart b b' c k x k' x' ((ownB_of (he b (ownB_lt hw ho))).2 ho)

theorem frame_ok {ρ ρ' : Rho} {base : Nat} {G G' H H' : AHeap} {w w' : World} (hs : Sim ρ base G w) (hw : Wf H) (hw' : Wf H') (he : ∀ b, b < H.next → G.get b = H.get b) (hn : H.next ≤ H'.next)
    (h1 : ∀ b, b < H'.next → G'.get b = H'.get b) (h2 : ∀ b, H'.next ≤ b → G'.get b = G.get b) (ok : Ok ρ base H w ρ' H' w') : Sim ρ' base G' w' ∧ Step ρ G w ρ' G' w' := by
  have sub : ∀ b, ownB H b → ownB G b := fun b hb => (ownB_of (he b (ownB_lt hw hb))).2 hb
  have far : ∀ b, H'.next ≤ b → ¬ ownB H b := fun b hb ho => by have := ownB_lt hw ho; omega
  have same : ∀ b, H'.next ≤ b → ∀ c k x, ρ' b = .live c k x → ρ b = .live c k x := fun b hb c k x hl => by
    rcases ok.mono.out b (by omega) with e | ⟨c1, k1, x1, e1, e2⟩
    · rw [← e]; exact hl
    · rw [e2] at hl; cases hl
  refine ⟨⟨?_, ok.sim.bsz, ok.sim.inb, ?_, ?_⟩, ⟨ok.step.os, ok.step.tape, ok.step.output, ok.step.size, ?_, ?_, ?_, ?_⟩⟩
  · intro b x hb
    rcases Nat.lt_or_ge b H'.next with e | e
    · rw [h1 b e]; exact ok.sim.alive b x hb
    · rw [h2 b e]
      rcases ok.mono.out b (by omega) with e1 | ⟨c1, k1, x1, e1, e2⟩
      · exact hs.alive b x (by rw [← e1]; exact hb)
      · have := (ok.step.keep b c1 k1 x1 e1 (far b e)).1
        rw [this] at hb; cases hb
  · intro b o hb
    rcases Nat.lt_or_ge b H'.next with e | e
    · rw [h1 b e] at hb; exact ok.sim.obj b o hb
    · rw [h2 b e] at hb
      refine (hs.obj b o hb).keep ok.mono (by omega) fun c k x hl => ok.step.block c (hs.inb b c k x hl) fun b0 k0 x0 ho hl0 => ?_
      have := hs.apart b0 b c k0 x0 k x (sub b0 ho) hl0 hl
      have := ownB_lt hw ho
      omega
  · intro b b' c k x k' x' ho hl hl'
    rcases Nat.lt_or_ge b H'.next with e | e
    · exact ok.sim.apart b b' c k x k' x' ((ownB_of (h1 b e)).1 ho) hl hl'
    · have ho' : ownB G b := (ownB_of (h2 b e)).1 ho
      have hlb := same b e c k x hl
      rcases ok.step.src b' c k' x' hl' with hlb' | hge | ⟨b0, k0, x0, q1, q2⟩
      · exact hs.apart b b' c k x k' x' ho' hlb hlb'
      · have := hs.inb b c k x hlb; omega
      · have := hs.apart b0 b c k0 x0 k x (sub b0 q1) q2 hlb
        have := ownB_lt hw q1
        omega
  · intro c hc hno
    exact ok.step.block c hc fun b k x ho hl => hno b k x (sub b ho) hl
  · intro b c k x ho hl
    rcases Nat.lt_or_ge b H'.next with e | e
    · rcases ok.step.own b c k x ((ownB_of (h1 b e)).1 ho) hl with hge | ⟨b0, k0, x0, q1, q2⟩
      · exact .inl hge
      · exact .inr ⟨b0, k0, x0, sub b0 q1, q2⟩
    · exact .inr ⟨b, k, x, (ownB_of (h2 b e)).1 ho, same b e c k x hl⟩
  · intro b c k x hl hno
    have hnH : ¬ ownB H b := fun h => hno (sub b h)
    obtain ⟨q1, q2⟩ := ok.step.keep b c k x hl hnH
    refine ⟨q1, fun h => ?_⟩
    rcases Nat.lt_or_ge b H'.next with e | e
    · exact q2 ((ownB_of (h1 b e)).1 h)
    · exact hno ((ownB_of (h2 b e)).1 h)
  · intro b c k x hl
    rcases ok.step.src b c k x hl with h | hge | ⟨b0, k0, x0, q1, q2⟩
    · exact .inl h
    · exact .inr (.inl hge)
    · exact .inr (.inr ⟨b0, k0, x0, sub b0 q1, q2⟩)

/-! ### the trace of a region, in the order of its text -/
structure Trace (P : Program) (call : FuncId → List Value → AHeap → Option (CRes × AHeap)) (ops : Array Oper) (tr : List (Nat × Ev)) (from_ : Nat) where
  fr : Nat → Fr
  hp : Nat → AHeap
  val : Nat → Value
  ev : Nat → Option Ev
  put : ∀ i o, from_ ≤ i → ops[i]? = some o → (fr i).put o.dst (val i) = some (fr (i + 1))
  want : ∀ i o, from_ ≤ i → ops[i]? = some o → wantedA ops o (fr i) = true → ∃ e, ev i = some e ∧ aOp P call (fr i) (hp i) o.op = some (.val (val i) (hp (i + 1)) e) ∧ (i, e) ∈ tr
  skip : ∀ i o, from_ ≤ i → ops[i]? = some o → wantedA ops o (fr i) = false → ev i = none ∧ val i = undef ∧ hp (i + 1) = hp i

theorem trace_of {call : FuncId → List Value → AHeap → Option (CRes × AHeap)} {ops : Array Oper} : ∀ (l : List Oper) (i : Nat) (f : Fr) (H : AHeap) (tr0 : List (Nat × Ev)) (f' : Fr) (H' : AHeap) (tr : List (Nat × Ev)),
    (∀ j, l[j]? = ops[i + j]?) → runOps P call ops l i f H tr0 = some (.done f' H' tr) →
    (∀ x ∈ tr0, x ∈ tr) ∧ ∃ T : Trace P call ops tr i, T.fr i = f ∧ T.hp i = H ∧ T.fr (i + l.length) = f' ∧ T.hp (i + l.length) = H'
  | [], i, f, H, tr0, f', H', tr, hl, h => by
    simp [runOps] at h
    obtain ⟨rfl, rfl, rfl⟩ := h
    refine ⟨fun _ h => h, ⟨fun _ => f, fun _ => H, fun _ => undef, fun _ => none, ?_, ?_, ?_⟩, rfl, rfl, rfl, rfl⟩ <;>
      (intro j o hj ho; have := hl (j - i); rw [show i + (j - i) = j by omega, ho] at this; simp at this)
  | o :: r, i, f, H, tr0, f', H', tr, hl, h => by
    have ho : ops[i]? = some o := by have := hl 0; simpa using this.symm
    have hl' : ∀ j, r[j]? = ops[i + 1 + j]? := fun j => by have := hl (j + 1); rw [show i + 1 + j = i + (j + 1) by omega]; simpa using this
    -- put one row ahead of a trace
    have glue : ∀ (f1 : Fr) (H1 : AHeap) (v : Value) (e : Option Ev), f.put o.dst v = some f1 →
        (wantedA ops o f = true → ∃ e', e = some e' ∧ aOp P call f H o.op = some (.val v H1 e') ∧ (i, e') ∈ tr) →
        (wantedA ops o f = false → e = none ∧ v = undef ∧ H1 = H) →
        (∃ T : Trace P call ops tr (i + 1), T.fr (i + 1) = f1 ∧ T.hp (i + 1) = H1 ∧ T.fr (i + 1 + r.length) = f' ∧ T.hp (i + 1 + r.length) = H') →
        ∃ T : Trace P call ops tr i, T.fr i = f ∧ T.hp i = H ∧ T.fr (i + (o :: r).length) = f' ∧ T.hp (i + (o :: r).length) = H' := by
      rintro f1 H1 v e hp hw hs ⟨T, t1, t2, t3, t4⟩
      refine ⟨⟨fun j => if j = i then f else T.fr j, fun j => if j = i then H else T.hp j, fun j => if j = i then v else T.val j, fun j => if j = i then e else T.ev j, ?_, ?_, ?_⟩, ?_, ?_, ?_, ?_⟩
      · intro j oj hj hoj
        by_cases ej : j = i
        · subst ej
          rw [ho] at hoj; cases hoj
          simp only [if_true, if_neg (show j + 1 ≠ j by omega), t1]; exact hp
        · simp only [if_neg ej, if_neg (show j + 1 ≠ i by omega)]; exact T.put j oj (by omega) hoj
      · intro j oj hj hoj hwj
        by_cases ej : j = i
        · subst ej
          rw [ho] at hoj; cases hoj
          simp only [if_true, if_neg (show j + 1 ≠ j by omega), t2] at hwj ⊢; exact hw hwj
        · simp only [if_neg ej, if_neg (show j + 1 ≠ i by omega)] at hwj ⊢; exact T.want j oj (by omega) hoj hwj
      · intro j oj hj hoj hwj
        by_cases ej : j = i
        · subst ej
          rw [ho] at hoj; cases hoj
          simp only [if_true, if_neg (show j + 1 ≠ j by omega), t2] at hwj ⊢; exact hs hwj
        · simp only [if_neg ej, if_neg (show j + 1 ≠ i by omega)] at hwj ⊢; exact T.skip j oj (by omega) hoj hwj
      · simp
      · simp
      · simp only [List.length_cons, if_neg (show i + (r.length + 1) ≠ i by omega)]; rw [show i + (r.length + 1) = i + 1 + r.length by omega]; exact t3
      · simp only [List.length_cons, if_neg (show i + (r.length + 1) ≠ i by omega)]; rw [show i + (r.length + 1) = i + 1 + r.length by omega]; exact t4
    simp only [runOps] at h
    cases hw : wantedA ops o f with
    | true =>
      simp only [hw, cond_true] at h
      split at h
      · rename_i v H1 e hop
        split at h
        · rename_i f1 hp
          obtain ⟨k1, k2⟩ := trace_of r (i + 1) f1 H1 _ f' H' tr hl' h
          exact ⟨fun x hx => k1 x (List.mem_cons_of_mem _ hx), glue f1 H1 v (some e) hp (fun _ => ⟨e, rfl, hop, k1 _ (by simp)⟩) (fun hf => by rw [hw] at hf; cases hf) k2⟩
        · cases h
      · simp at h
      · cases h
    | false =>
      simp only [hw, cond_false] at h
      split at h
      · rename_i f1 hp
        obtain ⟨k1, k2⟩ := trace_of r (i + 1) f1 H tr0 f' H' tr hl' h
        exact ⟨k1, glue f1 H undef none hp (fun hf => by rw [hw] at hf; cases hf) (fun _ => ⟨rfl, rfl, rfl⟩) k2⟩
      · cases h

/-! ### the memory with all that is made later -/
noncomputable def later (ev : Nat → Option Ev) : Nat → Nat → AHeap → AHeap
  | 0, _, F => F
  | c + 1, p, F => later ev c (p + 1) (match ev p with | some (.make b o) => F.set b o | _ => F)

theorem later_congr (ev : Nat → Option Ev) : ∀ (c p : Nat) (F G : AHeap), (∀ b, F.get b = G.get b) → ∀ b, (later ev c p F).get b = (later ev c p G).get b
  | 0, _, _, _, h, b => h b
  | c + 1, p, F, G, h, b => by
    simp only [later]
    refine later_congr ev c (p + 1) _ _ (fun d => ?_) b
    split
    · rw [AHeap.get_set, AHeap.get_set, h d]
    · exact h d
theorem later_else (ev : Nat → Option Ev) {b : Nat} : ∀ (c p : Nat) (F : AHeap), (∀ i, p ≤ i → i < p + c → ∀ o, ev i ≠ some (.make b o)) → (later ev c p F).get b = F.get b
  | 0, _, _, _ => rfl
  | c + 1, p, F, h => by
    simp only [later]
    rw [later_else ev c (p + 1) _ fun i h1 h2 => h i (by omega) (by omega)]
    split
    · rename_i b' o' he
      rw [AHeap.get_set, if_neg]
      intro e; subst e
      exact h p (Nat.le_refl _) (by omega) _ he
    · rfl
theorem later_make (ev : Nat → Option Ev) {b : Nat} {o : AObj} : ∀ (c p : Nat) (F : AHeap) (i : Nat), p ≤ i → i < p + c → ev i = some (.make b o) → (∀ j o', i < j → ev j ≠ some (.make b o')) → (later ev c p F).get b = some o
  | 0, p, F, i, h1, h2, _, _ => by omega
  | c + 1, p, F, i, h1, h2, h3, h4 => by
    simp only [later]
    by_cases e : i = p
    · subst e
      rw [h3]
      simp only
      rw [later_else ev c (i + 1) _ fun j q1 q2 o' => h4 j o' (by omega), AHeap.get_set, if_pos rfl]
    · exact later_make ev c (p + 1) _ i (by omega) (by omega) h3 h4
end Go.AX
namespace Go.AX
open Go Go.RowKit
set_option linter.unusedVariables false
set_option linter.unusedSimpArgs false

variable {P : Program}

/-! ### by sight -/
theorem rowOk_get {ops : Array Oper} {b : Array Nat} {j : Nat} {oj : Oper} : ∀ {l : List Oper} {i : Nat}, rowOk P ops b j oj l i = true → ∀ k oi, l[k]? = some oi → i + k < j → pairOk P ops b (i + k) j oi oj = true
  | [], i, _, k, oi, h, _ => by simp at h
  | o :: r, i, h, k, oi, hk, hj => by
    simp only [rowOk, Bool.and_eq_true] at h
    cases k with
    | zero => simp at hk; subst hk; simpa [show i < j by omega] using h.1
    | succ k => have := rowOk_get h.2 k oi (by simpa using hk) (by omega); rwa [show i + 1 + k = i + (k + 1) by omega] at this
theorem rowsOk_get {ops : Array Oper} {b : Array Nat} : ∀ {l : List Oper} {j : Nat}, rowsOk P ops b l j = true → ∀ k oj, l[k]? = some oj → rowOk P ops b (j + k) oj ops.toList 0 = true ∧ ∀ e ∈ oj.after, Region.binds .any e = true → e.on < j + k
  | [], j, _, k, oj, h => by simp at h
  | o :: r, j, h, k, oj, hk => by
    simp only [rowsOk, Bool.and_eq_true] at h
    cases k with
    | zero =>
      simp at hk; subst hk
      refine ⟨h.1.1, fun e he hb => ?_⟩
      have := List.all_eq_true.1 h.1.2 e (by simpa using he)
      simp only [hb, Bool.not_true, Bool.false_or] at this
      simpa [Nat.blt_eq] using this
    | succ k =>
      have := rowsOk_get h.2 k oj (by simpa using hk)
      rwa [show j + 1 + k = j + (k + 1) by omega] at this

def calcB (acc : Array Nat) (o : Oper) : Nat := o.after.foldl (fun s e => if Region.binds .any e then s ||| 2 ^ e.on ||| acc.getD e.on 0 else s) 0

theorem calc_spec (acc : Array Nat) (i : Nat) : ∀ (l : List Edge) (s : Nat), (l.foldl (fun s e => if Region.binds .any e then s ||| 2 ^ e.on ||| acc.getD e.on 0 else s) s).testBit i = true →
    s.testBit i = true ∨ ∃ e ∈ l, Region.binds .any e = true ∧ (e.on = i ∨ (acc.getD e.on 0).testBit i = true)
  | [], s, h => .inl h
  | e :: r, s, h => by
    simp only [List.foldl_cons] at h
    rcases calc_spec acc i r _ h with h1 | ⟨e', he', h1⟩
    · split at h1
      · rename_i hb
        rw [Nat.testBit_or, Nat.testBit_or, Bool.or_eq_true, Bool.or_eq_true, Nat.testBit_two_pow] at h1
        rcases h1 with (h1 | h1) | h1
        · exact .inl h1
        · exact .inr ⟨e, by simp, hb, .inl (by simpa using h1)⟩
        · exact .inr ⟨e, by simp, hb, .inr h1⟩
      · exact .inl h1
    · exact .inr ⟨e', by simp [he'], h1⟩

theorem before_fold : ∀ (l : List Oper) (acc : Array Nat), (∀ (j : Nat) (x : Nat), acc[j]? = some x → (l.foldl (fun acc o => acc.push (calcB acc o)) acc)[j]? = some x) ∧
    ∀ (k : Nat) (o : Oper), l[k]? = some o → ∃ acc' : Array Nat, acc'.size = acc.size + k ∧ (∀ (j : Nat) (x : Nat), acc'[j]? = some x → (l.foldl (fun acc o => acc.push (calcB acc o)) acc)[j]? = some x) ∧ (l.foldl (fun acc o => acc.push (calcB acc o)) acc)[acc.size + k]? = some (calcB acc' o)
  | [], acc => ⟨fun _ _ h => h, fun k o h => by simp at h⟩
  | o :: r, acc => by
    obtain ⟨h1, h2⟩ := before_fold r (acc.push (calcB acc o))
    have hpre : ∀ (j : Nat) (x : Nat), acc[j]? = some x → (r.foldl (fun acc o => acc.push (calcB acc o)) (acc.push (calcB acc o)))[j]? = some x := fun j x hx => h1 j x (by
      have hj : j < acc.size := (Array.getElem?_eq_some_iff.1 hx).1
      rw [Array.getElem?_push, if_neg (by omega)]; exact hx)
    refine ⟨hpre, fun k o' hk => ?_⟩
    cases k with
    | zero =>
      simp at hk; subst hk
      exact ⟨acc, rfl, hpre, h1 _ _ (by simp)⟩
    | succ k =>
      obtain ⟨acc', q1, q2, q3⟩ := h2 k o' (by simpa using hk)
      refine ⟨acc', by simp at q1; omega, q2, ?_⟩
      simp only [Array.size_push] at q3
      rw [show acc.size + (k + 1) = acc.size + 1 + k by omega]; exact q3

theorem before_spec {ops : Array Oper} {j i : Nat} {o : Oper} (ho : ops[j]? = some o) (h : ((Region.before ops).getD j 0).testBit i = true) : ∃ e ∈ o.after, Region.binds .any e = true ∧ (e.on = i ∨ ((Region.before ops).getD e.on 0).testBit i = true) := by
  have hb : Region.before ops = ops.toList.foldl (fun acc o => acc.push (calcB acc o)) #[] := by
    unfold Region.before
    rw [← Array.foldl_toList]; rfl
  obtain ⟨acc', q1, q2, q3⟩ := (before_fold ops.toList #[]).2 j o (by simpa using ho)
  rw [hb] at h ⊢
  simp only [List.size_toArray, List.length_nil, Nat.zero_add] at q3
  rw [Array.getD_eq_getD_getElem?, q3] at h
  simp only [Option.getD_some, calcB] at h
  rw [← Array.foldl_toList] at h
  rcases calc_spec acc' i o.after.toList 0 h with h1 | ⟨e, he, h1, h2⟩
  · simp at h1
  · refine ⟨e, by simpa using he, h1, h2.imp id fun h3 => ?_⟩
    rw [Array.getD_eq_getD_getElem?] at h3 ⊢
    cases hx : acc'[e.on]? with
    | none => rw [hx] at h3; simp at h3
    | some x => rw [q2 _ _ hx]; rw [hx] at h3; exact h3

/-- What is listed holds what must come ahead of it. -/
def Down (ops : Array Oper) (L : Nat → Prop) : Prop := ∀ i o, ops[i]? = some o → L i → ∀ e ∈ o.after, Region.binds .any e = true → L e.on

theorem before_listed {ops : Array Oper} {L : Nat → Prop} (hd : Down ops L) (hback : ∀ (j : Nat) o, ops[j]? = some o → ∀ e ∈ o.after, Region.binds .any e = true → e.on < j) :
    ∀ (m j : Nat), j ≤ m → ∀ o i, ops[j]? = some o → (∀ e ∈ o.after, Region.binds .any e = true → L e.on) → ((Region.before ops).getD j 0).testBit i = true → L i := by
  intro m
  induction m with
  | zero =>
    intro j hj o i ho hl hb
    obtain ⟨e, he, h1, h2⟩ := before_spec ho hb
    have := hback j o ho e he h1; omega
  | succ m ih =>
    intro j hj o i ho hl hb
    obtain ⟨e, he, h1, h2⟩ := before_spec ho hb
    have hlt := hback j o ho e he h1
    have hle := hl e he h1
    rcases h2 with h2 | h2
    · exact h2 ▸ hle
    · have hjs : j < ops.size := (Array.getElem?_eq_some_iff.1 ho).1
      have ho' : ops[e.on]? = some (ops[e.on]'(by omega)) := Array.getElem?_eq_getElem (by omega)
      exact ih e.on (by omega) _ i ho' (hd e.on _ ho' hle) h2

theorem mem_tmpsOf {t : Nat} : ∀ {l : List Operand}, .tmp t ∈ l → t ∈ tmpsOf l
  | x :: r, h => by
    simp only [List.mem_cons] at h
    rcases h with h | h
    · subst h; simp [tmpsOf]
    · cases x <;> simp only [tmpsOf] <;> first | exact mem_tmpsOf h | exact List.mem_cons_of_mem _ (mem_tmpsOf h)

theorem evO_of_get {f g : Fr} (hgl : f.glob = g.glob) {l : List Operand} (h : ∀ t ∈ tmpsOf l, f.get t = g.get t) : ∀ x ∈ l, evO f x = evO g x := fun x hx => by
  cases x with
  | tmp t => simp only [evO]; rw [h t (mem_tmpsOf hx)]
  | const v => rfl
  | global q => simp only [evO, hgl]
  | func g => rfl

theorem wanted_congr {ops : Array Oper} {o : Oper} {f g : Fr} (h : ∀ t ∈ readsOf ops o, f.get t = g.get t) : wantedA ops o f = wantedA ops o g := by
  unfold wantedA
  cases hg : o.guard with
  | none => rfl
  | some jw =>
    obtain ⟨j, want⟩ := jw
    cases hd : (ops[j]?).bind (·.dst) with
    | none => simp only [hd]
    | some d =>
      have : d ∈ readsOf ops o := by simp [readsOf, hg, hd]
      simp only [hd, h d this]

/-! ### a chain of memories -/
theorem cellsAt_congr {F G : AHeap} {b : Nat} (h : F.get b = G.get b) (o n : Nat) : cellsAt F b o n = cellsAt G b o n := by simp [cellsAt, h]

theorem sameV_sound : ∀ (n : Nat), (∀ v u, sameV n v u = true → v = u) ∧ ∀ l r, sameL n l r = true → l = r := by
  intro n
  induction n with
  | zero => exact ⟨fun v u h => by simp [sameV] at h, fun l r h => by simp [sameL] at h⟩
  | succ n ih =>
    constructor
    · intro v u h
      cases v <;> cases u <;> simp only [sameV, Bool.and_eq_true, decide_eq_true_eq, beq_iff_eq, Bool.false_eq_true] at h
      case bool.bool => rw [h]
      case int.int => rw [h.1, h.2]
      case string.string a b =>
        obtain ⟨a⟩ := a; obtain ⟨b⟩ := b
        rw [show a = b from Array.ext' h]
      case pointer.pointer => rw [h]
      case slice.slice => rw [h.1.1, Nat.eq_of_beq_eq_true h.1.2, Nat.eq_of_beq_eq_true h.2]
      case map.map => rw [h]
      case iface.iface => rw [Nat.eq_of_beq_eq_true h.1, ih.1 _ _ h.2]
      case func.func => rw [h.1.1, show _ = _ from Array.ext' (ih.2 _ _ h.1.2), show _ = _ from Array.ext' (ih.2 _ _ h.2)]
      case tuple.tuple => rw [show _ = _ from Array.ext' (ih.2 _ _ h)]
      all_goals rfl
    · intro l r h
      cases l <;> cases r <;> simp only [sameL, Bool.and_eq_true, Bool.false_eq_true] at h
      · rfl
      · rw [ih.1 _ _ h.1, ih.2 _ _ h.2]
theorem sameO_sound {a b : Option (List Value)} (h : sameO a b = true) : a = b := by
  unfold sameO at h
  split at h
  · rw [(sameV_sound _).2 _ _ h]
  · cases h
theorem sameObj_sound {a b : Option AObj} (h : sameObj a b = true) : a = b := by
  unfold sameObj at h
  split at h
  · simp only [Bool.and_eq_true, beq_iff_eq] at h
    rw [(sameV_sound _).2 _ _ h.1.1, Nat.eq_of_beq_eq_true h.1.2, h.2]
  · rfl
  · cases h
end Go.AX
namespace Go.AX
open Go Go.RowKit
set_option linter.unusedVariables false
set_option linter.unusedSimpArgs false

variable {P : Program}

theorem fr_size {f f' : Fr} {d : Option Tmp} {v : Value} (h : f.put d v = some f') : f'.size = f.size := by
  unfold Fr.put at h
  cases d with
  | none => simp at h; subst h; rfl
  | some d => cases hb : Nat.blt d f.size <;> simp [hb] at h; subst h; rfl
def Fr.fix (f : Fr) : Nat × List (FuncId × List Value) × Nat := (f.size, f.defs, f.glob)
theorem fr_fix {f f' : Fr} {d : Option Tmp} {v : Value} (h : f.put d v = some f') : f'.fix = f.fix := by
  unfold Fr.fix; rw [fr_size h, (Fr.put_fix h).1, (Fr.put_fix h).2]
theorem put_of_size {f g f' : Fr} {d : Option Tmp} {v : Value} (u : Value) (h : f.put d v = some f') (hs : g.size = f.size) : ∃ g', g.put d u = some g' := by
  cases d with
  | none => exact ⟨_, rfl⟩
  | some d =>
    simp only [Fr.put] at h ⊢
    rw [hs]
    cases hb : Nat.blt d f.size with
    | false => simp [hb] at h
    | true => exact ⟨_, rfl⟩

/-- What is fixed of a region while its order is drawn. -/
structure Ctx (P : Program) (call : FuncId → List Value → AHeap → Option (CRes × AHeap)) (ops : Array Oper) (tr : List (Nat × Ev)) where
  hcall : CallOk P call
  hname : ∀ (g : FuncId) fn, P.funcs[g]? = some fn → fn.name ≠ "runtime.NumGoroutine"
  hcw : CallWf call
  hreg : regOk P ops = true
  hdraw : drawOk ops tr = true
  T : Trace P call ops tr 0
  wf0 : Wf (T.hp 0)

namespace Ctx
variable {call : FuncId → List Value → AHeap → Option (CRes × AHeap)} {ops : Array Oper} {tr : List (Nat × Ev)} (C : Ctx P call ops tr)

theorem op_at {i : Nat} (h : i < ops.size) : ops[i]? = some (ops[i]) := Array.getElem?_eq_getElem h
theorem lt_of {i : Nat} {o : Oper} (h : ops[i]? = some o) : i < ops.size := (Array.getElem?_eq_some_iff.1 h).1

theorem step_next {i : Nat} (h : i < ops.size) : (C.T.hp i).next ≤ (C.T.hp (i + 1)).next := by
  have ho := op_at h
  cases hw : wantedA ops ops[i] (C.T.fr i) with
  | true => obtain ⟨e, h1, h2, h3⟩ := C.T.want i _ (Nat.zero_le _) ho hw; exact (op_val C.hcall C.hname h2).1
  | false => obtain ⟨h1, h2, h3⟩ := C.T.skip i _ (Nat.zero_le _) ho hw; rw [h3]; exact Nat.le_refl _
theorem step_wf {i : Nat} (h : i < ops.size) (hw0 : Wf (C.T.hp i)) : Wf (C.T.hp (i + 1)) := by
  have ho := op_at h
  cases hw : wantedA ops ops[i] (C.T.fr i) with
  | true => obtain ⟨e, h1, h2, h3⟩ := C.T.want i _ (Nat.zero_le _) ho hw; exact op_wf C.hcw h2 hw0
  | false => obtain ⟨h1, h2, h3⟩ := C.T.skip i _ (Nat.zero_le _) ho hw; rw [h3]; exact hw0
theorem wf (i : Nat) (h : i ≤ ops.size) : Wf (C.T.hp i) := by
  induction i with
  | zero => exact C.wf0
  | succ i ih => exact C.step_wf (by omega) (ih (by omega))
theorem next_le {i : Nat} (d : Nat) (h : i + d ≤ ops.size) : (C.T.hp i).next ≤ (C.T.hp (i + d)).next := by
  induction d with
  | zero => exact Nat.le_refl _
  | succ d ih => exact Nat.le_trans (ih (by omega)) (C.step_next (i := i + d) (by omega))
theorem next_mono {i j : Nat} (h : i ≤ j) (hj : j ≤ ops.size) : (C.T.hp i).next ≤ (C.T.hp j).next := by
  have := C.next_le (i := i) (j - i) (by omega)
  rwa [show i + (j - i) = j by omega] at this
theorem fsize (i : Nat) (h : i ≤ ops.size) : (C.T.fr i).size = (C.T.fr 0).size := by
  induction i with
  | zero => rfl
  | succ i ih => exact (fr_size (C.T.put i _ (Nat.zero_le _) (op_at (by omega)))).trans (ih (by omega))
theorem ffix (i : Nat) (h : i ≤ ops.size) : (C.T.fr i).fix = (C.T.fr 0).fix := by
  induction i with
  | zero => rfl
  | succ i ih => exact (fr_fix (C.T.put i _ (Nat.zero_le _) (op_at (by omega)))).trans (ih (by omega))

/-- No write, no change. -/
theorem fr_same (t : Nat) {j : Nat} (d : Nat) (h : j + d ≤ ops.size) (hn : ∀ i o, j ≤ i → i < j + d → ops[i]? = some o → o.dst ≠ some t) : (C.T.fr (j + d)).get t = (C.T.fr j).get t := by
  induction d with
  | zero => rfl
  | succ d ih =>
    have ho := op_at (ops := ops) (i := j + d) (by omega)
    rw [show j + (d + 1) = j + d + 1 by omega, Fr.get_put (C.T.put (j + d) _ (Nat.zero_le _) ho), if_neg (hn (j + d) _ (by omega) (by omega) ho)]
    exact ih (by omega) fun i o h1 h2 h3 => hn i o h1 (by omega) h3

/-- What an operation that is wanted did. -/
theorem ev_cases {i : Nat} {o : Oper} (ho : ops[i]? = some o) (hw : wantedA ops o (C.T.fr i) = true) :
    (C.T.ev i = some .quiet ∧ C.T.hp (i + 1) = C.T.hp i ∧ ∀ F, aOp P call (C.T.fr i) F o.op = some (.val (C.T.val i) F .quiet)) ∨
    (∃ b q n, C.T.ev i = some (.look b q n) ∧ (i, .look b q n) ∈ tr ∧ C.T.hp (i + 1) = C.T.hp i ∧ (cellsAt (C.T.hp i) b q n).isSome = true ∧ ∀ F, cellsAt F b q n = cellsAt (C.T.hp i) b q n → aOp P call (C.T.fr i) F o.op = some (.val (C.T.val i) F (.look b q n))) ∨
    (∃ ob vf, C.T.ev i = some (.make (C.T.hp i).next ob) ∧ (i, .make (C.T.hp i).next ob) ∈ tr ∧ C.T.hp (i + 1) = (C.T.hp i).push ob ∧ aMake P (C.T.fr i) o.op = some (ob, vf) ∧ C.T.val i = vf (C.T.hp i).next) ∨
    (C.T.ev i = some (.eff (C.T.hp i) (C.T.hp (i + 1))) ∧ (i, .eff (C.T.hp i) (C.T.hp (i + 1))) ∈ tr ∧ isEff P o.op = true ∧ aOp P call (C.T.fr i) (C.T.hp i) o.op = some (.val (C.T.val i) (C.T.hp (i + 1)) (.eff (C.T.hp i) (C.T.hp (i + 1))))) := by
  obtain ⟨e, h1, h2, h3⟩ := C.T.want i o (Nat.zero_le _) ho hw
  rcases op_ev h2 with ⟨rfl, q1, q2⟩ | ⟨b, q, n, rfl, q1, q2, q3⟩ | ⟨ob, vf, rfl, q1, q2, q3⟩ | ⟨rfl, q1⟩
  · exact .inl ⟨h1, q1, q2⟩
  · exact .inr (.inl ⟨b, q, n, h1, h3, q1, q2, q3⟩)
  · exact .inr (.inr (.inl ⟨ob, vf, h1, h3, q1, q2, q3⟩))
  · exact .inr (.inr (.inr ⟨h1, h3, q1, h2⟩))

def EffAt (i : Nat) : Prop := C.T.ev i = some (.eff (C.T.hp i) (C.T.hp (i + 1)))
/-- The memory behind the first p, with all that is made later. -/
noncomputable def F (p : Nat) : AHeap := later C.T.ev (ops.size - p) p (C.T.hp p)

theorem make_at {i b : Nat} {ob : AObj} (h : i < ops.size) (he : C.T.ev i = some (.make b ob)) : b = (C.T.hp i).next ∧ C.T.hp (i + 1) = (C.T.hp i).push ob := by
  have ho := op_at h
  cases hw : wantedA ops ops[i] (C.T.fr i) with
  | false => obtain ⟨h1, h2, h3⟩ := C.T.skip i _ (Nat.zero_le _) ho hw; rw [h1] at he; cases he
  | true =>
    rcases C.ev_cases ho hw with ⟨h1, -⟩ | ⟨_, _, _, h1, -⟩ | ⟨ob', vf, h1, _, h2, -⟩ | ⟨h1, -⟩ <;> rw [h1] at he <;> cases he
    exact ⟨rfl, h2⟩
theorem make_unique {i j b : Nat} {o o' : AObj} (hj : j < ops.size) (hij : i < j) (h1 : C.T.ev i = some (.make b o)) (h2 : C.T.ev j = some (.make b o')) : False := by
  obtain ⟨e1, e2⟩ := C.make_at (by omega) h1
  obtain ⟨e3, -⟩ := C.make_at hj h2
  have := C.next_mono (i := i + 1) (j := j) (by omega) (by omega)
  rw [e2] at this; simp at this; omega
theorem ev_out {i : Nat} (h : ops.size ≤ i) : True := trivial

theorem F_make {p i b : Nat} {ob : AObj} (h1 : p ≤ i) (h2 : i < ops.size) (he : C.T.ev i = some (.make b ob)) (hn : ∀ j o', i < j → j < ops.size → C.T.ev j ≠ some (.make b o')) : (C.F p).get b = some ob := by
  unfold F
  -- beyond the region nothing counts: the chain stops at its end
  have key : ∀ (c p : Nat) (G : AHeap), p ≤ i → i < p + c → p + c ≤ ops.size → (later C.T.ev c p G).get b = some ob := by
    intro c
    induction c with
    | zero => intro p G q1 q2; omega
    | succ c ih =>
      intro p G q1 q2 q3
      simp only [later]
      by_cases e : i = p
      · subst e
        rw [he]
        simp only
        rw [later_else C.T.ev c (i + 1) _ fun j r1 r2 o' => hn j o' (by omega) (by omega), AHeap.get_set, if_pos rfl]
      · exact ih (p + 1) _ (by omega) (by omega) (by omega)
  exact key _ _ _ h1 (by omega) (by omega)
theorem F_else {p b : Nat} (hp : p ≤ ops.size) (h : ∀ i o, p ≤ i → i < ops.size → C.T.ev i ≠ some (.make b o)) : (C.F p).get b = (C.T.hp p).get b :=
  later_else _ _ _ _ fun i h1 h2 o => h i o h1 (by omega)
theorem F_old {p b : Nat} (hp : p ≤ ops.size) (h : b < (C.T.hp p).next) : (C.F p).get b = (C.T.hp p).get b :=
  C.F_else hp fun i o h1 h2 he => by
    obtain ⟨e, -⟩ := C.make_at h2 he
    have := C.next_mono h1 (by omega)
    omega
theorem F_succ {p : Nat} (hp : p < ops.size) : C.F p = later C.T.ev (ops.size - (p + 1)) (p + 1) (match C.T.ev p with | some (.make b o) => (C.T.hp p).set b o | _ => C.T.hp p) := by
  unfold F
  rw [show ops.size - p = (ops.size - (p + 1)) + 1 by omega]; rfl
theorem F_step {p : Nat} (hp : p < ops.size) (hn : ¬ C.EffAt p) (b : Nat) : (C.F p).get b = (C.F (p + 1)).get b := by
  rw [C.F_succ hp]
  refine later_congr _ _ _ _ _ (fun d => ?_) b
  have ho := op_at hp
  cases hw : wantedA ops ops[p] (C.T.fr p) with
  | false => obtain ⟨h1, h2, h3⟩ := C.T.skip p _ (Nat.zero_le _) ho hw; rw [h1, h3]
  | true =>
    rcases C.ev_cases ho hw with ⟨h1, h2, -⟩ | ⟨_, _, _, h1, _, h2, -⟩ | ⟨ob', vf, h1, _, h2, -⟩ | ⟨h1, -⟩
    · rw [h1, h2]
    · rw [h1, h2]
    · rw [h1, h2]; simp only; rw [AHeap.get_push, AHeap.get_set]
    · exact (hn h1).elim
theorem F_eff {p : Nat} (hp : p < ops.size) (he : C.EffAt p) : C.F p = later C.T.ev (ops.size - (p + 1)) (p + 1) (C.T.hp p) := by
  rw [C.F_succ hp]
  have : C.T.ev p = some (.eff (C.T.hp p) (C.T.hp (p + 1))) := he
  rw [this]
/-- What is made later stands on both sides of an effect. -/
theorem F_eff_get {p b : Nat} (hp : p < ops.size) (he : C.EffAt p) (h : (C.T.hp p).get b = (C.T.hp (p + 1)).get b ∨ ∃ i o, p < i ∧ i < ops.size ∧ C.T.ev i = some (.make b o)) : (C.F p).get b = (C.F (p + 1)).get b := by
  by_cases hm : ∃ i o, p < i ∧ i < ops.size ∧ C.T.ev i = some (.make b o)
  · obtain ⟨i, o, h1, h2, h3⟩ := hm
    have hu : ∀ j o', i < j → j < ops.size → C.T.ev j ≠ some (.make b o') := fun j o' q1 q2 q3 => C.make_unique q2 q1 h3 q3
    rw [C.F_make (p := p) (by omega) h2 h3 hu, C.F_make (p := p + 1) (by omega) h2 h3 hu]
  · have hx := h.resolve_right hm
    have hp1 : C.T.ev p = some (.eff (C.T.hp p) (C.T.hp (p + 1))) := he
    rw [C.F_else (p := p) (by omega) fun i o q1 q2 q3 => ?_, C.F_else (p := p + 1) (by omega) fun i o q1 q2 q3 => hm ⟨i, o, by omega, q2, q3⟩, hx]
    by_cases e : i = p
    · subst e; rw [hp1] at q3; cases q3
    · exact hm ⟨i, o, by omega, q2, q3⟩

/-- A look at the memories one behind the other. -/
theorem chain {α : Type} (X : AHeap → α) (d p : Nat) (h : p + d ≤ ops.size) (hx : ∀ q, p ≤ q → q < p + d → X (C.F q) = X (C.F (q + 1))) : X (C.F p) = X (C.F (p + d)) := by
  induction d with
  | zero => rfl
  | succ d ih =>
    rw [ih (by omega) fun q h1 h2 => hx q h1 (by omega), hx (p + d) (by omega) (by omega)]; rfl
theorem chain2 {α : Type} (X : AHeap → α) {p j : Nat} (hp : p ≤ ops.size) (hj : j ≤ ops.size) (hx : ∀ q, q < ops.size → (p ≤ q ∧ q < j ∨ j ≤ q ∧ q < p) → X (C.F q) = X (C.F (q + 1))) : X (C.F p) = X (C.F j) := by
  rcases Nat.le_total p j with h | h
  · have := C.chain X (j - p) p (by omega) fun q h1 h2 => hx q (by omega) (.inl ⟨h1, by omega⟩)
    rwa [show p + (j - p) = j by omega] at this
  · have := C.chain X (p - j) j (by omega) fun q h1 h2 => hx q (by omega) (.inr ⟨h1, by omega⟩)
    rw [show j + (p - j) = p by omega] at this; exact this.symm

theorem back (C : Ctx P call ops tr) : ∀ (j : Nat) o, ops[j]? = some o → ∀ e ∈ o.after, Region.binds .any e = true → e.on < j := fun j o ho e he hb => by
  have := (rowsOk_get (b := Region.before ops) C.hreg j o (by simpa using ho)).2 e he hb
  simpa using this
theorem pair (C : Ctx P call ops tr) {i j : Nat} {oi oj : Oper} (hi : ops[i]? = some oi) (hj : ops[j]? = some oj) (hij : i < j) : ((Region.before ops).getD j 0).testBit i = true ∨
    (¬ (isEff P oi.op = true ∧ isEff P oj.op = true) ∧ (∀ d, oi.dst = some d → d ∉ readsOf ops oj ∧ oj.dst ≠ some d) ∧ ∀ d, oj.dst = some d → d ∉ readsOf ops oi) := by
  have h1 := (rowsOk_get (b := Region.before ops) C.hreg j oj (by simpa using hj)).1
  have h2 := rowOk_get h1 i oi (by simpa using hi) (by omega)
  simp only [Nat.zero_add, pairOk, Bool.or_eq_true, Bool.and_eq_true] at h2
  rcases h2 with h2 | ⟨⟨h2, h3⟩, h4⟩
  · exact .inl h2
  · refine .inr ⟨fun h => by simp [h.1, h.2] at h2, fun d hd => ?_, fun d hd => ?_⟩
    · rw [hd] at h3
      simp only [Bool.and_eq_true, Bool.not_eq_true', List.contains_eq_mem, decide_eq_false_iff_not, beq_eq_false_iff_ne] at h3
      exact h3
    · rw [hd] at h4
      simpa using h4

theorem look_ok {j q b o n : Nat} (h1 : (j, Ev.look b o n) ∈ tr) (h2 : (q, Ev.eff (C.T.hp q) (C.T.hp (q + 1))) ∈ tr) : cellsAt (C.T.hp q) b o n = cellsAt (C.T.hp (q + 1)) b o n ∨ orderedB ops j q = true := by
  have h := C.hdraw
  unfold drawOk at h
  have h3 := List.all_eq_true.1 (List.all_eq_true.1 h _ h1) _ h2
  simp only [evOk, lookOk, Bool.or_eq_true, decide_eq_true_eq] at h3
  rcases h3 with (h3 | h3) | h3
  · exact .inr h3
  · exact .inl (sameO_sound h3)
  · exact .inl h3
theorem keep_ok {j q b : Nat} {ob : AObj} (h1 : (j, Ev.make b ob) ∈ tr) (h2 : (q, Ev.eff (C.T.hp q) (C.T.hp (q + 1))) ∈ tr) (hjq : j < q) : (C.T.hp q).get b = (C.T.hp (q + 1)).get b ∨ orderedB ops j q = true := by
  have h := C.hdraw
  unfold drawOk at h
  have h3 := List.all_eq_true.1 (List.all_eq_true.1 h _ h1) _ h2
  have hb : Nat.blt j q = true := by simpa [Nat.blt_eq] using hjq
  simp only [evOk, hb, cond_true, keepOk, Bool.or_eq_true, decide_eq_true_eq] at h3
  rcases h3 with (h3 | h3) | h3
  · exact .inr h3
  · exact .inl (sameObj_sound h3)
  · exact .inl h3
theorem eff_mem {q : Nat} (hq : q < ops.size) (he : C.EffAt q) : (q, Ev.eff (C.T.hp q) (C.T.hp (q + 1))) ∈ tr ∧ isEff P ops[q].op = true := by
  have ho := op_at hq
  have he' : C.T.ev q = some (.eff (C.T.hp q) (C.T.hp (q + 1))) := he
  cases hw : wantedA ops ops[q] (C.T.fr q) with
  | false => obtain ⟨h1, h2, h3⟩ := C.T.skip q _ (Nat.zero_le _) ho hw; rw [h1] at he'; cases he'
  | true =>
    rcases C.ev_cases ho hw with ⟨h1, -⟩ | ⟨_, _, _, h1, -⟩ | ⟨ob', vf, h1, -⟩ | ⟨h1, h2, h3, -⟩
    · rw [h1] at he'; cases he'
    · rw [h1] at he'; cases he'
    · rw [h1] at he'; cases he'
    · exact ⟨h2, h3⟩
end Ctx
end Go.AX
namespace Go.AX
open Go Go.RowKit
set_option linter.unusedVariables false
set_option linter.unusedSimpArgs false

variable {P : Program}

theorem make_globs {f : Fr} {op : Op} {ob : AObj} {vf : Nat → Value} (h : aMake P f op = some (ob, vf)) (n : Nat) : ob ≠ .globs n := by
  intro e; subst e
  cases op <;> simp only [aMake, mkVar, mkTyped, mkSlice, aBuildSlice, aMakeSlice, Bool.cond_eq_ite] at h <;> (repeat' split at h) <;> simp at h
theorem later_globs2 {ev : Nat → Option Ev} {b n : Nat} : ∀ (c p : Nat) (F : AHeap), (∀ i b o, p ≤ i → i < p + c → ev i = some (.make b o) → ∀ n, o ≠ .globs n) → (later ev c p F).get b = some (.globs n) → F.get b = some (.globs n)
  | 0, _, _, _, h => h
  | c + 1, p, F, hm, h => by
    simp only [later] at h
    have := later_globs2 c (p + 1) _ (fun i b o h1 h2 => hm i b o (by omega) (by omega)) h
    split at this
    · rename_i b' o' he
      rw [AHeap.get_set] at this
      split at this
      · cases this; exact (hm p b' _ (Nat.le_refl _) (by omega) he n rfl).elim
      · exact this
    · exact this

theorem Sim.congr_live {ρ : Rho} {base : Nat} {H G : AHeap} {w : World} (h : Sim ρ base H w) (e : ∀ b, ρ b ≠ .no → G.get b = H.get b) (hg : ∀ b n, G.get b = some (.globs n) → H.get b = some (.globs n)) : Sim ρ base G w where
  alive b x hb := by rw [e b (by rw [hb]; simp)]; exact h.alive b x hb
  bsz := h.bsz
  inb := h.inb
  obj b o hb := by
    cases hr : ρ b with
    | no => cases o <;> first | (simp [ObjRel, hr]; done) | exact h.obj b _ (hg b _ hb)
    | gone x => cases o <;> first | (simp [ObjRel, hr]; done) | exact h.obj b _ (hg b _ hb)
    | live c k x => exact h.obj b o (by rw [← e b (by rw [hr]; simp)]; exact hb)
  apart b b' c k x k' x' ho h1 h2 := h.apart b b' c k x k' x' ((ownB_of (e b (by rw [h1]; simp))).1 ho) h1 h2
theorem Step.congr_live {ρ ρ' : Rho} {H H' G : AHeap} {w w' : World} (h : Step ρ H w ρ' H' w') (e : ∀ b, ρ' b ≠ .no → G.get b = H'.get b) : Step ρ H w ρ' G w' :=
  ⟨h.os, h.tape, h.output, h.size, h.block, fun b c k x ho hl => h.own b c k x ((ownB_of (e b (by rw [hl]; simp))).1 ho) hl,
   fun b c k x hl hn => ⟨(h.keep b c k x hl hn).1, fun ho => (h.keep b c k x hl hn).2 ((ownB_of (e b (by rw [(h.keep b c k x hl hn).1]; simp))).1 ho)⟩, h.src⟩
theorem Step.congr_left {ρ ρ' : Rho} {H H' G : AHeap} {w w' : World} (h : Step ρ H w ρ' H' w') (e : ∀ b, G.get b = H.get b) : Step ρ G w ρ' H' w' :=
  ⟨h.os, h.tape, h.output, h.size, fun c hc hn => h.block c hc fun b k x ho => hn b k x ((ownB_of (e b)).2 ho),
   fun b c k x ho hl => (h.own b c k x ho hl).imp id fun ⟨b0, k0, x0, q1, q2⟩ => ⟨b0, k0, x0, (ownB_of (e b0)).2 q1, q2⟩,
   fun b c k x hl hn => h.keep b c k x hl fun ho => hn ((ownB_of (e b)).2 ho),
   fun b c k x hl => (h.src b c k x hl).imp id fun h => h.imp id fun ⟨b0, k0, x0, q1, q2⟩ => ⟨b0, k0, x0, (ownB_of (e b0)).2 q1, q2⟩⟩
theorem Mono.widen {a b c d : Nat} {ρ0 ρ ρ' : Rho} (h : Mono a b ρ0 ρ) (h' : Mono c d ρ ρ') (hs : c = d ∨ (a ≤ c ∧ d ≤ b)) : Mono a b ρ0 ρ' where
  out q hq := by
    have hout : ¬ (c ≤ q ∧ q < d) := by omega
    rcases h.out q hq with e | ⟨c1, k1, x1, e1, e2⟩
    · rcases h'.out q hout with e' | ⟨c1, k1, x1, e1, e2⟩
      · exact .inl (e'.trans e)
      · exact .inr ⟨c1, k1, x1, e ▸ e1, e2⟩
    · rcases h'.out q hout with e' | ⟨c2, k2, x2, e3, e4⟩
      · exact .inr ⟨c1, k1, x1, e1, e'.trans e2⟩
      · rw [e2] at e3; cases e3
  new := h.new
theorem Fresh.stay {ρ ρ' : Rho} {n m c d : Nat} (h : Fresh ρ n m) (hm : Mono c d ρ ρ') (hd : c = d ∨ m ≤ c ∨ d ≤ n) : Fresh ρ' n m := fun b h1 h2 => by
  have h0 := h b h1 h2
  rcases hm.out b (by omega) with e | ⟨c1, k1, x1, e1, _⟩
  · rw [e]; exact h0
  · rw [h0] at e1; cases e1

theorem filter_lt {α : Type} {p q : α → Bool} : ∀ {l : List α}, (∀ x ∈ l, q x = true → p x = true) → ∀ x, x ∈ l → p x = true → q x = false → (l.filter q).length < (l.filter p).length
  | [], _, x, hx, _, _ => by simp at hx
  | y :: r, h, x, hx, h1, h2 => by
    have hle : ∀ {l : List α}, (∀ x ∈ l, q x = true → p x = true) → (l.filter q).length ≤ (l.filter p).length := by
      intro l
      induction l with
      | nil => intro _; simp
      | cons z l ih =>
        intro hz
        have := ih fun x hx => hz x (by simp [hx])
        simp only [List.filter_cons]
        cases hq : q z with
        | true => rw [hz z (by simp) hq]; simp; omega
        | false => cases p z <;> simp <;> omega
    simp only [List.mem_cons] at hx
    simp only [List.filter_cons]
    have hr := hle (l := r) fun z hz => h z (by simp [hz])
    rcases hx with rfl | hx
    · rw [h1, h2]; simp; omega
    · have := filter_lt (l := r) (fun z hz => h z (by simp [hz])) x hx h1 h2
      cases hq : q y with
      | true => rw [h y (by simp) hq]; simp; omega
      | false => cases p y <;> simp <;> omega

namespace Ctx
variable {call : FuncId → List Value → AHeap → Option (CRes × AHeap)} {ops : Array Oper} {tr : List (Nat × Ev)}

structure Inv (C : Ctx P call ops tr) (L : Nat → Prop) (ρ0 : Rho) (base : Nat) (w0 : World) (a : Act) (w : World) (ρ : Rho) (g : Fr) (p : Nat) : Prop where
  frel : FRel ρ g a
  gfix : g.fix = (C.T.fr 0).fix
  agree : ∀ t j, j ≤ ops.size → (∀ (i : Nat) o, ops[i]? = some o → o.dst = some t → (L i ↔ i < j)) → g.get t = (C.T.fr j).get t
  hp : p ≤ ops.size
  eff : ∀ i, i < ops.size → C.EffAt i → (L i ↔ i < p)
  sim : Sim ρ base (C.F p) w
  fresh : ∀ i, i < ops.size → ¬ L i → Fresh ρ (C.T.hp i).next (C.T.hp (i + 1)).next
  mono : Mono (C.T.hp 0).next (C.T.hp ops.size).next ρ0 ρ
  step : Step ρ0 (C.T.hp 0) w0 ρ (C.F p) w
  down : Down ops L

variable (C : Ctx P call ops tr)

theorem F_globs {p : Nat} (hp : p ≤ ops.size) (b n : Nat) (h : (C.F p).get b = some (.globs n)) : (C.T.hp p).get b = some (.globs n) := by
  refine later_globs2 (ops.size - p) p _ (fun i b' o' h1 h2 he n e => ?_) h
  have hi : i < ops.size := by omega
  have ho := op_at (ops := ops) hi
  cases hw : wantedA ops ops[i] (C.T.fr i) with
  | false => obtain ⟨h1, h2, h3⟩ := C.T.skip i _ (Nat.zero_le _) ho hw; rw [h1] at he; cases he
  | true =>
    rcases C.ev_cases ho hw with ⟨h1, -⟩ | ⟨_, _, _, h1, -⟩ | ⟨ob', vf, h1, _, _, h2, -⟩ | ⟨h1, -⟩ <;> rw [h1] at he <;> cases he
    exact make_globs h2 n e

theorem start {ρ0 : Rho} {base : Nat} {w0 : World} {a : Act} (hs : Sim ρ0 base (C.T.hp 0) w0) (hf : FRel ρ0 (C.T.fr 0) a) (hfr : Fresh ρ0 (C.T.hp 0).next (C.T.hp ops.size).next) :
    C.Inv (fun _ => False) ρ0 base w0 a w0 ρ0 (C.T.fr 0) 0 := by
  have hlive : ∀ b, ρ0 b ≠ .no → (C.F 0).get b = (C.T.hp 0).get b := fun b hb => by
    refine C.F_else (Nat.zero_le _) fun i o h1 h2 he => ?_
    obtain ⟨e1, e2⟩ := C.make_at h2 he
    have h3 := C.next_mono (i := 0) (j := i) (by omega) (by omega)
    have h4 := C.next_mono (i := i + 1) (j := ops.size) (by omega) (by omega)
    rw [e2] at h4; simp at h4
    exact hb (hfr b (by omega) (by omega))
  refine ⟨hf, rfl, ?_, Nat.zero_le _, fun i _ _ => by simp, hs.congr_live hlive (C.F_globs (Nat.zero_le _)), ?_, ⟨fun _ _ => .inl rfl, hfr⟩, (Step.refl _ _ _).congr_live hlive, fun i o _ h => h.elim⟩
  · intro t j hj hc
    have := C.fr_same t (j := 0) j (by omega) fun i o h1 h2 h3 h4 => ((hc i o h3 h4).2 (by omega))
    rw [Nat.zero_add] at this; exact this.symm
  · intro i hi _ b h1 h2
    have h3 := C.next_mono (i := 0) (j := i) (by omega) (by omega)
    have h4 := C.next_mono (i := i + 1) (j := ops.size) (by omega) (by omega)
    exact hfr b (by omega) (by omega)

variable {C}

section
variable {L : Nat → Prop} {ρ0 ρ : Rho} {base : Nat} {w0 w : World} {a : Act} {g : Fr} {p j : Nat} {o : Oper}

/-- What comes ahead of an operation that is ready is listed. -/
theorem ahead (I : C.Inv L ρ0 base w0 a w ρ g p) (ho : ops[j]? = some o) (hr : ∀ e ∈ o.after, Region.binds .any e = true → L e.on) {i : Nat} (h : ((Region.before ops).getD j 0).testBit i = true) : L i :=
  before_listed I.down C.back j j (Nat.le_refl _) o i ho hr h
/-- What waits for one that is not listed is not listed. -/
theorem behind (I : C.Inv L ρ0 base w0 a w ρ g p) {i : Nat} {oi : Oper} (hi : ops[i]? = some oi) (hj : ¬ L j) (h : ((Region.before ops).getD i 0).testBit j = true) : ¬ L i := fun hL =>
  hj (before_listed I.down C.back i i (Nat.le_refl _) oi j hi (I.down i oi hi hL) h)

theorem reads_agree (I : C.Inv L ρ0 base w0 a w ρ g p) (ho : ops[j]? = some o) (hj : ¬ L j) (hr : ∀ e ∈ o.after, Region.binds .any e = true → L e.on) : ∀ t ∈ readsOf ops o, g.get t = (C.T.fr j).get t := by
  intro t ht
  refine I.agree t j (by have := lt_of ho; omega) fun i oi hi hd => ?_
  rcases Nat.lt_trichotomy i j with h | h | h
  · refine ⟨fun _ => h, fun _ => ?_⟩
    rcases C.pair hi ho h with q | ⟨_, q, _⟩
    · exact ahead I ho hr q
    · exact ((q t hd).1 ht).elim
  · subst h; exact ⟨fun h => (hj h).elim, fun h => by omega⟩
  · refine ⟨fun hL => ?_, fun h' => by omega⟩
    rcases C.pair ho hi h with q | ⟨_, _, q⟩
    · exact (behind I hi hj q hL).elim
    · exact (q t hd ht).elim

/-- The frame's part of a step. -/
theorem next_frame (I : C.Inv L ρ0 base w0 a w ρ g p) (ho : ops[j]? = some o) (hj : ¬ L j) (hr : ∀ e ∈ o.after, Region.binds .any e = true → L e.on) {g' : Fr} (hg : g.put o.dst (C.T.val j) = some g') :
    g'.fix = (C.T.fr 0).fix ∧ (∀ t k, k ≤ ops.size → (∀ (i : Nat) o', ops[i]? = some o' → o'.dst = some t → ((L i ∨ i = j) ↔ i < k)) → g'.get t = (C.T.fr k).get t) ∧ Down ops (fun i => L i ∨ i = j) := by
  refine ⟨(fr_fix hg).trans I.gfix, fun t k hk hc => ?_, fun i oi hi hL e he hb => ?_⟩
  · rw [Fr.get_put hg]
    by_cases hd : o.dst = some t
    · rw [if_pos hd]
      have hjk : j < k := (hc j o ho hd).1 (.inr rfl)
      have h1 := C.fr_same t (j := j + 1) (k - (j + 1)) (by omega) fun i oi q1 q2 q3 q4 => by
        have hL := (hc i oi q3 q4).2 (by omega)
        rcases hL with hL | hL
        · rcases C.pair ho q3 (by omega) with q | ⟨_, q, _⟩
          · exact behind I q3 hj q hL
          · exact (q t hd).2 q4
        · omega
      rw [show j + 1 + (k - (j + 1)) = k by omega] at h1
      rw [h1, Fr.get_put (C.T.put j o (Nat.zero_le _) ho), if_pos hd]
    · rw [if_neg hd]
      refine I.agree t k hk fun i oi hi hdi => ?_
      have hij : i ≠ j := fun e => by subst e; rw [ho] at hi; cases hi; exact hd hdi
      rw [← hc i oi hi hdi]
      exact ⟨fun h => .inl h, fun h => h.resolve_right hij⟩
  · rcases hL with hL | hL
    · exact .inl (I.down i oi hi hL e he hb)
    · subst hL; rw [ho] at hi; cases hi; exact .inl (hr e he hb)

/-- What is looked at is as it was in the order of the text. -/
theorem look_stable (I : C.Inv L ρ0 base w0 a w ρ g p) (ho : ops[j]? = some o) (hj : ¬ L j) (hr : ∀ e ∈ o.after, Region.binds .any e = true → L e.on) {b q n : Nat} (hm : (j, Ev.look b q n) ∈ tr) (hs : (cellsAt (C.T.hp j) b q n).isSome = true) :
    cellsAt (C.F p) b q n = cellsAt (C.T.hp j) b q n := by
  have hjn := lt_of ho
  have hb : b < (C.T.hp j).next := by
    obtain ⟨l, hl⟩ := Option.isSome_iff_exists.1 hs
    obtain ⟨cs, esz, own, hg, -⟩ := cellsAt_get hl
    exact (C.wf j (by omega)).lt hg
  rw [C.chain2 (fun H => cellsAt H b q n) I.hp (j := j) (by omega) ?_, cellsAt_congr (C.F_old (by omega) hb)]
  intro k hk hpos
  by_cases he : C.EffAt k
  · by_cases hmk : ∃ i o', k < i ∧ i < ops.size ∧ C.T.ev i = some (.make b o')
    · exact cellsAt_congr (C.F_eff_get hk he (.inr hmk)) q n
    · rcases C.look_ok hm (C.eff_mem hk he).1 with h | h
      · have e1 := C.F_else (p := k) (b := b) (by omega) fun i o' h1 h2 h3 => by
          by_cases e : i = k
          · subst e; rw [show C.T.ev i = some (.eff (C.T.hp i) (C.T.hp (i + 1))) from he] at h3; cases h3
          · exact hmk ⟨i, o', by omega, h2, h3⟩
        have e2 := C.F_else (p := k + 1) (b := b) (by omega) fun i o' h1 h2 h3 => hmk ⟨i, o', by omega, h2, h3⟩
        show cellsAt (C.F k) b q n = cellsAt (C.F (k + 1)) b q n
        rw [cellsAt_congr e1, cellsAt_congr e2]; exact h
      · exfalso
        have hL := I.eff k hk he
        unfold orderedB at h
        rcases hpos with ⟨h1, h2⟩ | ⟨h1, h2⟩
        · have : Nat.blt j k = false := by
            cases hb : Nat.blt j k with
            | false => rfl
            | true => rw [Nat.blt_eq] at hb; omega
          rw [this] at h
          have := hL.1 (ahead I ho hr h)
          omega
        · have hne : j ≠ k := fun e => by
            subst e
            exact hj (hL.2 h2)
          have : Nat.blt j k = true := by rw [Nat.blt_eq]; omega
          rw [this] at h
          exact behind I (op_at hk) hj h (hL.2 h2)
  · exact cellsAt_congr (C.F_step hk he b) q n

/-- What is to be made is booked as it will be. -/
theorem make_stable (I : C.Inv L ρ0 base w0 a w ρ g p) (ho : ops[j]? = some o) (hj : ¬ L j) (hr : ∀ e ∈ o.after, Region.binds .any e = true → L e.on) {b : Nat} {ob : AObj} (he0 : C.T.ev j = some (.make b ob)) (hm : (j, Ev.make b ob) ∈ tr) :
    (C.F p).get b = some ob := by
  have hjn := lt_of ho
  have hu : ∀ i o', j < i → i < ops.size → C.T.ev i ≠ some (.make b o') := fun i o' h1 h2 h3 => C.make_unique h2 h1 he0 h3
  rw [C.chain2 (fun H => H.get b) I.hp (j := j) (by omega) ?_, C.F_make (Nat.le_refl _) hjn he0 hu]
  intro k hk hpos
  by_cases he : C.EffAt k
  · refine C.F_eff_get hk he ?_
    have hne : k ≠ j := fun e => by
      subst e
      rw [show C.T.ev k = some (.eff (C.T.hp k) (C.T.hp (k + 1))) from he] at he0; cases he0
    rcases hpos with ⟨h1, h2⟩ | ⟨h1, h2⟩
    · exact .inr ⟨j, ob, h2, hjn, he0⟩
    · rcases C.keep_ok hm (C.eff_mem hk he).1 (by omega) with h | h
      · exact .inl h
      · exfalso
        have hL := I.eff k hk he
        unfold orderedB at h
        have : Nat.blt j k = true := by rw [Nat.blt_eq]; omega
        rw [this] at h
        exact behind I (op_at hk) hj h (hL.2 h2)
  · exact C.F_step hk he b
end
end Ctx
end Go.AX
namespace Go.AX
open Go Go.RowKit
set_option linter.unusedVariables false
set_option linter.unusedSimpArgs false

variable {P : Program}

namespace Ctx
variable {call : FuncId → List Value → AHeap → Option (CRes × AHeap)} {ops : Array Oper} {tr : List (Nat × Ev)} {C : Ctx P call ops tr}
variable {L : Nat → Prop} {ρ0 ρ : Rho} {base : Nat} {w0 w : World} {a : Act} {g : Fr} {p j : Nat} {o : Oper}

theorem disjoint {i j : Nat} (hi : i < ops.size) (hj : j < ops.size) (hne : i ≠ j) : (C.T.hp (i + 1)).next ≤ (C.T.hp j).next ∨ (C.T.hp (j + 1)).next ≤ (C.T.hp i).next := by
  rcases Nat.lt_or_ge i j with h | h
  · exact .inl (C.next_mono (by omega) (by omega))
  · exact .inr (C.next_mono (by omega) (by omega))

/-- One operation, at whatever turn it comes up. -/
theorem one_step (I : C.Inv L ρ0 base w0 a w ρ g p) (ho : ops[j]? = some o) (hj : ¬ L j) (hr : ∀ e ∈ o.after, Region.binds .any e = true → L e.on) {K : Act → World → Prop} {Q : Exit → Act → World → Prop}
    (hK : ∀ a' w' ρ' g' p', C.Inv (fun i => L i ∨ i = j) ρ0 base w0 a' w' ρ' g' p' → K a' w') : wpOp P ops Q j K a w := by
  have hjn := lt_of ho
  have hag := reads_agree I ho hj hr
  have hw : Region.wanted o (yielded ops a.tmps) = wantedA ops o (C.T.fr j) := (wanted_rel I.frel ops o).trans (wanted_congr hag)
  have hgf : g.fix = (C.T.fr j).fix := I.gfix.trans (C.ffix j (by omega)).symm
  have hops : ∀ x ∈ o.op.operands.toList, evO g x = evO (C.T.fr j) x := evO_of_get (congrArg (fun p => p.2.2) hgf) fun t ht => hag t (by simp [readsOf, ht])
  have hgs : g.size = (C.T.fr j).size := congrArg (fun p => p.1) hgf
  obtain ⟨g', hg'⟩ := put_of_size (C.T.val j) (C.T.put j o (Nat.zero_le _) ho) hgs
  obtain ⟨n1, n2, n3⟩ := next_frame I ho hj hr hg'
  have hin : (C.T.hp 0).next ≤ (C.T.hp j).next ∧ (C.T.hp (j + 1)).next ≤ (C.T.hp ops.size).next := ⟨C.next_mono (by omega) (by omega), C.next_mono (by omega) (by omega)⟩
  unfold wpOp
  rw [ho]
  simp only
  cases hwt : wantedA ops o (C.T.fr j) with
  | false =>
    obtain ⟨e1, e2, e3⟩ := C.T.skip j o (Nat.zero_le _) ho hwt
    rw [if_neg (by rw [hw, hwt]; simp)]
    have hneff : ¬ C.EffAt j := fun h => by rw [show C.T.ev j = _ from h] at e1; cases e1
    refine hK _ _ ρ g' p ⟨I.frel.put hg' (by rw [e2]; exact VRel.undef ρ), n1, n2, I.hp, fun i hi he => ?_, I.sim, fun i hi hL => I.fresh i hi fun h => hL (.inl h), I.mono, I.step, n3⟩
    have hne : i ≠ j := fun e => hneff (e ▸ he)
    rw [← I.eff i hi he]; exact ⟨fun h => h.resolve_right hne, .inl⟩
  | true =>
    rw [if_pos (by rw [hw, hwt])]
    left
    rcases C.ev_cases ho hwt with ⟨h1, h2, h3⟩ | ⟨b, q, n, h1, hm, h2, h3, h4⟩ | ⟨ob, vf, h1, hm, h2, h3, h4⟩ | ⟨h1, hm, h2, h3⟩
    · -- what only computes
      have hneff : ¬ C.EffAt j := fun h => by rw [show C.T.ev j = _ from h] at h1; cases h1
      have hop : aOp P call g (C.F p) o.op = some (.val (C.T.val j) (C.F p) .quiet) := by rw [aOp_congr hops]; exact h3 _
      refine (op_val C.hcall C.hname hop).2 ρ base w a K Q (fun _ _ h => by cases h) I.sim I.frel (fun b q1 q2 => by omega) fun v' w' ρ' hv ok => ?_
      refine hK _ _ ρ' g' p ⟨(I.frel.mono ok.mono).put hg' hv, n1, n2, I.hp, fun i hi he => ?_, ok.sim, fun i hi hL => (I.fresh i hi fun h => hL (.inl h)).stay ok.mono (.inl rfl), I.mono.widen ok.mono (.inl rfl), I.step.trans ok.step, n3⟩
      have hne : i ≠ j := fun e => hneff (e ▸ he)
      rw [← I.eff i hi he]; exact ⟨fun h => h.resolve_right hne, .inl⟩
    · -- a look
      have hneff : ¬ C.EffAt j := fun h => by rw [show C.T.ev j = _ from h] at h1; cases h1
      have hop : aOp P call g (C.F p) o.op = some (.val (C.T.val j) (C.F p) (.look b q n)) := by rw [aOp_congr hops]; exact h4 _ (look_stable I ho hj hr hm h3)
      refine (op_val C.hcall C.hname hop).2 ρ base w a K Q (fun _ _ h => by cases h) I.sim I.frel (fun b q1 q2 => by omega) fun v' w' ρ' hv ok => ?_
      refine hK _ _ ρ' g' p ⟨(I.frel.mono ok.mono).put hg' hv, n1, n2, I.hp, fun i hi he => ?_, ok.sim, fun i hi hL => (I.fresh i hi fun h => hL (.inl h)).stay ok.mono (.inl rfl), I.mono.widen ok.mono (.inl rfl), I.step.trans ok.step, n3⟩
      have hne : i ≠ j := fun e => hneff (e ▸ he)
      rw [← I.eff i hi he]; exact ⟨fun h => h.resolve_right hne, .inl⟩
    · -- something is made
      have hneff : ¬ C.EffAt j := fun h => by rw [show C.T.ev j = _ from h] at h1; cases h1
      have hmk : aMake P g o.op = some (ob, vf) := by rw [aMake_congr hops]; exact h3
      have hnx : (C.T.hp (j + 1)).next = (C.T.hp j).next + 1 := by rw [h2]; rfl
      have hno : ρ (C.T.hp j).next = .no := I.fresh j hjn hj _ (Nat.le_refl _) (by omega)
      have hget := make_stable I ho hj hr h1 hm
      obtain ⟨v', O, q1, q2⟩ := make_run (P := P) I.frel hmk w base I.sim.bsz
      obtain ⟨q3, q4⟩ := q2 _ hno _ rfl
      obtain ⟨r1, r2⟩ := sim_new I.sim hno q4
      have hmono : Mono (C.T.hp j).next ((C.T.hp j).next + 1) ρ (upd ρ (C.T.hp j).next (.live w.heap.size 0 0)) := ⟨fun c hc => .inl (upd_ne _ _ (by omega)), fun c k1 k2 => (show c = (C.T.hp j).next by omega) ▸ hno⟩
      have hsame : ∀ b, (C.F p).get b = ((C.F p).set (C.T.hp j).next ob).get b := fun b => (set_same hget b).symm
      refine wp_of_value q1 (hK _ _ _ g' p ⟨(I.frel.mono hmono).put hg' (by rw [h4]; exact q3), n1, n2, I.hp, fun i hi he => ?_, r1.congr hsame, fun i hi hL => (I.fresh i hi fun h => hL (.inl h)).stay hmono (.inr ?_), I.mono.widen hmono (.inr ⟨hin.1, by omega⟩), (I.step.trans r2).congr hsame, n3⟩)
      · have hne : i ≠ j := fun e => hneff (e ▸ he)
        rw [← I.eff i hi he]; exact ⟨fun h => h.resolve_right hne, .inl⟩
      · have hne : i ≠ j := fun e => hL (.inr e)
        rcases disjoint (C := C) hi hjn hne with h | h
        · exact .inl h
        · exact .inr (by omega)
    · -- an effect
      have heff : C.EffAt j := h1
      have hbefore : ∀ i, i < j → C.EffAt i → L i := fun i hi he => by
        have hin : i < ops.size := by omega
        rcases C.pair (op_at hin) ho hi with q | ⟨q, _, _⟩
        · exact ahead I ho hr q
        · exact (q ⟨(C.eff_mem hin he).2, h2⟩).elim
      have hpj : p ≤ j := by
        rcases Nat.lt_or_ge j p with h | h
        · exact (hj ((I.eff j hjn heff).2 h)).elim
        · exact h
      have hFpj : ∀ b, (C.F p).get b = (C.F j).get b := fun b => C.chain2 (fun H => H.get b) I.hp (by omega) fun k hk hpos => by
        refine C.F_step hk (fun he => ?_) b
        rcases hpos with ⟨k1, k2⟩ | ⟨k1, k2⟩
        · have := (I.eff k hk he).1 (hbefore k k2 he); omega
        · omega
      have hsim : Sim ρ base (C.F j) w := I.sim.congr fun b => (hFpj b).symm
      have hold : ∀ b, b < (C.T.hp j).next → (C.F j).get b = (C.T.hp j).get b := fun b hb => C.F_old (by omega) hb
      have hop : aOp P call g (C.T.hp j) o.op = some (.val (C.T.val j) (C.T.hp (j + 1)) (.eff (C.T.hp j) (C.T.hp (j + 1)))) := by rw [aOp_congr hops]; exact h3
      refine (op_val C.hcall C.hname hop).2 ρ base w a K Q (fun _ _ _ => C.wf j (by omega)) (hsim.sub (C.wf j (by omega)) hold) I.frel (I.fresh j hjn hj) fun v' w' ρ' hv ok => ?_
      obtain ⟨s1, s2⟩ := frame_ok (G' := C.F (j + 1)) hsim (C.wf j (by omega)) (C.wf (j + 1) (by omega)) hold (C.step_next hjn) (fun b hb => C.F_old (by omega) hb)
        (fun b hb => (C.F_eff_get hjn heff (.inl (by rw [C.wf j (by omega) b (Nat.le_trans (C.step_next hjn) hb), C.wf (j + 1) (by omega) b hb]))).symm) ok
      refine hK _ _ ρ' g' (j + 1) ⟨(I.frel.mono ok.mono).put hg' hv, n1, n2, by omega, fun i hi he => ?_, s1, fun i hi hL => (I.fresh i hi fun h => hL (.inl h)).stay ok.mono (.inr ?_), I.mono.widen ok.mono (.inr hin), I.step.trans (s2.congr_left hFpj), n3⟩
      · constructor
        · rintro (h | h)
          · have := (I.eff i hi he).1 h; omega
          · omega
        · intro h
          rcases Nat.lt_or_ge i j with h' | h'
          · exact .inl (hbefore i h' he)
          · exact .inr (by omega)
      · have hne : i ≠ j := fun e => hL (.inr e)
        exact disjoint (C := C) hi hjn hne

/-- All are listed: the end. -/
theorem finish (I : C.Inv L ρ0 base w0 a w ρ g p) (hall : ∀ i, i < ops.size → L i) : FRel ρ (C.T.fr ops.size) a ∧ Ok ρ0 base (C.T.hp 0) w0 ρ (C.T.hp ops.size) w := by
  have hget : ∀ t, g.get t = (C.T.fr ops.size).get t := fun t => I.agree t ops.size (Nat.le_refl _) fun i oi hi _ => ⟨fun _ => lt_of hi, fun h => hall i h⟩
  have hFn : ∀ b, (C.T.hp ops.size).get b = (C.F p).get b := fun b => by
    have h1 : (C.F ops.size).get b = (C.T.hp ops.size).get b := by unfold F; rw [Nat.sub_self]; rfl
    rw [← h1]
    exact (C.chain2 (fun H => H.get b) I.hp (Nat.le_refl _) fun k hk hpos => C.F_step hk (fun he => by have := (I.eff k hk he).1 (hall k hk); omega) b).symm
  have hgf : g.fix = (C.T.fr ops.size).fix := I.gfix.trans (C.ffix ops.size (Nat.le_refl _)).symm
  have h1 : g.size = (C.T.fr ops.size).size := congrArg (fun p => p.1) hgf
  have h2 : g.defs = (C.T.fr ops.size).defs := congrArg (fun p => p.2.1) hgf
  have h3 : g.glob = (C.T.fr ops.size).glob := congrArg (fun p => p.2.2) hgf
  refine ⟨⟨fun t => by rw [← hget t]; exact I.frel.val t, by rw [← h1]; exact I.frel.size, by rw [← h2]; exact I.frel.defers, by rw [← h3]; exact I.frel.glob⟩, I.mono, I.sim.congr hFn, I.step.congr hFn⟩

theorem any_sound {Q : Exit → Act → World → Prop} (hQ : ∀ ρ' a' w', Ok ρ0 base (C.T.hp 0) w0 ρ' (C.T.hp ops.size) w' → FRel ρ' (C.T.fr ops.size) a' → Q .normal a' w') :
    ∀ (fuel : Nat) (listed : Array Bool) (a : Act) (w : World) (ρ : Rho) (g : Fr) (p : Nat), listed.size = ops.size → ((List.range ops.size).filter fun i => !(listed.getD i false)).length ≤ fuel →
      C.Inv (fun i => listed.getD i false = true) ρ0 base w0 a w ρ g p → wpAny P .any ops Q fuel listed a w := by
  have empty : ∀ (listed : Array Bool) (a : Act) (w : World) (ρ : Rho) (g : Fr) (p : Nat), listed.size = ops.size → C.Inv (fun i => listed.getD i false = true) ρ0 base w0 a w ρ g p →
      Region.ready .any ops listed = [] → ∀ i, i < ops.size → listed.getD i false = true := by
    intro listed a w ρ g p hsz I hr i
    induction i using Nat.strongRecOn with
    | _ i ih =>
      intro hi
      cases hli : listed.getD i false with
      | true => rfl
      | false =>
        exfalso
        have : i ∈ Region.ready .any ops listed := by
          rw [mem_ready]
          refine ⟨?_, ops[i], op_at hi, fun e he hb => ?_⟩
          · rw [Array.getD_eq_getD_getElem?] at hli ⊢
            rw [Array.getElem?_eq_getElem (by omega)] at hli ⊢; exact hli
          · have := C.back i _ (op_at hi) e he hb
            exact ih e.on this (by omega)
        rw [hr] at this; cases this
  intro fuel
  induction fuel with
  | zero =>
    intro listed a w ρ g p hsz hc I
    have hall : ∀ i, i < ops.size → listed.getD i false = true := fun i hi => by
      have h0 := List.eq_nil_of_length_eq_zero (Nat.le_zero.1 hc)
      have := List.filter_eq_nil_iff.1 h0 i (by simpa using hi)
      simpa using this
    refine ⟨?_, ?_⟩
    · cases hr : Region.ready .any ops listed with
      | nil => rfl
      | cons x xs =>
        exfalso
        have hx : x ∈ Region.ready .any ops listed := by rw [hr]; simp
        rw [mem_ready] at hx
        obtain ⟨h1, o, h2, -⟩ := hx
        have h3 := hall x (lt_of h2)
        rw [Array.getD_eq_getD_getElem?] at h1 h3
        rw [Array.getElem?_eq_getElem (by have := lt_of h2; omega)] at h1 h3
        simp at h1 h3
        rw [h1] at h3; cases h3
    · obtain ⟨f1, f2⟩ := finish I hall
      exact hQ ρ a w f2 f1
  | succ fuel ih =>
    intro listed a w ρ g p hsz hc I
    refine ⟨fun hr => ?_, fun j hj => ?_⟩
    · obtain ⟨f1, f2⟩ := finish I (empty listed a w ρ g p hsz I hr)
      exact hQ ρ a w f2 f1
    · rw [mem_ready] at hj
      obtain ⟨h1, o, h2, h3⟩ := hj
      have hjn := lt_of h2
      have hjf : listed.getD j false = false := by
        rw [Array.getD_eq_getD_getElem?] at h1 ⊢
        rw [Array.getElem?_eq_getElem (by omega)] at h1 ⊢; exact h1
      refine one_step I h2 (by rw [hjf]; simp) h3 fun a' w' ρ' g' p' I' => ?_
      have hset : ∀ i, (listed.setIfInBounds j true).getD i false = true ↔ (listed.getD i false = true ∨ i = j) := fun i => by
        by_cases e : i = j
        · subst e
          have hlt : i < listed.size := by omega
          simp [Array.getD_eq_getD_getElem?, Array.getElem?_setIfInBounds, hlt]
        · rw [getD_set_ne false (Ne.symm e)]; simp [e]
      refine ih _ a' w' ρ' g' p' (by simp [hsz]) ?_ ?_
      · have := filter_lt (p := fun i => !(listed.getD i false)) (q := fun i => !((listed.setIfInBounds j true).getD i false)) (l := List.range ops.size) (fun x _ hx => by
          simp only [Bool.not_eq_true'] at hx ⊢
          cases hxl : listed.getD x false with
          | false => rfl
          | true => rw [(hset x).2 (.inl hxl)] at hx; cases hx) j (by simpa using hjn) (by rw [hjf]; rfl) (by rw [(hset j).2 (.inr rfl)]; rfl)
        omega
      · have he : (fun i => (listed.setIfInBounds j true).getD i false = true) = (fun i => listed.getD i false = true ∨ i = j) := funext fun i => propext (hset i)
        rw [he]; exact I'
end Ctx

theorem draw_sound (hname : ∀ (g : FuncId) fn, P.funcs[g]? = some fn → fn.name ≠ "runtime.NumGoroutine") {call : FuncId → List Value → AHeap → Option (CRes × AHeap)} (hcall : CallOk P call) (hcw : CallWf call) {ops : Array Oper} (hreg : regOk P ops = true) {f f' : Fr} {H H' : AHeap} {tr : List (Nat × Ev)}
    (hrun : runOps P call ops ops.toList 0 f H [] = some (.done f' H' tr)) (hd : drawOk ops tr = true) (hw : Wf H) (ρ : Rho) (base : Nat) (w : World) (a : Act) (Q : Exit → Act → World → Prop) (hs : Sim ρ base H w) (hf : FRel ρ f a) (hfr : Fresh ρ H.next H'.next)
    (hk : ROk ρ base H w Q (.done f' H' tr)) : wpAny P .any ops Q ops.size (Array.replicate ops.size false) a w := by
  obtain ⟨-, T, t1, t2, t3, t4⟩ := trace_of (P := P) ops.toList 0 f H [] f' H' tr (fun j => by simp) hrun
  simp only [Nat.zero_add, Array.length_toList] at t3 t4
  let C : Ctx P call ops tr := ⟨hcall, hname, hcw, hreg, hd, T, by rw [t2]; exact hw⟩
  have I := C.start (ρ0 := ρ) (base := base) (w0 := w) (a := a) (by show Sim ρ base (T.hp 0) w; rw [t2]; exact hs) (by show FRel ρ (T.fr 0) a; rw [t1]; exact hf) (by show Fresh ρ (T.hp 0).next (T.hp ops.size).next; rw [t2, t4]; exact hfr)
  refine C.any_sound (ρ0 := ρ) (base := base) (w0 := w) (fun ρ' a' w' ok hf' => hk ρ' a' w' ?_ ?_) ops.size _ a w ρ (C.T.fr 0) 0 (by simp) ?_ ?_
  · have : Ok ρ base (T.hp 0) w ρ' (T.hp ops.size) w' := ok
    rwa [t2, t4] at this
  · have : FRel ρ' (T.fr ops.size) a' := hf'
    rwa [t3] at this
  · exact Nat.le_trans (List.length_filter_le _ _) (by simp)
  · have he : (fun i => (Array.replicate ops.size false).getD i false = true) = fun _ => False := by
      funext i
      simp only [Array.getD_eq_getD_getElem?, Array.getElem?_replicate]
      split <;> simp
    rw [he]; exact I
end Go.AX
