/- Regions whose order is drawn: what is shown of the order of the text holds of every order. -/
import Derived.Test.YtgbclgkadlfejaaAxRun
import Derived.Test.YtgbclgkadlfejaaAxReg
namespace Go.AX
open Go Go.RowKit
set_option linter.unusedVariables false
set_option linter.unusedSimpArgs false

variable {P : Program}

/-! ### an operation hangs on what it reads -/
section
variable {f g : Fr}
theorem evL_congr : ∀ {l : List Operand}, (∀ x ∈ l, evO f x = evO g x) → evL f l = evL g l
  | [], _ => rfl
  | x :: r, h => by simp only [evL, h x (by simp), evL_congr (l := r) fun y hy => h y (by simp [hy])]
theorem partsL_congr : ∀ {l : List (Nat × Operand)}, (∀ x ∈ l.map (·.2), evO f x = evO g x) → partsL f l = partsL g l
  | [], _ => rfl
  | (i, x) :: r, h => by simp only [partsL, h x (by simp), partsL_congr (l := r) fun y hy => h y (by simp at hy ⊢; exact .inr hy)]
theorem evM_congr {x : Option Operand} (h : ∀ y, x = some y → evO f y = evO g y) : evM f x = evM g x := by
  cases x with
  | none => rfl
  | some y => simp only [evM, h y rfl]
theorem bind_congr {xs : Array Operand} (h : ∀ x ∈ xs.toList, evO f x = evO g x) : (xs[0]?).bind (evO f) = (xs[0]?).bind (evO g) := by
  cases h0 : xs[0]? with
  | none => rfl
  | some y =>
    have : y ∈ xs.toList := by
      have := List.mem_of_getElem? (l := xs.toList) (i := 0) (a := y) (by simpa using h0)
      exact this
    simp [h y this]

theorem aQuiet_congr {op : Op} (h : ∀ x ∈ op.operands.toList, evO f x = evO g x) : aQuiet P f op = aQuiet P g op := by
  cases op <;> simp only [aQuiet] <;> simp only [Op.operands] at h
  case move x => exact h x (by simp)
  case assign x => exact h x (by simp)
  case pick c a b => rw [h c (by simp), h a (by simp), h b (by simp)]
  case nilCheck x => rw [h x (by simp)]
  case build t ps => rw [partsL_congr (l := ps.toList) fun x hx => h x (by simpa using hx)]
  case binOp op t x y yt => rw [h x (by simp), h y (by simp)]
  case unOp op t x => rw [h x (by simp)]
  case convert s d x => rw [h x (by simp)]
  case makeInterface t x => rw [h x (by simp)]
  case makeFunc fn a b => rw [evL_congr (l := a.toList) fun x hx => h x (by simp at hx ⊢; exact .inl hx), evL_congr (l := b.toList) fun x hx => h x (by simp at hx ⊢; exact .inr hx)]
  case slice t x lo hi mx =>
    rw [h x (by simp), evM_congr (x := lo) fun y hy => h y (by subst hy; simp), evM_congr (x := hi) fun y hy => h y (by subst hy; simp), evM_congr (x := mx) fun y hy => h y (by subst hy; simp)]
  case fieldAddr s x j => rw [h x (by simp)]
  case field s x j => rw [h x (by simp)]
  case indexAddr t x i => rw [h x (by simp), h i (by simp)]
  case index t x i => rw [h x (by simp), h i (by simp)]
  case extract t i => rw [h t (by simp)]
  case typeAssert x xt d ok => rw [h x (by simp)]
  case call c =>
    have hargs : ∀ x ∈ c.args.toList, evO f x = evO g x := fun x hx => h x (by simp only [Call.operands, Array.toList_append, List.mem_append]; exact .inr hx)
    rw [evL_congr hargs, bind_congr hargs]

theorem aMake_congr {op : Op} (h : ∀ x ∈ op.operands.toList, evO f x = evO g x) : aMake P f op = aMake P g op := by
  cases op <;> simp only [aMake] <;> simp only [Op.operands] at h
  case box t x => rw [h x (by simp)]
  case buildSlice t l ps => rw [partsL_congr (l := ps.toList) fun x hx => h x (by simpa using hx)]
  case makeSlice t a b => rw [h a (by simp), h b (by simp)]
  case makeMap t r => cases r <;> rfl
  case range t x => rw [h x (by simp)]

theorem aOp_congr {call : FuncId → List Value → AHeap → Option (CRes × AHeap)} {H : AHeap} {op : Op} (h : ∀ x ∈ op.operands.toList, evO f x = evO g x) : aOp P call f H op = aOp P call g H op := by
  have hq := aQuiet_congr (P := P) h
  have hm := aMake_congr (P := P) h
  cases op <;> simp only [aOp, hq, hm] <;> simp only [Op.operands] at h
  case load t x => rw [h x (by simp)]
  case store t x y => rw [h x (by simp), h y (by simp)]
  case panic x => rw [h x (by simp)]
  case convert s d x => rw [h x (by simp)]
  case next it isS => rw [h it (by simp)]
  case lookup t x y b => rw [h x (by simp), h y (by simp)]
  case mapUpdate t x y z => rw [h x (by simp), h y (by simp), h z (by simp)]
  case insert t x y z => rw [h x (by simp), h y (by simp), h z (by simp)]
  case call c =>
    have hargs : ∀ x ∈ c.args.toList, evO f x = evO g x := fun x hx => h x (by simp only [Call.operands, Array.toList_append, List.mem_append]; exact .inr hx)
    rw [evL_congr hargs]
    cases hc : c.callee with
    | value x =>
      simp only
      rw [h x (by simp [Call.operands, hc])]
    | invoke r m => rfl
    | builtin b => cases b <;> rfl
end

/-! ### what an operation did -/
theorem op_ev {call : FuncId → List Value → AHeap → Option (CRes × AHeap)} {f : Fr} {H H' : AHeap} {op : Op} {v : Value} {e : Ev} (h : aOp P call f H op = some (.val v H' e)) :
    (e = .quiet ∧ H' = H ∧ ∀ F, aOp P call f F op = some (.val v F e)) ∨
    (∃ b o n, e = .look b o n ∧ H' = H ∧ (cellsAt H b o n).isSome = true ∧ ∀ F, cellsAt F b o n = cellsAt H b o n → aOp P call f F op = some (.val v F e)) ∨
    (∃ ob vf, e = .make H.next ob ∧ H' = H.push ob ∧ aMake P f op = some (ob, vf) ∧ v = vf H.next) ∨
    (e = .eff H H' ∧ isEff P op = true) := by
  have quiet : ∀ op, (∀ F, aOp P call f F op = (aQuiet P f op).map fun v => Out.val v F .quiet) → aOp P call f H op = some (.val v H' e) → e = .quiet ∧ H' = H ∧ ∀ F, aOp P call f F op = some (.val v F e) := by
    intro op ho hq
    rw [ho] at hq
    cases hv : aQuiet P f op with
    | none => simp [hv] at hq
    | some u =>
      simp [hv] at hq
      obtain ⟨rfl, rfl, rfl⟩ := hq
      exact ⟨rfl, rfl, fun F => by rw [ho, hv]; rfl⟩
  have make : ∀ op, (aOp P call f H op = match aMake P f op with | some (ob, vf) => some (Out.val (vf H.next) (H.push ob) (.make H.next ob)) | none => none) → aOp P call f H op = some (.val v H' e) →
      ∃ ob vf, e = .make H.next ob ∧ H' = H.push ob ∧ aMake P f op = some (ob, vf) ∧ v = vf H.next := by
    intro op ho hq
    rw [ho] at hq
    split at hq
    · rename_i ob vf hm
      simp at hq
      obtain ⟨rfl, rfl, rfl⟩ := hq
      exact ⟨ob, vf, rfl, rfl, hm, rfl⟩
    · cases hq
  cases op with
  | alloc x => exact .inr (.inr (.inl (make _ rfl h)))
  | box x y => exact .inr (.inr (.inl (make _ rfl h)))
  | buildSlice t l ps => exact .inr (.inr (.inl (make _ rfl h)))
  | makeSlice t l c => exact .inr (.inr (.inl (make _ rfl h)))
  | makeMap t r => exact .inr (.inr (.inl (make _ rfl h)))
  | range t x => exact .inr (.inr (.inl (make _ rfl h)))
  | next it isS =>
    right; right; right
    simp only [aOp] at h
    split at h
    · simp only [aNext, Bool.cond_eq_ite] at h
      repeat' split at h
      all_goals first | (cases h; done) | (simp only [Option.some.injEq, Out.val.injEq] at h; obtain ⟨_, rfl, rfl⟩ := h; exact ⟨rfl, rfl⟩)
    · cases h
  | load t x =>
    right; left
    simp only [aOp] at h ⊢
    split at h
    · rename_i av hav
      simp only [aLoad] at h ⊢
      split at h
      · rename_i b o d n hu hn
        cases hd : isAggD d with
        | true =>
          simp only [hd, cond_true] at h
          split at h
          · rename_i l hl
            simp at h
            obtain ⟨rfl, rfl, rfl⟩ := h
            exact ⟨b, o, n, rfl, rfl, by rw [hl]; rfl, fun F hF => by simp only [hu, hn, hd, cond_true, hF, hl]⟩
          · cases h
        | false =>
          simp only [hd, cond_false] at h
          split at h
          · rename_i u hl
            simp at h
            obtain ⟨rfl, rfl, rfl⟩ := h
            exact ⟨b, o, 1, rfl, rfl, by rw [hl]; rfl, fun F hF => by simp only [hu, hn, hd, cond_false, hF, hl]⟩
          · cases h
      · cases h
    · cases h
  | store t x y =>
    right; right; right
    simp only [aOp] at h
    split at h
    · simp only [aStore, Bool.cond_eq_ite] at h
      repeat' split at h
      all_goals first | (cases h; done) | (simp at h; obtain ⟨_, rfl, rfl⟩ := h; exact ⟨rfl, rfl⟩)
    · cases h
  | panic x =>
    simp only [aOp] at h
    split at h <;> simp at h
  | convert src dst x =>
    simp only [aOp] at h ⊢
    split at h
    · rename_i xv hxv
      unfold aText at h
      split at h
      · rename_i sa n c
        split at h
        · rename_i el hu hd
          split at h
          · rename_i hel
            split at h
            · rename_i m cs hcs
              split at h
              · rename_i l hl
                simp only [Option.some.injEq, Out.val.injEq] at h
                obtain ⟨rfl, rfl, rfl⟩ := h
                rcases sa with _ | ⟨b, o, s⟩
                · left
                  refine ⟨rfl, rfl, fun F => ?_⟩
                  have : srcCells F 1 (.slice none n c) = some (m, cs) := by rw [← hcs]; rfl
                  simp only [aText, hu, hd, hel, this, hl]
                · cases hb : Nat.beq n 0 with
                  | true =>
                    left
                    have hn : Nat.beq (n * 1) 0 = true := by rw [Nat.mul_one]; exact hb
                    refine ⟨by simp only [lookAt, hn, cond_true], rfl, fun F => ?_⟩
                    have : srcCells F 1 (.slice (some ⟨b, o, s⟩) n c) = some (m, cs) := by rw [← hcs]; simp only [srcCells, hb, cond_true]
                    simp only [aText, hu, hd, hel, this, hl]
                  | false =>
                    right; left
                    have hn : Nat.beq (n * 1) 0 = false := by rw [Nat.mul_one]; exact hb
                    have hcs' := hcs
                    simp only [srcCells, hb, cond_false] at hcs'
                    cases hle : Nat.ble n c with
                    | false => simp [hle] at hcs'
                    | true =>
                      simp only [hle, cond_true] at hcs'
                      split at hcs'
                      · rename_i l2 hl2
                        refine ⟨b, o, n * 1, by simp only [lookAt, hn, cond_false], rfl, by rw [hl2]; rfl, fun F hF => ?_⟩
                        have : srcCells F 1 (.slice (some ⟨b, o, s⟩) n c) = some (m, cs) := by rw [← hcs]; simp only [srcCells, hF]
                        simp only [aText, hu, hd, hel, this, hl]
                      · cases hcs'
              · cases h
            · cases h
          · cases h
        · cases h
      · rename_i hns
        left
        simp only [Option.map_eq_some_iff, Out.val.injEq] at h
        obtain ⟨u, hu, rfl, rfl, rfl⟩ := h
        refine ⟨rfl, rfl, fun F => ?_⟩
        unfold aText
        split
        · exact (hns _ _ _ rfl).elim
        · rw [hu]; rfl
    · cases h
  | lookup t m k ok =>
    right; right; right
    simp only [aOp] at h
    split at h
    · simp only [aLookup, Bool.cond_eq_ite] at h
      repeat' split at h
      all_goals first | (cases h; done) | (simp only [Option.some.injEq, Out.val.injEq] at h; obtain ⟨_, rfl, rfl⟩ := h; exact ⟨rfl, rfl⟩)
    · cases h
  | mapUpdate t m k y =>
    right; right; right
    simp only [aOp] at h
    split at h
    · simp only [aMapUpdate, Bool.cond_eq_ite] at h
      repeat' split at h
      all_goals first | (cases h; done) | (simp only [Option.some.injEq, Out.val.injEq] at h; obtain ⟨_, rfl, rfl⟩ := h; exact ⟨rfl, rfl⟩)
    · cases h
  | insert t m k y =>
    right; right; right
    simp only [aOp] at h
    split at h
    · simp only [aMapUpdate, Bool.cond_eq_ite] at h
      repeat' split at h
      all_goals first | (cases h; done) | (simp only [Option.some.injEq, Out.val.injEq] at h; obtain ⟨_, rfl, rfl⟩ := h; exact ⟨rfl, rfl⟩)
    · cases h
  | call c =>
    simp only [aOp] at h
    split at h
    · rename_i hc
      right; right; right
      split at h
      · refine ⟨?_, by simp [isEff, hc]⟩
        simp only [aAppend, aAppendTo, Bool.cond_eq_ite] at h
        repeat' split at h
        all_goals first | (cases h; done) | (simp at h; obtain ⟨_, rfl, rfl⟩ := h; rfl)
      · cases h
    · rename_i hc
      right; right; right
      split at h
      · refine ⟨?_, by simp [isEff, hc]⟩
        simp only [aCopy, aCopyTo, Bool.cond_eq_ite] at h
        repeat' split at h
        all_goals first | (cases h; done) | (simp only [Option.some.injEq, Out.val.injEq] at h; obtain ⟨_, rfl, rfl⟩ := h; rfl)
      · cases h
    · rename_i hc
      right; right; right
      split at h
      · refine ⟨?_, by simp [isEff, hc]⟩
        simp only [aDelete, Bool.cond_eq_ite] at h
        repeat' split at h
        all_goals first | (cases h; done) | (simp only [Option.some.injEq, Out.val.injEq] at h; obtain ⟨_, rfl, rfl⟩ := h; rfl)
      · cases h
    · rename_i hc
      right; right; right
      split at h
      · refine ⟨?_, by simp [isEff, hc]⟩
        simp only [aClear, Bool.cond_eq_ite] at h
        repeat' split at h
        all_goals first | (cases h; done) | (simp only [Option.some.injEq, Out.val.injEq] at h; obtain ⟨_, rfl, rfl⟩ := h; rfl)
      · cases h
    · rename_i hc
      right; right; right
      split at h
      · refine ⟨?_, by simp [isEff, hc]⟩
        obtain ⟨_, e⟩ := data_wf h; cases e; rfl
      · cases h
    · rename_i hc
      right; right; right
      split at h
      · refine ⟨?_, by simp [isEff, hc]⟩
        obtain ⟨_, e | ⟨_, _, _, e⟩⟩ := utext_wf h <;> cases e <;> rfl
      · cases h
    · rename_i hc
      split at h
      · rename_i l hl
        unfold aLen at h
        split at h
        · right; right; right
          split at h
          · simp only [Option.some.injEq, Out.val.injEq] at h; obtain ⟨_, rfl, rfl⟩ := h; exact ⟨rfl, by simp only [isEff, hc, isMapT, *]⟩
          · cases h
        · rename_i t x hx ht
          left
          simp only [Option.map_eq_some_iff, Out.val.injEq] at h
          obtain ⟨u, hu, rfl, rfl, rfl⟩ := h
          refine ⟨rfl, rfl, fun F => ?_⟩
          simp only [aOp, hc, hl, aLen, ht]
          rw [hu]; rfl
        · cases h
      · cases h
    · rename_i x hc
      right; right; right
      split at h
      · split at h
        · simp at h; obtain ⟨_, rfl, rfl⟩ := h; exact ⟨rfl, by simp [isEff, hc]⟩
        · simp at h
        · cases h
      · cases h
    · rename_i b hna hc
      left
      refine quiet (.call c) (fun F => ?_) ?_
      · simp only [aOp, hc]
      · simp only [aOp, hc]; exact h
    · cases h
  | _ => first | exact .inl (quiet _ (fun _ => rfl) h) | (simp [aOp, aQuiet] at h; done)
end Go.AX
