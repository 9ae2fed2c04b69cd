/- The fast form of the executor is the executor, part 2: operations. -/
import Derived.Test.YtgbclgkadlfejaaDoorAxSame
namespace Go.AX
open Go
set_option linter.unusedVariables false
set_option linter.unusedSimpArgs false

theorem ofOut_none (kp : Value → AHeap → Res) (k : KV) : ofOut none kp k = .no := rfl
theorem ofOut_val (v : Value) (H : AHeap) (e : Ev) (kp : Value → AHeap → Res) (k : KV) : ofOut (some (.val v H e)) kp k = k v H e := rfl
theorem ofOut_map (o : Option Value) (H : AHeap) (kp : Value → AHeap → Res) (k : KV) : ofOut (o.map fun v => .val v H .quiet) kp k = ofO o fun v => k v H .quiet := by cases o <;> rfl

theorem fField_eq (P : Program) (s : TypeId) (j : Nat) (x : Value) (k : Value → Res) :
    (ofO (fldOff P s j) fun off => asPtr x .no fun b o => fN (Nat.add o off) fun o => k (.pointer (some ⟨b, o, none⟩))) = ofO (aFieldAddr P s x j) k := by
  simp only [fN_eq]
  unfold fldOff aFieldAddr
  cases P.underlying s with
  | none => cases x <;> rfl
  | some d => cases d with
    | struct fs =>
      cases hf : fs[j]? with
      | none =>
        cases x with
        | pointer a => rcases a with _ | ⟨b, o, _ | s⟩ <;> simp [hf, ofO]
        | _ => simp [hf, ofO]
      | some f =>
        rcases hz : sizeT P f.type with _ | _ | n
        · cases x with
          | pointer a => rcases a with _ | ⟨b, o, _ | s⟩ <;> simp [hf, hz, ofO]
          | _ => simp [hf, hz, ofO]
        · cases x with
          | pointer a => rcases a with _ | ⟨b, o, _ | s⟩ <;> simp [hf, hz, ofO]
          | _ => simp [hf, hz, ofO]
        · cases x with
          | pointer a => rcases a with _ | ⟨b, o, _ | s⟩ <;> simp [hf, hz, ofO, asPtr]
          | _ => simp [hf, hz, ofO, asPtr]
    | _ => cases x <;> rfl

theorem ixK_int (d : IntKind) (n : Nat) (k : Nat → Res) : ixK (.int d (Int.ofNat n)) k = k n := rfl
theorem ixK_neg (d : IntKind) (n : Nat) (k : Nat → Res) : ixK (.int d (Int.negSucc n)) k = .no := rfl
theorem blt_iff (a b : Nat) : Nat.blt a b = decide (a < b) := by rw [Bool.eq_iff_iff]; simp [Nat.blt_eq]
theorem ble_iff (a b : Nat) : Nat.ble a b = decide (a ≤ b) := by rw [Bool.eq_iff_iff]; simp [Nat.ble_eq]

theorem fIx_eq (P : Program) (t : TypeId) (x i : Value) (k : Value → Res) : fIxAddr P t x i k = ofO (aIndexAddr P t x i) k := by
  unfold fIxAddr
  cases i with
  | int d i =>
    unfold ixOf aIndexAddr
    simp only []
    cases P.underlying t with
    | none => rfl
    | some u => cases u with
      | array len e =>
        simp only []
        cases hz : sizeT P e with
        | none =>
          show Res.no = _
          cases x with
          | pointer a => rcases a with _ | ⟨b, o, _ | s⟩ <;> simp [hz, ofO]
          | _ => simp [hz, ofO]
        | some n =>
          show fIxArr len n x (.int d i) k = _
          unfold fIxArr
          cases x with
          | pointer a =>
            rcases a with _ | ⟨b, o, _ | s⟩
            · rfl
            · show ixK (.int d i) (fun i => Bool.rec (motive := fun _ => Res) .no (fN (Nat.add o (Nat.mul i n)) fun o => k (.pointer (some ⟨b, o, none⟩))) (Nat.blt i len)) = _
              cases i with
              | negSucc m => rw [ixK_neg]; simp only [hz]; rw [if_neg (by omega)]; rfl
              | ofNat m =>
                rw [ixK_int, blt_iff, fN_eq]; simp only [hz]
                by_cases hm : m < len
                · rw [if_pos ⟨by simp, by simpa using hm⟩, decide_eq_true hm]; rfl
                · rw [if_neg (by simp; omega), decide_eq_false hm]; rfl
            · rfl
          | _ => simp [asPtr, ofO]
      | slice e =>
        simp only []
        cases hz : sizeT P e with
        | none =>
          show Res.no = _
          cases x with
          | slice a l c => rcases a with _ | ⟨b, o, s⟩ <;> simp [hz, ofO]
          | _ => simp [hz, ofO]
        | some n =>
          show fIxSli n x (.int d i) k = _
          unfold fIxSli
          cases x with
          | slice a len cap =>
            rcases a with _ | ⟨b, o, s⟩
            · rfl
            · show ixK (.int d i) (fun i => Bool.rec (motive := fun _ => Res) .no (Bool.rec (motive := fun _ => Res) .no (fN (Nat.add o (Nat.mul i n)) fun o => k (.pointer (some ⟨b, o, none⟩))) (Nat.blt i len)) (Nat.ble len cap)) = _
              cases i with
              | negSucc m => rw [ixK_neg]; simp only [hz]; rw [if_neg (by omega)]; rfl
              | ofNat m =>
                rw [ixK_int, blt_iff, ble_iff, fN_eq]; simp only [hz]
                by_cases hm : m < len
                · by_cases hc : len ≤ cap
                  · rw [if_pos ⟨by simp, by simpa using hm, hc⟩, decide_eq_true hm, decide_eq_true hc]; rfl
                  · rw [if_neg (by simp; omega), decide_eq_true hm, decide_eq_false hc]; rfl
                · rw [if_neg (by simp; omega), decide_eq_false hm]; cases decide (len ≤ cap) <;> rfl
          | _ => simp [asSli, ofO]
      | _ => cases x <;> rfl
  | _ =>
    show _ = Res.no
    cases ixOf P t with
    | arr l n => cases x with
      | pointer a => rcases a with _ | ⟨b, o, _ | s⟩ <;> rfl
      | _ => rfl
    | sli n => cases x with
      | slice a l c => rcases a with _ | ⟨b, o, s⟩ <;> rfl
      | _ => rfl
    | no => rfl

theorem fLoad_eq (P : Program) (H : AHeap) (t : TypeId) (a : Value) (kp : Value → AHeap → Res) (k : KV) : fLoad P H t a k = ofOut (aLoad P H t a) kp k := by
  unfold fLoad loadN aLoad
  cases P.underlying t with
  | none => cases a with
    | pointer a => rcases a with _ | ⟨b, o, _ | s⟩ <;> rfl
    | _ => rfl
  | some d =>
    cases sizeT P t with
    | none => cases a with
      | pointer a => rcases a with _ | ⟨b, o, _ | s⟩ <;> rfl
      | _ => rfl
    | some n =>
      simp only [ofO_some]
      cases a with
      | pointer a =>
        rcases a with _ | ⟨b, o, _ | s⟩
        · rfl
        · show Bool.rec (motive := fun _ => Res) (fLoad1 H b o k) (fLoadN H b o n k) (isAggD d) = _
          dsimp only
          cases isAggD d with
          | true =>
            show fLoadN H b o n k = _
            simp only [cond_true, fLoadN]; cases cellsAt H b o n <;> rfl
          | false =>
            show fLoad1 H b o k = _
            simp only [cond_false, fLoad1, objK_eq, nthB_eq, nthR_eq, cellsAt]
            rcases H.get b with _ | ob
            · rfl
            · cases ob with
              | cells cs e own =>
                simp only []
                rcases takeN 1 (dropN o cs) with _ | _ | ⟨v, _ | _⟩ <;> rfl
              | _ => rfl
        · rfl
      | _ => rfl

theorem cells_one {v : Value} (h : isOne v = true) : v.cells = #[v] ∧ allOne v.cells.toList = true := by
  cases v <;> first | exact ⟨rfl, rfl⟩ | (simp [isOne] at h)

theorem fStore_eq (P : Program) (H : AHeap) (t : TypeId) (a v : Value) (kp : Value → AHeap → Res) (k : KV) (hkp : ∀ x, aStore P H t a v ≠ some x ∨ ∃ u H' e, x = .val u H' e) : fStore P H t a v k = ofOut (aStore P H t a v) kp k := by
  unfold fStore
  have hno : ∀ kp', ofOut (aStore P H t a v) kp' k = ofOut (aStore P H t a v) kp k := fun kp' => by
    cases hs : aStore P H t a v with
    | none => rfl
    | some x => rcases hkp x with h | ⟨u, H', e, rfl⟩
                · exact absurd hs h
                · rfl
  cases h1 : isOne v with
  | false => exact hno _
  | true =>
    show (ofO (sizeT P t) fun n => _) = _
    obtain ⟨hc, ha⟩ := cells_one h1
    unfold aStore
    cases sizeT P t with
    | none => cases a with
      | pointer a => rcases a with _ | ⟨b, o, _ | s⟩ <;> rfl
      | _ => rfl
    | some n =>
      simp only [ofO_some]
      cases a with
      | pointer a =>
        rcases a with _ | ⟨b, o, _ | s⟩
        · rfl
        · show Bool.rec (motive := fun _ => Res) .no (fStore1 H b o v k) (Nat.beq 1 n) = _
          rw [hc] at ha ⊢
          simp only [ha, Bool.and_true]
          show _ = ofOut (bif Nat.beq 1 n then _ else none) kp k
          cases Nat.beq 1 n with
          | false => rfl
          | true =>
            show fStore1 H b o v k = ofOut _ kp k
            simp only [cond_true, fStore1, objK_eq]
            rcases H.get b with _ | ob
            · rfl
            · cases ob with
              | cells cs e own =>
                cases own with
                | false => rfl
                | true =>
                  show putR cs o v _ = _
                  rw [putR_eq]; simp only [setH_eq]
                  cases putAt cs o [v] <;> rfl
              | _ => rfl
        · rfl
      | _ => rfl
theorem aStore_val (P : Program) (H : AHeap) (t : TypeId) (a v : Value) (x : Out) : aStore P H t a v ≠ some x ∨ ∃ u H' e, x = .val u H' e := by
  by_cases h : aStore P H t a v = some x
  · right
    unfold aStore at h
    split at h
    · cases hb : (Nat.beq v.cells.size _ && allOne v.cells.toList) with
      | false => rw [hb] at h; cases h
      | true =>
        rw [hb] at h; simp only [cond_true] at h
        split at h
        · split at h
          · simp only [Option.some.injEq] at h; subst h; exact ⟨_, _, _, rfl⟩
          · cases h
        · cases h
    · cases h
  · exact .inl h
end Go.AX
