/- The fast form of the executor is the executor. -/
import Derived.Test.YtjnegbcdeggpfaaDoorAxFast
import Derived.Test.YtjnegbcdeggpfaaDoorAxTr
namespace Go.AX
open Go
set_option linter.unusedVariables false
set_option linter.unusedSimpArgs false

/-! ### forcing changes nothing -/
@[simp] theorem fN_eq {r : Type} (n : Nat) (k : Nat → r) : fN n k = k n := by cases n <;> rfl
@[simp] theorem fI_eq {r : Type} (i : Int) (k : Int → r) : fI i k = k i := by
  cases i with
  | ofNat n => exact fN_eq n fun n => k (Int.ofNat n)
  | negSucc n => exact fN_eq n fun n => k (Int.negSucc n)
@[simp] theorem fB_eq {r : Type} (b : Bool) (k : Bool → r) : fB b k = k b := by cases b <;> rfl
@[simp] theorem fS_eq {r : Type} (s : Option Nat) (k : Option Nat → r) : fS s k = k s := by
  cases s with
  | none => rfl
  | some n => exact fN_eq n fun n => k (some n)
@[simp] theorem fA_eq {r : Type} (a : Option Addr) (k : Option Addr → r) : fA a k = k a := by
  cases a with
  | none => rfl
  | some a => show fN a.block (fun b => fN a.off fun o => fS a.spot fun s => k (some ⟨b, o, s⟩)) = _; simp only [fN_eq, fS_eq]
@[simp] theorem fV_eq {r : Type} (v : Value) (k : Value → r) : fV v k = k v := by
  cases v with
  | bool b => exact fB_eq b fun b => k (.bool b)
  | int d n => exact fI_eq n fun n => k (.int d n)
  | pointer a => exact fA_eq a fun a => k (.pointer a)
  | slice a l c => show fA a (fun a => fN l fun l => fN c fun c => k (.slice a l c)) = _; simp only [fN_eq, fA_eq]
  | map r => exact fS_eq r fun r => k (.map r)
  | _ => rfl

/-! ### operands and memory -/
theorem ofO_none {α : Type} (k : α → Res) : ofO none k = .no := rfl
theorem ofO_some {α : Type} (x : α) (k : α → Res) : ofO (some x) k = k x := rfl
theorem fE_eq (x : Operand) (f : Fr) (k : Value → Res) : fE x f k = ofO (evO f x) k := by
  cases x with
  | tmp t =>
    show Option.rec (motive := fun _ => Res) (k undef) (fun v => k v) ((slot t).get f.tmps) = k ((f.tmps.get t).getD undef)
    rw [slot_get]; cases f.tmps.get t <;> rfl
  | const v =>
    show Bool.rec (motive := fun _ => Res) .no (fV v k) (plainV 9 v) = ofO (bif plainV 9 v then some v else none) k
    rw [fV_eq]
    cases plainV 9 v <;> rfl
  | global g =>
    show Bool.rec (motive := fun _ => Res) .no (k (.pointer (some ⟨Nat.succ g, 0, none⟩))) (Nat.blt g f.glob) = ofO (bif Nat.blt g f.glob then some (.pointer (some ⟨g + 1, 0, none⟩)) else none) k
    cases Nat.blt g f.glob <;> rfl
  | _ => rfl
theorem fL_eq (f : Fr) : ∀ (xs : List Operand) (k : List Value → Res), fL xs f k = ofO (evL f xs) k
  | [], k => rfl
  | x :: xs, k => by
    show fE x f (fun v => fL xs f fun vs => k (v :: vs)) = _
    rw [fE_eq]; simp only [evL]
    cases evO f x with
    | none => rfl
    | some v => rw [ofO_some, fL_eq f xs]; cases evL f xs <;> rfl
theorem putK_eq (f : Fr) (d : Option Tmp) (v : Value) (k : Fr → Res) : putK f d v k = ofO (f.put d v) k := by
  cases d with
  | none => rfl
  | some d =>
    obtain ⟨t, n, ds, gl⟩ := f
    show Bool.rec (motive := fun _ => Res) ((slot d).set t v fun t => k ⟨t, n, ds, gl⟩) .no (Nat.ble n d) = ofO (bif Nat.blt d n then some ⟨t.set d v, n, ds, gl⟩ else none) k
    have hb : Nat.blt d n = !(Nat.ble n d) := by
      rw [Bool.eq_iff_iff]
      simp [Nat.blt_eq]
      rw [← Bool.not_eq_true, Nat.ble_eq]; omega
    rw [slot_set, hb]; cases Nat.ble n d <;> rfl
theorem setH_eq (H : AHeap) (b : Nat) (o : AObj) (k : AHeap → Res) : setH H b o k = k (H.set b o) := by
  obtain ⟨t, n⟩ := H; exact slot_set b t o fun t => k ⟨t, n⟩
theorem pushH_eq (H : AHeap) (o : AObj) (k : Nat → AHeap → Res) : pushH H o k = k H.next (H.push o) := by
  obtain ⟨t, n⟩ := H
  show fN n (fun n => (slot n).set t o fun t => k n ⟨t, Nat.succ n⟩) = _
  rw [fN_eq, slot_set]; rfl
theorem objK_eq (H : AHeap) (b : Nat) (k : List Value → Nat → Bool → Res) : objK H b k = (match H.get b with | some (.cells cs e own) => k cs e own | _ => .no) := by
  unfold objK; rw [slot_get]; unfold AHeap.get
  rcases H.objs.get b with _ | o
  · rfl
  · cases o <;> rfl
theorem nthR_eq : ∀ (l : List Value) (n : Nat), nthR l n = (match takeN 1 (dropN n l) with | some [v] => some v | _ => none)
  | [], 0 => rfl
  | [], n + 1 => rfl
  | v :: r, 0 => rfl
  | v :: r, n + 1 => nthR_eq r n
theorem putR_eq : ∀ (l : List Value) (o : Nat) (v : Value) (k : List Value → Res), putR l o v k = ofO (putAt l o [v]) k
  | [], o, v, k => by cases o <;> rfl
  | c :: r, 0, v, k => by cases r <;> rfl
  | c :: r, o + 1, v, k => by
    show putR r o v (fun r' => k (c :: r')) = _
    rw [putR_eq r o v]; simp only [putAt]; cases putAt r o [v] <;> rfl

theorem tlR_eq (l : List Value) : tlR l = l.drop 1 := by cases l <;> rfl
theorem hdR_eq (l : List Value) : hdR l = l[0]? := by cases l <;> rfl
theorem nthR_get : ∀ (l : List Value) (n : Nat), nthR l n = l[n]?
  | [], 0 => rfl
  | [], n + 1 => rfl
  | v :: r, 0 => rfl
  | v :: r, n + 1 => by
    show nthR r n = _
    rw [nthR_get r n]; simp
theorem dr2_eq (l : List Value) : dr2 l = l.drop 2 := by unfold dr2; simp only [tlR_eq, List.drop_drop]
theorem dr4_eq (l : List Value) : dr4 l = l.drop 4 := by unfold dr4; simp only [dr2_eq, List.drop_drop]
theorem dr8_eq (l : List Value) : dr8 l = l.drop 8 := by unfold dr8; simp only [dr4_eq, List.drop_drop]
theorem dr16_eq (l : List Value) : dr16 l = l.drop 16 := by unfold dr16; simp only [dr8_eq, List.drop_drop]
theorem dr32_eq (l : List Value) : dr32 l = l.drop 32 := by unfold dr32; simp only [dr16_eq, List.drop_drop]
theorem dr64_eq (l : List Value) : dr64 l = l.drop 64 := by unfold dr64; simp only [dr32_eq, List.drop_drop]
theorem dr128_eq (l : List Value) : dr128 l = l.drop 128 := by unfold dr128; simp only [dr64_eq, List.drop_drop]
theorem dr256_eq (l : List Value) : dr256 l = l.drop 256 := by unfold dr256; simp only [dr128_eq, List.drop_drop]
theorem dr512_eq (l : List Value) : dr512 l = l.drop 512 := by unfold dr512; simp only [dr256_eq, List.drop_drop]
theorem stB_eq {d : List Value → List Value} {K n : Nat} {l : List Value} {k : Nat → List Value → Res} {g : Option Value → Res} (hd : ∀ l, d l = l.drop K) (hk : ∀ n l, k n l = g l[n]?) : stB d K n l k = g l[n]? := by
  unfold stB
  cases h : Nat.ble K n with
  | false => exact hk n l
  | true =>
    show fN (Nat.sub n K) (fun n => k n (d l)) = _
    have hK : K ≤ n := Nat.le_of_ble_eq_true h
    rw [fN_eq, hk, hd, List.getElem?_drop]
    congr 2
    show K + (n - K) = n
    omega
theorem lastB_eq (n : Nat) (l : List Value) (k : Option Value → Res) : lastB n l k = k l[n]? := by
  cases n with
  | zero => show k (hdR l) = _; rw [hdR_eq]
  | succ n => show k (nthR l (n + 1)) = _; rw [nthR_get]
theorem midB_eq (n : Nat) (l : List Value) (k : Option Value → Res) : midB n l k = k l[n]? :=
  stB_eq dr8_eq fun n l => stB_eq dr4_eq fun n l => stB_eq dr2_eq fun n l => stB_eq tlR_eq fun n l => lastB_eq n l k
theorem farB_eq (n : Nat) (l : List Value) (k : Option Value → Res) : farB n l k = k l[n]? :=
  stB_eq dr512_eq fun n l => stB_eq dr256_eq fun n l => stB_eq dr128_eq fun n l => stB_eq dr64_eq fun n l => stB_eq dr32_eq fun n l => stB_eq dr16_eq fun n l => midB_eq n l k
theorem nthB_eq (l : List Value) (n : Nat) (k : Option Value → Res) : nthB l n k = k (nthR l n) := by
  unfold nthB
  rw [midB_eq, farB_eq, nthR_get]
  cases Nat.ble 6 n with
  | false => rfl
  | true => cases Nat.ble 16 n <;> rfl
theorem appR_eq (new : List Value) (bad : Res) : ∀ (cs : List Value) (n : Nat) (k : List Value → Res), appR cs new n bad k = if cs.length = n then k (cs ++ new) else bad
  | [], 0, k => rfl
  | [], n + 1, k => by rw [if_neg (by simp)]; rfl
  | c :: r, 0, k => by rw [if_neg (by simp)]; rfl
  | c :: r, n + 1, k => by
    show appR r new n bad (fun r => k (c :: r)) = _
    rw [appR_eq new bad r n]
    by_cases h : r.length = n
    · rw [if_pos h, if_pos (by simp [h])]; rfl
    · rw [if_neg h, if_neg (by simp [h])]

/-! ### numbers -/
theorem kMax_eq (d : IntKind) : (kMax d : Int) = d.max := by cases d <;> decide
theorem wrap_nat {d : IntKind} {n : Nat} (h : n ≤ kMax d) : d.wrap (Int.ofNat n) = Int.ofNat n := by
  have hm := kMax_eq d
  have h2 : (n : Int) ≤ (kMax d : Int) := by omega
  show d.wrap (n : Int) = (n : Int)
  cases d <;> simp only [kMax] at h2 <;> simp [IntKind.wrap, IntKind.bits, IntKind.signed] <;> omega
theorem kIdx_eq {d d' : IntKind} (h : Nat.beq (kIdx d) (kIdx d') = true) : d = d' := by
  have := Nat.eq_of_beq_eq_true h
  cases d <;> cases d' <;> first | rfl | (simp [kIdx] at this)
theorem qN_eq {d : IntKind} {n : Nat} {x : Int} {slow : Res} {k : Value → Res} (hx : x = Int.ofNat n) (hs : slow = k (.int d (d.wrap x))) : qN d n slow k = slow := by
  unfold qN
  cases h : Nat.ble n (kMax d) with
  | false => rfl
  | true =>
    show fN n (fun n => k (.int d (Int.ofNat n))) = slow
    rw [fN_eq, hs, hx, wrap_nat (Nat.le_of_ble_eq_true h)]
theorem dec_beq (a b : Nat) : ((Int.ofNat a == Int.ofNat b) : Bool) = Nat.beq a b := by
  rw [Bool.eq_iff_iff, beq_iff_eq, Nat.beq_eq]; exact Int.ofNat_inj
theorem dec_blt (a b : Nat) : (decide (Int.ofNat a < Int.ofNat b) : Bool) = Nat.blt a b := by
  rw [Bool.eq_iff_iff]; simp [Nat.blt_eq]
theorem dec_ble (a b : Nat) : (decide (Int.ofNat a ≤ Int.ofNat b) : Bool) = Nat.ble a b := by
  rw [Bool.eq_iff_iff]; simp [Nat.ble_eq]
theorem aBin_int (P : Program) (op : BinOp) (t : TypeId) (cx cy : Bool) (d : IntKind) (i j : Int) : aBin P op t cx cy (.int d i) (.int d j) = bif isShift op then aShift op d i j else aInt op d i j := by simp [aBin]
theorem fNat_eq (P : Program) (op : BinOp) (t : TypeId) (cx cy : Bool) (d : IntKind) (a b : Nat) (k : Value → Res) :
    fNat op d a b (ofO (aBin P op t cx cy (.int d (Int.ofNat a)) (.int d (Int.ofNat b))) k) k = ofO (aBin P op t cx cy (.int d (Int.ofNat a)) (.int d (Int.ofNat b))) k := by
  cases op with
  | add => exact qN_eq (x := Int.ofNat a + Int.ofNat b) rfl (by simp [aBin, isShift, aInt, ofO])
  | mul => exact qN_eq (x := Int.ofNat a * Int.ofNat b) rfl (by simp [aBin, isShift, aInt, ofO])
  | sub =>
    show Bool.rec (motive := fun _ => Res) _ (qN d (Nat.sub a b) _ k) (Nat.ble b a) = _
    cases h : Nat.ble b a with
    | false => rfl
    | true =>
      refine qN_eq (x := Int.ofNat a - Int.ofNat b) ?_ (by simp [aBin, isShift, aInt, ofO])
      have := Nat.le_of_ble_eq_true h
      show (a : Int) - (b : Int) = ((a - b : Nat) : Int); omega
  | rem =>
    show Bool.rec (motive := fun _ => Res) (fN (Nat.mod a b) fun n => k (.int d (Int.ofNat n))) _ (Nat.beq b 0) = _
    cases h : Nat.beq b 0 with
    | true => rfl
    | false =>
      have hb : ¬ (Int.ofNat b = 0) := by
        intro e; have : b = 0 := by simpa using e
        subst this; simp at h
      show fN (Nat.mod a b) (fun n => k (.int d (Int.ofNat n))) = _
      rw [fN_eq, aBin_int]; show _ = ofO (if Int.ofNat b = 0 then none else some (.int d ((Int.ofNat a).tmod (Int.ofNat b)))) k; rw [if_neg hb]; rfl
  | eql => rw [aBin_int]; show qB (Nat.beq a b) k = k (.bool (Int.ofNat a == Int.ofNat b)); unfold qB; rw [dec_beq, fB_eq]
  | neq => rw [aBin_int]; show qB (!(Nat.beq a b)) k = k (.bool (Int.ofNat a != Int.ofNat b)); unfold qB; rw [bne, dec_beq, fB_eq]
  | lss => rw [aBin_int]; show qB (Nat.blt a b) k = k (.bool (decide (Int.ofNat a < Int.ofNat b))); unfold qB; rw [dec_blt, fB_eq]
  | leq => rw [aBin_int]; show qB (Nat.ble a b) k = k (.bool (decide (Int.ofNat a ≤ Int.ofNat b))); unfold qB; rw [dec_ble, fB_eq]
  | gtr => rw [aBin_int]; show qB (Nat.blt b a) k = k (.bool (decide (Int.ofNat b < Int.ofNat a))); unfold qB; rw [dec_blt, fB_eq]
  | geq => rw [aBin_int]; show qB (Nat.ble b a) k = k (.bool (decide (Int.ofNat b ≤ Int.ofNat a))); unfold qB; rw [dec_ble, fB_eq]
  | _ => rfl
theorem fBin_eq (P : Program) (op : BinOp) (t : TypeId) (cx cy : Bool) (x y : Value) (k : Value → Res) : fBin P op t cx cy x y k = ofO (aBin P op t cx cy x y) k := by
  unfold fBin
  simp only [fV_eq]
  cases x with
  | int d i => cases y with
    | int d' j =>
      show fInt op d i d' j _ k = _
      unfold fInt
      cases h : Nat.beq (kIdx d) (kIdx d') with
      | false => rfl
      | true =>
        have := kIdx_eq h; subst this
        cases i with
        | negSucc _ => rfl
        | ofNat a => cases j with
          | negSucc _ => rfl
          | ofNat b => exact fNat_eq P op t cx cy d a b k
    | _ => rfl
  | _ => rfl
end Go.AX
namespace Go.AX
open Go
set_option linter.unusedVariables false
set_option linter.unusedSimpArgs false

theorem ofOut_none (kp : Value → AHeap → Res) (k : KV) : ofOut none kp k = .no := rfl
theorem ofOut_val (v : Value) (H : AHeap) (e : Ev) (kp : Value → AHeap → Res) (k : KV) : ofOut (some (.val v H e)) kp k = k v H e := rfl
theorem ofOut_map (o : Option Value) (H : AHeap) (kp : Value → AHeap → Res) (k : KV) : ofOut (o.map fun v => .val v H .quiet) kp k = ofO o fun v => k v H .quiet := by cases o <;> rfl

theorem fField_eq (P : Program) (s : TypeId) (j : Nat) (x : Value) (k : Value → Res) :
    (ofO (fldOff P s j) fun off => asPtr x .no fun b o => fN (Nat.add o off) fun o => k (.pointer (some ⟨b, o, none⟩))) = ofO (aFieldAddr P s x j) k := by
  simp only [fN_eq]
  unfold fldOff aFieldAddr
  cases P.underlying s with
  | none => cases x <;> rfl
  | some d => cases d with
    | struct fs =>
      cases hf : fs[j]? with
      | none =>
        cases x with
        | pointer a => rcases a with _ | ⟨b, o, _ | s⟩ <;> simp [hf, ofO]
        | _ => simp [hf, ofO]
      | some f =>
        rcases hz : sizeT P f.type with _ | _ | n
        · cases x with
          | pointer a => rcases a with _ | ⟨b, o, _ | s⟩ <;> simp [hf, hz, ofO]
          | _ => simp [hf, hz, ofO]
        · cases x with
          | pointer a => rcases a with _ | ⟨b, o, _ | s⟩ <;> simp [hf, hz, ofO]
          | _ => simp [hf, hz, ofO]
        · cases x with
          | pointer a => rcases a with _ | ⟨b, o, _ | s⟩ <;> simp [hf, hz, ofO, asPtr]
          | _ => simp [hf, hz, ofO, asPtr]
    | _ => cases x <;> rfl

theorem ixK_int (d : IntKind) (n : Nat) (k : Nat → Res) : ixK (.int d (Int.ofNat n)) k = k n := rfl
theorem ixK_neg (d : IntKind) (n : Nat) (k : Nat → Res) : ixK (.int d (Int.negSucc n)) k = .no := rfl
theorem blt_iff (a b : Nat) : Nat.blt a b = decide (a < b) := by rw [Bool.eq_iff_iff]; simp [Nat.blt_eq]
theorem ble_iff (a b : Nat) : Nat.ble a b = decide (a ≤ b) := by rw [Bool.eq_iff_iff]; simp [Nat.ble_eq]

theorem fIx_eq (P : Program) (t : TypeId) (x i : Value) (k : Value → Res) : fIxAddr P t x i k = ofO (aIndexAddr P t x i) k := by
  unfold fIxAddr
  cases i with
  | int d i =>
    unfold ixOf aIndexAddr
    simp only []
    cases P.underlying t with
    | none => rfl
    | some u => cases u with
      | array len e =>
        simp only []
        cases hz : sizeT P e with
        | none =>
          show Res.no = _
          cases x with
          | pointer a => rcases a with _ | ⟨b, o, _ | s⟩ <;> simp [hz, ofO]
          | _ => simp [hz, ofO]
        | some n =>
          show fIxArr len n x (.int d i) k = _
          unfold fIxArr
          cases x with
          | pointer a =>
            rcases a with _ | ⟨b, o, _ | s⟩
            · rfl
            · show ixK (.int d i) (fun i => Bool.rec (motive := fun _ => Res) .no (fN (Nat.add o (Nat.mul i n)) fun o => k (.pointer (some ⟨b, o, none⟩))) (Nat.blt i len)) = _
              cases i with
              | negSucc m => rw [ixK_neg]; simp only [hz]; rw [if_neg (by omega)]; rfl
              | ofNat m =>
                rw [ixK_int, blt_iff, fN_eq]; simp only [hz]
                by_cases hm : m < len
                · rw [if_pos ⟨by simp, by simpa using hm⟩, decide_eq_true hm]; rfl
                · rw [if_neg (by simp; omega), decide_eq_false hm]; rfl
            · rfl
          | _ => simp [asPtr, ofO]
      | slice e =>
        simp only []
        cases hz : sizeT P e with
        | none =>
          show Res.no = _
          cases x with
          | slice a l c => rcases a with _ | ⟨b, o, s⟩ <;> simp [hz, ofO]
          | _ => simp [hz, ofO]
        | some n =>
          show fIxSli n x (.int d i) k = _
          unfold fIxSli
          cases x with
          | slice a len cap =>
            rcases a with _ | ⟨b, o, s⟩
            · rfl
            · show ixK (.int d i) (fun i => Bool.rec (motive := fun _ => Res) .no (Bool.rec (motive := fun _ => Res) .no (fN (Nat.add o (Nat.mul i n)) fun o => k (.pointer (some ⟨b, o, none⟩))) (Nat.blt i len)) (Nat.ble len cap)) = _
              cases i with
              | negSucc m => rw [ixK_neg]; simp only [hz]; rw [if_neg (by omega)]; rfl
              | ofNat m =>
                rw [ixK_int, blt_iff, ble_iff, fN_eq]; simp only [hz]
                by_cases hm : m < len
                · by_cases hc : len ≤ cap
                  · rw [if_pos ⟨by simp, by simpa using hm, hc⟩, decide_eq_true hm, decide_eq_true hc]; rfl
                  · rw [if_neg (by simp; omega), decide_eq_true hm, decide_eq_false hc]; rfl
                · rw [if_neg (by simp; omega), decide_eq_false hm]; cases decide (len ≤ cap) <;> rfl
          | _ => simp [asSli, ofO]
      | _ => cases x <;> rfl
  | _ =>
    show _ = Res.no
    cases ixOf P t with
    | arr l n => cases x with
      | pointer a => rcases a with _ | ⟨b, o, _ | s⟩ <;> rfl
      | _ => rfl
    | sli n => cases x with
      | slice a l c => rcases a with _ | ⟨b, o, s⟩ <;> rfl
      | _ => rfl
    | no => rfl

theorem fLoad_eq (P : Program) (H : AHeap) (t : TypeId) (a : Value) (kp : Value → AHeap → Res) (k : KV) : fLoad P H t a k = ofOut (aLoad P H t a) kp k := by
  unfold fLoad loadN aLoad
  cases P.underlying t with
  | none => cases a with
    | pointer a => rcases a with _ | ⟨b, o, _ | s⟩ <;> rfl
    | _ => rfl
  | some d =>
    cases sizeT P t with
    | none => cases a with
      | pointer a => rcases a with _ | ⟨b, o, _ | s⟩ <;> rfl
      | _ => rfl
    | some n =>
      simp only [ofO_some]
      cases a with
      | pointer a =>
        rcases a with _ | ⟨b, o, _ | s⟩
        · rfl
        · show Bool.rec (motive := fun _ => Res) (fLoad1 H b o k) (fLoadN H b o n k) (isAggD d) = _
          dsimp only
          cases isAggD d with
          | true =>
            show fLoadN H b o n k = _
            simp only [cond_true, fLoadN]; cases cellsAt H b o n <;> rfl
          | false =>
            show fLoad1 H b o k = _
            simp only [cond_false, fLoad1, objK_eq, nthB_eq, nthR_eq, cellsAt]
            rcases H.get b with _ | ob
            · rfl
            · cases ob with
              | cells cs e own =>
                simp only []
                rcases takeN 1 (dropN o cs) with _ | _ | ⟨v, _ | _⟩ <;> rfl
              | _ => rfl
        · rfl
      | _ => rfl

theorem cells_one {v : Value} (h : isOne v = true) : v.cells = #[v] ∧ allOne v.cells.toList = true := by
  cases v <;> first | exact ⟨rfl, rfl⟩ | (simp [isOne] at h)

theorem fStore_eq (P : Program) (H : AHeap) (t : TypeId) (a v : Value) (kp : Value → AHeap → Res) (k : KV) (hkp : ∀ x, aStore P H t a v ≠ some x ∨ ∃ u H' e, x = .val u H' e) : fStore P H t a v k = ofOut (aStore P H t a v) kp k := by
  unfold fStore
  have hno : ∀ kp', ofOut (aStore P H t a v) kp' k = ofOut (aStore P H t a v) kp k := fun kp' => by
    cases hs : aStore P H t a v with
    | none => rfl
    | some x => rcases hkp x with h | ⟨u, H', e, rfl⟩
                · exact absurd hs h
                · rfl
  cases h1 : isOne v with
  | false => exact hno _
  | true =>
    show (ofO (sizeT P t) fun n => _) = _
    obtain ⟨hc, ha⟩ := cells_one h1
    unfold aStore
    cases sizeT P t with
    | none => cases a with
      | pointer a => rcases a with _ | ⟨b, o, _ | s⟩ <;> rfl
      | _ => rfl
    | some n =>
      simp only [ofO_some]
      cases a with
      | pointer a =>
        rcases a with _ | ⟨b, o, _ | s⟩
        · rfl
        · show Bool.rec (motive := fun _ => Res) .no (fStore1 H b o v k) (Nat.beq 1 n) = _
          rw [hc] at ha ⊢
          simp only [ha, Bool.and_true]
          show _ = ofOut (bif Nat.beq 1 n then _ else none) kp k
          cases Nat.beq 1 n with
          | false => rfl
          | true =>
            show fStore1 H b o v k = ofOut _ kp k
            simp only [cond_true, fStore1, objK_eq]
            rcases H.get b with _ | ob
            · rfl
            · cases ob with
              | cells cs e own =>
                cases own with
                | false => rfl
                | true =>
                  show putR cs o v _ = _
                  rw [putR_eq]; simp only [setH_eq]
                  cases putAt cs o [v] <;> rfl
              | _ => rfl
        · rfl
      | _ => rfl
theorem aStore_val (P : Program) (H : AHeap) (t : TypeId) (a v : Value) (x : Out) : aStore P H t a v ≠ some x ∨ ∃ u H' e, x = .val u H' e := by
  by_cases h : aStore P H t a v = some x
  · right
    unfold aStore at h
    split at h
    · cases hb : (Nat.beq v.cells.size _ && allOne v.cells.toList) with
      | false => rw [hb] at h; cases h
      | true =>
        rw [hb] at h; simp only [cond_true] at h
        split at h
        · split at h
          · simp only [Option.some.injEq] at h; subst h; exact ⟨_, _, _, rfl⟩
          · cases h
        · cases h
    · cases h
  · exact .inl h
end Go.AX
namespace Go.AX
open Go
set_option linter.unusedVariables false
set_option linter.unusedSimpArgs false

theorem aLen_val (P : Program) (H : AHeap) (ts : Array TypeId) (l : List Value) (x : Out) : aLen P H ts l ≠ some x ∨ ∃ u H' e, x = .val u H' e := by
  by_cases h : aLen P H ts l = some x
  · right
    unfold aLen at h
    split at h
    · split at h
      · simp only [Option.some.injEq] at h; subst h; exact ⟨_, _, _, rfl⟩
      · cases h
    · cases hc : aLenCap P true _ _ with
      | none => rw [hc] at h; cases h
      | some v => rw [hc] at h; simp only [Option.map_some, Option.some.injEq] at h; subst h; exact ⟨_, _, _, rfl⟩
    · cases h
  · exact .inl h

theorem ty0_get {ts : Array TypeId} (h : Nat.blt 0 ts.size = true) : ts[0]? = some (ty0 ts) := by
  obtain ⟨l⟩ := ts
  cases l with
  | nil => simp [Nat.blt_eq] at h
  | cons t r => rfl

theorem fLen_eq (P : Program) (H : AHeap) (ts : Array TypeId) (l : List Value) (kp : Value → AHeap → Res) (k : KV) : fLen P H ts l k = ofOut (aLen P H ts l) kp k := by
  have hno : ∀ kp', ofOut (aLen P H ts l) kp' k = ofOut (aLen P H ts l) kp k := fun kp' => by
    cases hs : aLen P H ts l with
    | none => rfl
    | some x =>
      rcases aLen_val P H ts l x with h | ⟨u, H', e, rfl⟩
      · exact absurd hs h
      · rfl
  unfold fLen
  simp only [fV_eq]
  rcases l with _ | ⟨x, _ | ⟨y, r⟩⟩
  · exact hno _
  · show Bool.rec (motive := fun _ => Res) (ofOut (aLen P H ts [x]) (fun _ _ => .no) k) (asSli x (ofOut (aLen P H ts [x]) (fun _ _ => .no) k) fun _ n _ => k (.int .i64 (Int.ofNat n)) H .quiet) (Nat.blt 0 ts.size && isSli P (ty0 ts)) = _
    rw [hno]
    cases hb : (Nat.blt 0 ts.size && isSli P (ty0 ts)) with
    | false => rfl
    | true =>
      rw [Bool.and_eq_true] at hb
      cases x with
      | slice a n c =>
        show k (.int .i64 (Int.ofNat n)) H .quiet = _
        have hs := hb.2
        unfold isSli at hs
        cases hu : P.underlying (ty0 ts) with
        | none => rw [hu] at hs; cases hs
        | some d => cases d with
          | slice e => simp only [aLen, ty0_get hb.1, aLenCap, hu, cond_true, Option.map_some]; rfl
          | _ => rw [hu] at hs; cases hs
      | _ => rfl
  · exact hno _

theorem takeN_all : ∀ (l : List Value), takeN l.length l = some l
  | [] => rfl
  | v :: r => by simp only [List.length_cons, takeN, takeN_all r]
theorem fAppFull_eq {H : AHeap} {by_ code b len cap : Nat} {s : Nat} {x : Value} {slow : Res} {k : KV} {kp : Value → AHeap → Res}
    (hs : slow = ofOut (match srcCells H 1 x with | some (n, new) => aAppendTo H 1 code by_ (some ⟨b, 0, some s⟩) len cap n new | none => none) kp k) : fAppFull H by_ code b len cap x slow k = slow := by
  unfold fAppFull
  cases hx : srcCells H 1 x with
  | none => rw [hs, hx]; rfl
  | some p =>
    obtain ⟨n, new⟩ := p
    rw [ofO_some, fN_eq]
    dsimp only
    cases hc : (Nat.beq len cap && Nat.ble 1 n && Nat.ble (Nat.mul (Nat.add len n) by_) (2 ^ 47) && Nat.ble (Nat.add len n) (2 ^ 47) && Nat.beq new.length n && allOne new) with
    | false => rfl
    | true =>
      simp only [Bool.and_eq_true] at hc
      obtain ⟨⟨⟨⟨⟨c1, c2⟩, c3⟩, c4⟩, c5⟩, c6⟩ := hc
      have e1 : len = cap := Nat.eq_of_beq_eq_true c1
      have e2 : 1 ≤ n := Nat.le_of_ble_eq_true c2
      have e5 : new.length = n := Nat.eq_of_beq_eq_true c5
      subst e1
      show objK H b _ = slow
      rw [objK_eq]
      cases hg : H.get b with
      | none =>
        rw [hs, hx]
        have h1 : (Nat.ble ((len + n) * by_) (2 ^ 47) && Nat.ble (len + n) (2 ^ 47) && Nat.beq new.length (n * 1) && Nat.ble len len && allOne new) = true := by
          simp only [Bool.and_eq_true]; exact ⟨⟨⟨⟨c3, c4⟩, by rw [Nat.mul_one]; exact c5⟩, by simp⟩, c6⟩
        have h2 : Nat.ble (len + n) len = false := by rw [← Bool.not_eq_true, Nat.ble_eq]; omega
        simp only [aAppendTo, h1, cond_true, h2, cond_false, hg]; rfl
      | some o =>
        cases o with
        | cells cs esz own =>
          dsimp only
          cases ho : (own && Nat.beq esz code) with
          | false => rfl
          | true =>
            rw [Bool.and_eq_true] at ho
            obtain ⟨rfl, ho2⟩ := ho
            have e6 : code = esz := (Nat.eq_of_beq_eq_true ho2).symm
            subst e6
            show appR cs new len slow _ = slow
            rw [appR_eq]
            by_cases hl : cs.length = len
            · rw [if_pos hl]
              simp only [setH_eq, pushH_eq]
              rw [hs, hx]
              have h1 : (Nat.ble ((len + n) * by_) (2 ^ 47) && Nat.ble (len + n) (2 ^ 47) && Nat.beq new.length (n * 1) && Nat.ble len len && allOne new) = true := by
                simp only [Bool.and_eq_true]; exact ⟨⟨⟨⟨c3, c4⟩, by rw [Nat.mul_one]; exact c5⟩, by simp⟩, c6⟩
              have h2 : Nat.ble (len + n) len = false := by rw [← Bool.not_eq_true, Nat.ble_eq]; omega
              have h3 : (Nat.beq code code && Nat.beq (0 + len * 1) cs.length && Nat.ble len len) = true := by simp [hl]
              have h4 : takeN (len * 1) (dropN 0 cs) = some cs := by rw [Nat.mul_one, ← hl]; exact takeN_all cs
              simp only [aAppendTo, h1, cond_true, h2, cond_false, hg, h3, h4]; rfl
            · rw [if_neg hl]
        | _ =>
          rw [hs, hx]
          have h1 : (Nat.ble ((len + n) * by_) (2 ^ 47) && Nat.ble (len + n) (2 ^ 47) && Nat.beq new.length (n * 1) && Nat.ble len len && allOne new) = true := by
            simp only [Bool.and_eq_true]; exact ⟨⟨⟨⟨c3, c4⟩, by rw [Nat.mul_one]; exact c5⟩, by simp⟩, c6⟩
          have h2 : Nat.ble (len + n) len = false := by rw [← Bool.not_eq_true, Nat.ble_eq]; omega
          simp only [aAppendTo, h1, cond_true, h2, cond_false, hg]; rfl

theorem fAppend_eq (P : Program) (H : AHeap) (ts : Array TypeId) (l : List Value) (kp : Value → AHeap → Res) (k : KV) : fAppend P H ts l (ofOut (aAppend P H ts l) kp k) k = ofOut (aAppend P H ts l) kp k := by
  unfold fAppend
  rcases l with _ | ⟨s, _ | ⟨x, _ | ⟨y, r⟩⟩⟩
  · rfl
  · rfl
  · show Option.rec (motive := fun _ => Res) _ (fun p => fN p.2 fun code => asSli s _ fun a len cap => _) (appOne P ts) = _
    cases ha : appOne P ts with
    | none => rfl
    | some pc =>
      obtain ⟨by_, code⟩ := pc
      show fN code (fun code => asSli s _ fun a len cap => _) = _
      rw [fN_eq]
      cases s with
      | slice a len cap =>
        rcases a with _ | ⟨b, o, _ | sp⟩
        · rfl
        · rfl
        · show Bool.rec (motive := fun _ => Res) _ (fAppFull H by_ code b len cap x _ k) (Nat.beq o 0) = _
          cases ho : Nat.beq o 0 with
          | false => rfl
          | true =>
            have e0 : o = 0 := Nat.eq_of_beq_eq_true ho
            subst e0
            show fAppFull H by_ code b len cap x _ k = _
            refine fAppFull_eq (s := sp) (kp := kp) ?_
            unfold appOne at ha
            split at ha
            · rename_i t ht
              split at ha
              · rename_i e hu
                split at ha
                · rename_i size by2 z h1 h2 h3
                  cases hb : (Nat.beq by2 0 || !(Nat.beq size 1) || !(Nat.beq z.cells.size 1)) with
                  | true => rw [hb] at ha; cases ha
                  | false =>
                    rw [hb] at ha
                    simp only [cond_false] at ha
                    simp only [Bool.or_eq_false_iff, Bool.not_eq_false'] at hb
                    have es : size = 1 := Nat.eq_of_beq_eq_true hb.1.2
                    have ez : z.cells.size = 1 := Nat.eq_of_beq_eq_true hb.2
                    subst es
                    have hcond : (Nat.beq by2 0 || Nat.beq 1 0 || !(Nat.beq z.cells.size 1)) = false := by rw [hb.1.1, ez]; rfl
                    have hmode : (match ts[1]? with | some u => (match P.underlying u with | some d => some (isIntD d) | none => none) | none => some false) = some false ∧ by2 = by_ ∧ rowV e 1 = code := by
                      cases h1 : ts[1]? with
                      | none => rw [h1] at ha; simp at ha; exact ⟨rfl, ha⟩
                      | some u =>
                        rw [h1] at ha
                        dsimp only at ha ⊢
                        cases hd : P.underlying u with
                        | none => rw [hd] at ha; cases ha
                        | some d =>
                          rw [hd] at ha
                          dsimp only at ha ⊢
                          cases hi : isIntD d with
                          | true => rw [hi] at ha; cases ha
                          | false => rw [hi] at ha; simp at ha; exact ⟨rfl, ha⟩
                    obtain ⟨hm, rfl, rfl⟩ := hmode
                    congr 1
                    simp only [aAppend, ht, hu, h1, h2, h3, hcond, cond_false]
                    clear ha
                    revert hm
                    cases ts[1]? with
                    | none => intro _; rfl
                    | some u =>
                      dsimp only
                      cases P.underlying u with
                      | none => intro hm; cases hm
                      | some d =>
                        dsimp only
                        intro hm
                        rw [hm]
                        rcases srcCells H 1 x with _ | ⟨n, new⟩ <;> rfl
                · cases ha
              · cases ha
            · cases ha
      | _ => rfl
  · rfl

theorem lenR_eq : ∀ l : List UInt8, lenR l = l.length
  | [] => rfl
  | a :: r => by show Nat.succ (lenR r) = _; rw [lenR_eq r]; rfl
theorem eqL_eq : ∀ l m : List UInt8, eqL l m = true ↔ l = m
  | [], [] => by simp [eqL]
  | [], b :: m => by simp [eqL]
  | a :: l, [] => by simp [eqL]
  | a :: l, b :: m => by
    show Bool.rec (motive := fun _ => Bool) false (eqL l m) (Nat.beq a.toNat b.toNat) = true ↔ _
    cases h : Nat.beq a.toNat b.toNat with
    | false =>
      have : a ≠ b := fun e => by subst e; simp at h
      constructor
      · intro h; cases h
      · intro h; exact (this (List.cons.inj h).1).elim
    | true =>
      have : a = b := UInt8.toNat_inj.1 (Nat.eq_of_beq_eq_true h)
      subst this
      show eqL l m = true ↔ _
      rw [eqL_eq l m]; simp
theorem eqS_eq (a b : ByteArray) : eqS a b = (a == b) := by
  have hb : (a == b) = (a.data == b.data) := by cases a; cases b; rfl
  have hd : a.data = b.data ↔ a = b := by cases a; cases b; simp
  rw [hb, Bool.eq_iff_iff, beq_iff_eq, hd]
  unfold eqS
  rw [lenR_eq, lenR_eq]
  cases h : Nat.beq a.data.toList.length b.data.toList.length with
  | false =>
    constructor
    · intro h; cases h
    · intro e; subst e; simp at h
  | true =>
    show eqL _ _ = true ↔ _
    rw [eqL_eq]
    constructor
    · intro e
      obtain ⟨a⟩ := a; obtain ⟨b⟩ := b
      rw [show a = b from Array.ext' e]
    · intro e; rw [e]
theorem findS_eq {P : Program} {kt : TypeId} (hk : P.underlying kt = some .string) (s : ByteArray) (slow miss : Res) (hit : Value → Res) :
    ∀ (es : List (Value × Value)) (i : Nat), findS s slow miss hit es = slow ∨ ∃ r, findA P kt (.string s) es i = some r ∧ findS s slow miss hit es = (match r with | some (_, v) => hit v | none => miss)
  | [], i => .inr ⟨none, rfl, rfl⟩
  | (k, v) :: r, i => by
    show asStr k slow (fun s' => Bool.rec (motive := fun _ => Res) (findS s slow miss hit r) (hit v) (eqS s s')) = slow ∨ _
    cases k with
    | string s' =>
      have ha : aEqIn P 50 kt (.string s) (.string s') = some (s == s') := by simp only [aEqIn, hk]
      rw [← eqS_eq] at ha
      show Bool.rec (motive := fun _ => Res) (findS s slow miss hit r) (hit v) (eqS s s') = slow ∨ _
      cases hs : eqS s s' with
      | true =>
        rw [hs] at ha
        refine .inr ⟨some (i, v), by simp only [findA, ha], ?_⟩
        show Bool.rec (motive := fun _ => Res) (findS s slow miss hit r) (hit v) (eqS s s') = _
        rw [hs]
      | false =>
        rw [hs] at ha
        rcases findS_eq hk s slow miss hit r (i + 1) with h | ⟨r', h1, h2⟩
        · exact .inl h
        · refine .inr ⟨r', by simp only [findA, ha]; exact h1, ?_⟩
          show Bool.rec (motive := fun _ => Res) (findS s slow miss hit r) (hit v) (eqS s s') = _
          rw [hs]; exact h2
    | _ => exact .inl rfl
theorem mapK_eq (H : AHeap) (b : Nat) (bad : Res) (k : List (Value × Value) → Res) : mapK H b bad k = (match H.get b with | some (.map es) => k es | _ => bad) := by
  unfold mapK; rw [slot_get]; unfold AHeap.get
  rcases H.objs.get b with _ | o
  · rfl
  · cases o <;> rfl
theorem fLookup_eq (P : Program) (H : AHeap) (t : TypeId) (m key : Value) (ok : Bool) (kp : Value → AHeap → Res) (k : KV) : fLookup P H t m key ok (ofOut (aLookup P H t m key ok) kp k) k = ofOut (aLookup P H t m key ok) kp k := by
  unfold fLookup
  cases hz : strMap P t with
  | none => rfl
  | some z =>
    cases key with
    | string s =>
      cases m with
      | map r =>
        cases r with
        | none => rfl
        | some r =>
          show mapK H r _ _ = _
          rw [mapK_eq]
          cases hg : H.get r with
          | none => rfl
          | some o =>
            cases o with
            | map es =>
              dsimp only
              unfold strMap at hz
              split at hz
              · rename_i kt e hu
                split at hz
                · rename_i hk
                  rcases findS_eq hk s (ofOut (aLookup P H t (.map (some r)) (.string s) ok) kp k) (k (bif ok then .tuple #[z, .bool false] else z) H (.eff H H)) (fun v => k (bif ok then .tuple #[v, .bool true] else v) H (.eff H H)) es 0 with h | ⟨r', h1, h2⟩
                  · exact h
                  · refine h2.trans ?_
                    have hc : keyChk P 9 kt (.string s) = true := by simp only [keyChk, hk]
                    simp only [aLookup, hu, hc, cond_true, entriesOf, hg, hz, h1]
                    rcases r' with _ | ⟨i, v⟩ <;> rfl
                · cases hz
              · cases hz
            | _ => rfl
      | _ => rfl
    | _ => rfl

/-- The call in both forms. -/
def CallSame (fc : KCall) (ac : FuncId → List Value → AHeap → Option (CRes × AHeap)) : Prop :=
  ∀ g args H kp kr, fc g args H kp kr = (match ac g args H with | some (.ret v, H') => kr v H' | some (.panic v, H') => kp v H' | none => .no)

theorem slow_eq (P : Program) (ac : FuncId → List Value → AHeap → Option (CRes × AHeap)) (op : Op) (f : Fr) (H : AHeap) (kp : Value → AHeap → Res) (k : KV)
    (h : aOp P (fun _ _ _ => none) f H op = aOp P ac f H op) : slowOp P op f H kp k = ofOut (aOp P ac f H op) kp k := by unfold slowOp; rw [h]; simp only [fV_eq]

theorem ofO_ofOut {α : Type} (o : Option α) (g : α → Option Out) (kp : Value → AHeap → Res) (k : KV) : (ofO o fun x => ofOut (g x) kp k) = ofOut (match o with | some x => g x | none => none) kp k := by cases o <;> rfl

theorem fOp_eq {P : Program} {fc : KCall} {ac : FuncId → List Value → AHeap → Option (CRes × AHeap)} (hc : CallSame fc ac) (op : Op) (f : Fr) (H : AHeap) (kp : Value → AHeap → Res) (k : KV) :
    fOp P fc op f H kp k = ofOut (aOp P ac f H op) kp k := by
  cases op with
  | move x => show fE x f _ = _; rw [fE_eq]; show _ = ofOut ((evO f x).map _) kp k; rw [ofOut_map]
  | assign x => show fE x f _ = _; rw [fE_eq]; show _ = ofOut ((evO f x).map _) kp k; rw [ofOut_map]
  | pick c a b =>
    show fE c f (fun c => asBool c .no fun t => Bool.rec (motive := fun _ => Res) (fE b f fun v => k v H .quiet) (fE a f fun v => k v H .quiet) t) = ofOut (Option.map _ (match evO f c with | some (.bool t) => bif t then evO f a else evO f b | _ => none)) kp k
    rw [ofOut_map, fE_eq]
    cases evO f c with
    | none => rfl
    | some v => cases v with
      | bool t => cases t
                  · exact fE_eq b f _
                  · exact fE_eq a f _
      | _ => rfl
  | alloc e =>
    show (ofO (zeroOf P e) fun z => fMake H _ _ k) = _
    simp only [aOp, aMake]
    cases zeroOf P e with
    | none => rfl
    | some z => rw [ofO_some]; unfold fMake; rw [pushH_eq, fV_eq]; rfl
  | box t x =>
    show fE x f (fun v => fMake H _ _ k) = _
    rw [fE_eq]; simp only [aOp, aMake]
    cases evO f x with
    | none => rfl
    | some v => rw [ofO_some]; unfold fMake; rw [pushH_eq, fV_eq]; rfl
  | load t a =>
    show fE a f (fun a => fLoad P H t a k) = _
    rw [fE_eq]; simp only [aOp]
    cases evO f a with
    | none => rfl
    | some a => exact fLoad_eq P H t a kp k
  | store t a x =>
    show fE a f (fun a => fE x f fun v => fStore P H t a v k) = _
    rw [fE_eq]; simp only [aOp]
    cases evO f a with
    | none => rfl
    | some a =>
      rw [ofO_some, fE_eq]
      cases evO f x with
      | none => rfl
      | some v => exact fStore_eq P H t a v kp k (aStore_val P H t a v)
  | nilCheck x =>
    show fE x f (fun v => asPtr v (slowOp P (.nilCheck x) f H kp k) fun b o => k (.pointer (some ⟨b, o, none⟩)) H .quiet) = _
    rw [slow_eq P ac _ f H kp k rfl, fE_eq]
    cases hv : evO f x with
    | none => show Res.no = _; simp only [aOp, aQuiet, hv]; rfl
    | some v => cases v with
      | pointer a => rcases a with _ | ⟨b, o, _ | s⟩
                     · rfl
                     · simp only [aOp, aQuiet, hv]; rfl
                     · rfl
      | _ => rfl
  | binOp op t x y u =>
    show fE x f (fun a => fE y f fun b => fBin P op t (isConst x) (isConst y) a b fun v => k v H .quiet) = ofOut (Option.map _ (match evO f x, evO f y with | some a, some b => aBin P op t (isConst x) (isConst y) a b | _, _ => none)) kp k
    rw [ofOut_map, fE_eq]
    cases evO f x with
    | none => rfl
    | some a =>
      rw [ofO_some, fE_eq]
      cases evO f y with
      | none => rfl
      | some b => exact fBin_eq P op t _ _ a b _
  | fieldAddr s x j =>
    show fE x f (fun a => ofO (fldOff P s j) fun off => asPtr a .no fun b o => fN (Nat.add o off) fun o => k (.pointer (some ⟨b, o, none⟩)) H .quiet) = ofOut (Option.map _ (match evO f x with | some a => aFieldAddr P s a j | none => none)) kp k
    rw [ofOut_map, fE_eq]
    cases evO f x with
    | none => rfl
    | some a => exact fField_eq P s j a fun v => k v H .quiet
  | indexAddr t x i =>
    show fE x f (fun a => fE i f fun i => fIxAddr P t a i fun v => k v H .quiet) = ofOut (Option.map _ (match evO f x, evO f i with | some a, some b => aIndexAddr P t a b | _, _ => none)) kp k
    rw [ofOut_map, fE_eq]
    cases evO f x with
    | none => rfl
    | some a =>
      rw [ofO_some, fE_eq]
      cases evO f i with
      | none => rfl
      | some b => exact fIx_eq P t a b _
  | extract x i =>
    show fE x f (fun a => asTup a .no fun vs => ofO (nthR vs.toList i) fun v => fV v fun v => k v H .quiet) = ofOut (Option.map _ (match evO f x with | some (.tuple vs) => vs[i]? | _ => none)) kp k
    simp only [fV_eq]
    rw [ofOut_map, fE_eq]
    cases evO f x with
    | none => rfl
    | some a => cases a with
      | tuple vs =>
        show ofO (nthR vs.toList i) _ = ofO vs[i]? _
        have : ∀ (l : List Value) (n : Nat), nthR l n = l[n]? := by
          intro l; induction l with
          | nil => intro n; rfl
          | cons v r ih => intro n; cases n with
            | zero => rfl
            | succ n => exact ih n
        rw [this]; simp
      | _ => rfl
  | lookup t x i c =>
    show fE x f (fun m => fE i f fun key => fLookup P H t m key c (ofOut (aLookup P H t m key c) kp fun v H e => fV v fun v => k v H e) fun v H e => fV v fun v => k v H e) = _
    simp only [fV_eq, fLookup_eq]
    rw [fE_eq]; simp only [aOp]
    cases evO f x with
    | none => rfl
    | some m =>
      rw [ofO_some, fE_eq]
      cases evO f i with
      | none => rfl
      | some key => rfl
  | call c =>
    show fCallOp P fc c (.call c) f H kp k = _
    obtain ⟨ce, args, ts⟩ := c
    cases ce with
    | value g =>
      show fE g f (fun g => asFun g .no fun g first captured => fL args.toList f fun args => fc g (first.toList ++ args ++ captured.toList) H kp fun v H' => fV v fun v => k v H' (.eff H H')) = _
      simp only [fV_eq]
      rw [fE_eq]; simp only [aOp]
      cases evO f g with
      | none => rfl
      | some g => cases g with
        | func fn a b => cases fn with
          | func g =>
            show fL args.toList f _ = _
            rw [fL_eq]
            cases evL f args.toList with
            | none => rfl
            | some as =>
              show fc g _ H kp _ = _
              rw [hc]; simp only []
              rcases ac g (a.toList ++ as ++ b.toList) H with _ | ⟨_ | _, H'⟩ <;> rfl
          | _ => show Res.no = _; cases evL f args.toList <;> rfl
        | _ => show Res.no = _; cases evL f args.toList <;> rfl
    | invoke r m => rfl
    | builtin b =>
      cases b with
      | append =>
        show fL args.toList f (fun l => fAppend P H ts l (ofOut (aAppend P H ts l) kp fun v H e => fV v fun v => k v H e) k) = _
        simp only [fV_eq, fAppend_eq]
        rw [fL_eq]; simp only [aOp]
        cases evL f args.toList <;> rfl
      | len =>
        show fL args.toList f (fun l => fLen P H ts l k) = _
        rw [fL_eq]; simp only [aOp]
        cases evL f args.toList with
        | none => rfl
        | some l => exact fLen_eq P H ts l kp k
      | _ => refine Eq.trans ?_ (slow_eq P ac (.call ⟨.builtin _, args, ts⟩) f H kp k rfl); rfl
  | _ => exact slow_eq P ac _ f H kp k rfl
end Go.AX
namespace Go.AX
open Go
set_option linter.unusedVariables false
set_option linter.unusedSimpArgs false

theorem toR_ofR (x : Option (AExit × Fr × AHeap)) : (Res.ofR x).toR = x := by
  rcases x with _ | ⟨e, f, H⟩
  · rfl
  · cases e <;> rfl

theorem fDraw_eq (ops : Array Oper) (tr : List (Nat × Ev)) : fDraw ops tr = drawOk ops tr := by
  have key : ∀ l : List (Nat × Ev), List.rec (motive := fun _ => Bool) true (fun y _ ih => Ev.rec (motive := fun _ => Bool) ih (fun _ _ _ => ih) (fun _ _ => ih) (fun _ _ => Bool.rec (motive := fun _ => Bool) false ih (tr.all fun x => evOk ops x y)) y.2) l
      = l.all fun y => tr.all fun x => evOk ops x y := by
    intro l
    induction l with
    | nil => rfl
    | cons y r ih =>
      obtain ⟨j, e⟩ := y
      rw [List.all_cons, ← ih]
      have hq : (∀ x, evOk ops x (j, e) = true) → (List.all tr fun x => evOk ops x (j, e)) = true := fun h => List.all_eq_true.2 fun x _ => h x
      cases e with
      | eff H H' => show (Bool.rec (motive := fun _ => Bool) false _ (tr.all fun x => evOk ops x (j, .eff H H')) : Bool) = _; cases (tr.all fun x => evOk ops x (j, .eff H H')) <;> rfl
      | quiet => rw [hq fun x => by obtain ⟨i, e⟩ := x; cases e <;> rfl]; rfl
      | look b o n => rw [hq fun x => by obtain ⟨i, e⟩ := x; cases e <;> rfl]; rfl
      | make b o => rw [hq fun x => by obtain ⟨i, e⟩ := x; cases e <;> rfl]; rfl
  unfold fDraw drawOk
  rw [key tr, Bool.eq_iff_iff]
  simp only [List.all_eq_true]
  exact ⟨fun h x hx y hy => h y hy x hx, fun h y hy x hx => h x hx y hy⟩

theorem fWant_eq (ops : Array Oper) (o : Oper) (f : Fr) (x y : Res) : fWant ops o f x y = bif wantedA ops o f then y else x := by
  unfold fWant
  cases hg : o.guard with
  | none => simp only [wantedA, hg, cond_true]
  | some g => show Bool.rec (motive := fun _ => Res) x y (wantedA ops o f) = _; cases wantedA ops o f <;> rfl

theorem fRun_eq {P : Program} {fc : KCall} {ac : FuncId → List Value → AHeap → Option (CRes × AHeap)} (hc : CallSame fc ac) (ops : Array Oper) (draw : Bool) : ∀ (l : List Oper) (i : Nat) (f : Fr) (H : AHeap) (tr : List (Nat × Ev)),
    (fRun P fc ops draw l i f H tr).toR = (match runOps P ac ops l i f H tr with
      | some (.done f' H' tr) => bif draw then (bif drawOk ops tr then some (.normal, f', H') else none) else some (.normal, f', H')
      | some (.panic v f' H') => bif draw then none else some (.panic v, f', H')
      | none => none)
  | [], i, f, H, tr => by
    show (Bool.rec (motive := fun _ => Res) (.nrm f H) (Bool.rec (motive := fun _ => Res) .no (.nrm f H) (fDraw ops tr)) draw : Res).toR = _
    rw [fDraw_eq]
    cases draw with
    | false => rfl
    | true => simp only [runOps, cond_true]; cases drawOk ops tr <;> rfl
  | o :: r, i, f, H, tr => by
    show (fWant ops o f (putK f o.dst undef fun f' => fRun P fc ops draw r (Nat.succ i) f' H tr)
      (fOp P fc o.op f H (fun v H' => Bool.rec (motive := fun _ => Res) (.pan v f H') .no draw)
        (fun v H' e => putK f o.dst v fun f' => fRun P fc ops draw r (Nat.succ i) f' H' ((i, e) :: tr)))).toR = _
    rw [fWant_eq, fOp_eq hc]
    simp only [runOps]
    cases wantedA ops o f with
    | false =>
      simp only [cond_false]
      rw [putK_eq]
      cases f.put o.dst undef with
      | none => rfl
      | some f' => exact fRun_eq hc ops draw r (i + 1) f' H tr
    | true =>
      simp only [cond_true]
      cases aOp P ac f H o.op with
      | none => rfl
      | some x => cases x with
        | panic v H' => show (Bool.rec (motive := fun _ => Res) (.pan v f H') .no draw : Res).toR = _; cases draw <;> rfl
        | val v H' e =>
          show (putK f o.dst v fun f' => fRun P fc ops draw r (Nat.succ i) f' H' ((i, e) :: tr)).toR = _
          rw [putK_eq]
          dsimp only
          cases f.put o.dst v with
          | none => rfl
          | some f' => exact fRun_eq hc ops draw r (i + 1) f' H' ((i, e) :: tr)

theorem fRunQ_eq {P : Program} {fc : KCall} {ac : FuncId → List Value → AHeap → Option (CRes × AHeap)} (hc : CallSame fc ac) (ops : Array Oper) : ∀ (l : List Oper) (i : Nat) (f : Fr) (H : AHeap) (tr : List (Nat × Ev)),
    (fRunQ P fc ops l f H).toR = (match runOps P ac ops l i f H tr with
      | some (.done f' H' _) => some (.normal, f', H')
      | some (.panic v f' H') => some (.panic v, f', H')
      | none => none)
  | [], i, f, H, tr => rfl
  | o :: r, i, f, H, tr => by
    show (fWant ops o f (putK f o.dst undef fun f' => fRunQ P fc ops r f' H)
      (fOp P fc o.op f H (fun v H' => .pan v f H') (fun v H' _ => putK f o.dst v fun f' => fRunQ P fc ops r f' H'))).toR = _
    rw [fWant_eq, fOp_eq hc]
    simp only [runOps]
    cases wantedA ops o f with
    | false =>
      simp only [cond_false]
      rw [putK_eq]
      cases f.put o.dst undef with
      | none => rfl
      | some f' => exact fRunQ_eq hc ops r (i + 1) f' H tr
    | true =>
      simp only [cond_true]
      cases aOp P ac f H o.op with
      | none => rfl
      | some x => cases x with
        | panic v H' => rfl
        | val v H' e =>
          show (putK f o.dst v fun f' => fRunQ P fc ops r f' H').toR = _
          rw [putK_eq]
          dsimp only
          cases f.put o.dst v with
          | none => rfl
          | some f' => exact fRunQ_eq hc ops r (i + 1) f' H' ((i, e) :: tr)

theorem frK_eq (args : List Value) (n ng : Nat) (k : Fr → Res) : frK args n ng k = k (frOf args n ng) := by
  unfold frK frOf
  rw [fN_eq, fN_eq]
  have key : ∀ (l : List Value) (i : Nat) (t : Tr Value), List.rec (motive := fun _ => Nat → Tr Value → Res) (fun _ t => k ⟨t, n, [], ng⟩) (fun v _ ih i t => (slot i).set t v fun t => ih (Nat.succ i) t) l i t
      = k ⟨(l.foldl (fun (s : Tr Value × Nat) v => (s.1.set s.2 v, s.2 + 1)) (t, i)).1, n, [], ng⟩ := by
    intro l
    induction l with
    | nil => intro i t; rfl
    | cons v r ih => intro i t; show (slot i).set t v _ = _; rw [slot_set, ih]; rfl
  exact key args 0 .nil

theorem fLeave_eq {P : Program} {ex : Code → Fr → AHeap → Res} {fn : Func} {m : AMode} {f : Fr} {H : AHeap} {fast : Res} {kp kr : Value → AHeap → Res} (h : fast = ofC kp kr (endX P fn f (some (m, H)))) :
    fLeave P ex fn m f H fast kp kr = ofC kp kr (endX P fn f (leaveX (deferX P (fun c f H => (ex c f H).toR) fun _ _ _ => none) f.defs m H)) := by
  unfold fLeave
  cases hd : f.defs with
  | nil => rw [h]; rfl
  | cons d ds => rfl

/-- What a call answers, of what the body's run answers. -/
theorem fBody_eq {P : Program} {ex : Code → Fr → AHeap → Res} (fn : Func) (c : Code) (args : List Value) (H : AHeap) (kp kr : Value → AHeap → Res) :
    fBody P ex fn c args H kp kr = ofC kp kr (bodyX P (deferX P (fun c f H => (ex c f H).toR) fun _ _ _ => none) fn ((ex c (frOf args (max fn.ntmps args.length) H.globN) H).toR)) := by
  unfold fBody
  rw [frK_eq]
  have hres : ∀ (f' : Fr) (H' : AHeap), fRes P fn f' H' kr = ofC kp kr (endX P fn f' (some (.back, H'))) := fun f' H' => by
    unfold fRes; simp only [endX]; cases resA P f' H' fn.results.toList <;> rfl
  cases ex c (frOf args (max fn.ntmps args.length) H.globN) H with
  | nrm f' H' => exact fLeave_eq (hres f' H')
  | ret f' H' => exact fLeave_eq (hres f' H')
  | pan v f' H' => exact fLeave_eq rfl
  | _ => rfl

theorem fCallB_eq {P : Program} {ex : Code → Fr → AHeap → Res} : CallSame (fCallB P ex) (callB P fun c f H => (ex c f H).toR) := by
  intro g args H kp kr
  have : fCallB P ex g args H kp kr = ofC kp kr (callB P (fun c f H => (ex c f H).toR) g args H) := by
    unfold fCallB callB
    cases P.funcs[g]? with
    | none => rfl
    | some fn =>
      rw [ofO_some]
      dsimp only
      cases bodyOf fn with
      | none => rfl
      | some c => rw [ofO_some]; exact fBody_eq fn c args H kp kr
  rw [this]
  rcases callB P (fun c f H => (ex c f H).toR) g args H with _ | ⟨_ | _, _⟩ <;> rfl

theorem fCall_eq {P : Program} {ex : Code → Fr → AHeap → Res} : CallSame (fCall P ex) (callX P fun c f H => (ex c f H).toR) := by
  intro g args H kp kr
  unfold fCall callX
  cases hp : primAt P g with
  | none => exact fCallB_eq g args H kp kr
  | some p =>
    show ofO (primA P p args H) (fun x => Prod.rec (motive := fun _ => Res) (fun v H' => fV v fun v => kr v H') x) = _
    dsimp only
    cases primA P p args H with
    | none => rfl
    | some x => obtain ⟨v, H1⟩ := x; rw [ofO_some]; dsimp only; rw [fV_eq]

theorem fexec_eq (P : Program) : ∀ (k : Nat) (c : Code) (f : Fr) (H : AHeap), (fexec P k c f H).toR = exec P k c f H
  | 0, c, f, H => by rw [exec]; rfl
  | k + 1, c, f, H => by
    have ih := fexec_eq P k
    cases c with
    | skip => simp only [exec]; rfl
    | label _ => simp only [exec]; rfl
    | ret => simp only [exec]; rfl
    | exit id => simp only [exec]; rfl
    | seq a b =>
      show (fThen (fexec P k a f H) (fexec P k b)).toR = _
      simp only [exec]
      rw [← ih a f H]
      cases fexec P k a f H with
      | nrm f' H' => exact ih b f' H'
      | _ => rfl
    | cond c a b =>
      show (fE c f fun c => asBool c .no fun t => Bool.rec (motive := fun _ => Res) (fexec P k b f H) (fexec P k a f H) t).toR = _
      rw [fE_eq]; simp only [exec]
      cases evO f c with
      | none => rfl
      | some v => cases v with
        | bool t => cases t
                    · exact ih b f H
                    · exact ih a f H
        | _ => rfl
    | block id c =>
      show (fBlock id (fexec P k c f H)).toR = _
      simp only [exec]
      rw [← ih c f H]
      cases fexec P k c f H with
      | ext i f' H' =>
        show (Bool.rec (motive := fun _ => Res) (.ext i f' H') (.nrm f' H') (Nat.beq i id) : Res).toR = bif Nat.beq i id then _ else _
        cases Nat.beq i id <;> rfl
      | _ => rfl
    | loop c =>
      show (fThen (fexec P k c f H) (fexec P k (.loop c))).toR = _
      simp only [exec]
      rw [← ih c f H]
      cases fexec P k c f H with
      | nrm f' H' => exact ih (.loop c) f' H'
      | _ => rfl
    | scope c => simp only [exec]; exact ih c f H
    | region id ops draw =>
      have hf : (fun c f H => (fexec P k c f H).toR) = exec P k := by funext c f H; exact ih c f H
      show (Option.rec (motive := fun _ => Res) (Bool.rec (motive := fun _ => Res) (fRunQ P (fCall P (fexec P k)) ops ops.toList f H) (fRun P (fCall P (fexec P k)) ops true ops.toList 0 f H []) draw) (fun d => fDefer P (fexec P k) ops draw f H d) (lastDefer ops.toList) : Res).toR = _
      simp only [exec]
      cases lastDefer ops.toList with
      | none =>
        have hc := fCall_eq (P := P) (ex := fexec P k)
        rw [hf] at hc
        cases draw with
        | true => exact fRun_eq hc ops true ops.toList 0 f H []
        | false => exact fRunQ_eq hc ops ops.toList 0 f H []
      | some d =>
        obtain ⟨pre, o, c⟩ := d
        show (fDefer P (fexec P k) ops draw f H (pre, o, c)).toR = _
        unfold fDefer
        rw [toR_ofR, hf]
        dsimp only
        cases draw with
        | true => rfl
        | false =>
          simp only [cond_false]
          rcases runOps P (callX P (exec P k)) ops pre 0 f H [] with _ | ⟨f', H', tr⟩ | ⟨v, f', H'⟩
          · rfl
          · dsimp only
            rcases deferA f' c with _ | d <;> rcases f'.put o.dst undef with _ | f'' <;> rfl
          · rfl
    | _ => simp only [exec]; rfl

theorem callTH_true {P : Program} {k : Nat} {g : FuncId} {args : List Value} {H : AHeap} (h : callTH P k g args H = true) : isTrue (callA P k g args H) = true := by
  have hf : (fun c f H => (fexec P k c f H).toR) = exec P k := by funext c f H; exact fexec_eq P k c f H
  have hc := fCall_eq (P := P) (ex := fexec P k) g args H (fun _ _ => .no) (fun v H => .pan v ⟨.nil, 0, [], 0⟩ H)
  rw [hf] at hc
  unfold callTH at h
  rw [hc] at h
  revert h
  show isTrueF (match callA P k g args H with | some (.ret v, H') => .pan v ⟨.nil, 0, [], 0⟩ H' | some (.panic v, H') => .no | none => .no) = true → _
  cases callA P k g args H with
  | none => intro h; cases h
  | some x =>
    obtain ⟨r, H'⟩ := x
    cases r with
    | ret v => cases v <;> intro h <;> first | exact h | cases h
    | panic v => intro h; cases h
theorem callT_true {P : Program} {k : Nat} {g : FuncId} (h : callT P k g = true) : isTrue (callA P k g [] H0) = true := callTH_true h
end Go.AX
