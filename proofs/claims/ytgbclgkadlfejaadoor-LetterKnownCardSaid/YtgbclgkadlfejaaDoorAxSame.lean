/- The fast form of the executor is the executor. -/
import Derived.Test.YtgbclgkadlfejaaDoorAxFast
import Derived.Test.YtgbclgkadlfejaaDoorAxTr
namespace Go.AX
open Go
set_option linter.unusedVariables false
set_option linter.unusedSimpArgs false

/-! ### forcing changes nothing -/
@[simp] theorem fN_eq {r : Type} (n : Nat) (k : Nat → r) : fN n k = k n := by cases n <;> rfl
@[simp] theorem fI_eq {r : Type} (i : Int) (k : Int → r) : fI i k = k i := by
  cases i with
  | ofNat n => exact fN_eq n fun n => k (Int.ofNat n)
  | negSucc n => exact fN_eq n fun n => k (Int.negSucc n)
@[simp] theorem fB_eq {r : Type} (b : Bool) (k : Bool → r) : fB b k = k b := by cases b <;> rfl
@[simp] theorem fS_eq {r : Type} (s : Option Nat) (k : Option Nat → r) : fS s k = k s := by
  cases s with
  | none => rfl
  | some n => exact fN_eq n fun n => k (some n)
@[simp] theorem fA_eq {r : Type} (a : Option Addr) (k : Option Addr → r) : fA a k = k a := by
  cases a with
  | none => rfl
  | some a => show fN a.block (fun b => fN a.off fun o => fS a.spot fun s => k (some ⟨b, o, s⟩)) = _; simp only [fN_eq, fS_eq]
@[simp] theorem fV_eq {r : Type} (v : Value) (k : Value → r) : fV v k = k v := by
  cases v with
  | bool b => exact fB_eq b fun b => k (.bool b)
  | int d n => exact fI_eq n fun n => k (.int d n)
  | pointer a => exact fA_eq a fun a => k (.pointer a)
  | slice a l c => show fA a (fun a => fN l fun l => fN c fun c => k (.slice a l c)) = _; simp only [fN_eq, fA_eq]
  | map r => exact fS_eq r fun r => k (.map r)
  | _ => rfl

/-! ### operands and memory -/
theorem ofO_none {α : Type} (k : α → Res) : ofO none k = .no := rfl
theorem ofO_some {α : Type} (x : α) (k : α → Res) : ofO (some x) k = k x := rfl
theorem fE_eq (x : Operand) (f : Fr) (k : Value → Res) : fE x f k = ofO (evO f x) k := by
  cases x with
  | tmp t =>
    show Option.rec (motive := fun _ => Res) (k undef) (fun v => k v) ((slot t).get f.tmps) = k ((f.tmps.get t).getD undef)
    rw [slot_get]; cases f.tmps.get t <;> rfl
  | const v =>
    show Bool.rec (motive := fun _ => Res) .no (fV v k) (plainV 9 v) = ofO (bif plainV 9 v then some v else none) k
    rw [fV_eq]
    cases plainV 9 v <;> rfl
  | global g =>
    show Bool.rec (motive := fun _ => Res) .no (k (.pointer (some ⟨Nat.succ g, 0, none⟩))) (Nat.blt g f.glob) = ofO (bif Nat.blt g f.glob then some (.pointer (some ⟨g + 1, 0, none⟩)) else none) k
    cases Nat.blt g f.glob <;> rfl
  | _ => rfl
theorem fL_eq (f : Fr) : ∀ (xs : List Operand) (k : List Value → Res), fL xs f k = ofO (evL f xs) k
  | [], k => rfl
  | x :: xs, k => by
    show fE x f (fun v => fL xs f fun vs => k (v :: vs)) = _
    rw [fE_eq]; simp only [evL]
    cases evO f x with
    | none => rfl
    | some v => rw [ofO_some, fL_eq f xs]; cases evL f xs <;> rfl
theorem putK_eq (f : Fr) (d : Option Tmp) (v : Value) (k : Fr → Res) : putK f d v k = ofO (f.put d v) k := by
  cases d with
  | none => rfl
  | some d =>
    obtain ⟨t, n, ds, gl⟩ := f
    show Bool.rec (motive := fun _ => Res) ((slot d).set t v fun t => k ⟨t, n, ds, gl⟩) .no (Nat.ble n d) = ofO (bif Nat.blt d n then some ⟨t.set d v, n, ds, gl⟩ else none) k
    have hb : Nat.blt d n = !(Nat.ble n d) := by
      rw [Bool.eq_iff_iff]
      simp [Nat.blt_eq]
      rw [← Bool.not_eq_true, Nat.ble_eq]; omega
    rw [slot_set, hb]; cases Nat.ble n d <;> rfl
theorem setH_eq (H : AHeap) (b : Nat) (o : AObj) (k : AHeap → Res) : setH H b o k = k (H.set b o) := by
  obtain ⟨t, n⟩ := H; exact slot_set b t o fun t => k ⟨t, n⟩
theorem pushH_eq (H : AHeap) (o : AObj) (k : Nat → AHeap → Res) : pushH H o k = k H.next (H.push o) := by
  obtain ⟨t, n⟩ := H
  show fN n (fun n => (slot n).set t o fun t => k n ⟨t, Nat.succ n⟩) = _
  rw [fN_eq, slot_set]; rfl
theorem objK_eq (H : AHeap) (b : Nat) (k : List Value → Nat → Bool → Res) : objK H b k = (match H.get b with | some (.cells cs e own) => k cs e own | _ => .no) := by
  unfold objK; rw [slot_get]; unfold AHeap.get
  rcases H.objs.get b with _ | o
  · rfl
  · cases o <;> rfl
theorem nthR_eq : ∀ (l : List Value) (n : Nat), nthR l n = (match takeN 1 (dropN n l) with | some [v] => some v | _ => none)
  | [], 0 => rfl
  | [], n + 1 => rfl
  | v :: r, 0 => rfl
  | v :: r, n + 1 => nthR_eq r n
theorem putR_eq : ∀ (l : List Value) (o : Nat) (v : Value) (k : List Value → Res), putR l o v k = ofO (putAt l o [v]) k
  | [], o, v, k => by cases o <;> rfl
  | c :: r, 0, v, k => by cases r <;> rfl
  | c :: r, o + 1, v, k => by
    show putR r o v (fun r' => k (c :: r')) = _
    rw [putR_eq r o v]; simp only [putAt]; cases putAt r o [v] <;> rfl

theorem tlR_eq (l : List Value) : tlR l = l.drop 1 := by cases l <;> rfl
theorem hdR_eq (l : List Value) : hdR l = l[0]? := by cases l <;> rfl
theorem nthR_get : ∀ (l : List Value) (n : Nat), nthR l n = l[n]?
  | [], 0 => rfl
  | [], n + 1 => rfl
  | v :: r, 0 => rfl
  | v :: r, n + 1 => by
    show nthR r n = _
    rw [nthR_get r n]; simp
theorem dr2_eq (l : List Value) : dr2 l = l.drop 2 := by unfold dr2; simp only [tlR_eq, List.drop_drop]
theorem dr4_eq (l : List Value) : dr4 l = l.drop 4 := by unfold dr4; simp only [dr2_eq, List.drop_drop]
theorem dr8_eq (l : List Value) : dr8 l = l.drop 8 := by unfold dr8; simp only [dr4_eq, List.drop_drop]
theorem dr16_eq (l : List Value) : dr16 l = l.drop 16 := by unfold dr16; simp only [dr8_eq, List.drop_drop]
theorem dr32_eq (l : List Value) : dr32 l = l.drop 32 := by unfold dr32; simp only [dr16_eq, List.drop_drop]
theorem dr64_eq (l : List Value) : dr64 l = l.drop 64 := by unfold dr64; simp only [dr32_eq, List.drop_drop]
theorem dr128_eq (l : List Value) : dr128 l = l.drop 128 := by unfold dr128; simp only [dr64_eq, List.drop_drop]
theorem dr256_eq (l : List Value) : dr256 l = l.drop 256 := by unfold dr256; simp only [dr128_eq, List.drop_drop]
theorem dr512_eq (l : List Value) : dr512 l = l.drop 512 := by unfold dr512; simp only [dr256_eq, List.drop_drop]
theorem stB_eq {d : List Value → List Value} {K n : Nat} {l : List Value} {k : Nat → List Value → Res} {g : Option Value → Res} (hd : ∀ l, d l = l.drop K) (hk : ∀ n l, k n l = g l[n]?) : stB d K n l k = g l[n]? := by
  unfold stB
  cases h : Nat.ble K n with
  | false => exact hk n l
  | true =>
    show fN (Nat.sub n K) (fun n => k n (d l)) = _
    have hK : K ≤ n := Nat.le_of_ble_eq_true h
    rw [fN_eq, hk, hd, List.getElem?_drop]
    congr 2
    show K + (n - K) = n
    omega
theorem lastB_eq (n : Nat) (l : List Value) (k : Option Value → Res) : lastB n l k = k l[n]? := by
  cases n with
  | zero => show k (hdR l) = _; rw [hdR_eq]
  | succ n => show k (nthR l (n + 1)) = _; rw [nthR_get]
theorem midB_eq (n : Nat) (l : List Value) (k : Option Value → Res) : midB n l k = k l[n]? :=
  stB_eq dr8_eq fun n l => stB_eq dr4_eq fun n l => stB_eq dr2_eq fun n l => stB_eq tlR_eq fun n l => lastB_eq n l k
theorem farB_eq (n : Nat) (l : List Value) (k : Option Value → Res) : farB n l k = k l[n]? :=
  stB_eq dr512_eq fun n l => stB_eq dr256_eq fun n l => stB_eq dr128_eq fun n l => stB_eq dr64_eq fun n l => stB_eq dr32_eq fun n l => stB_eq dr16_eq fun n l => midB_eq n l k
theorem nthB_eq (l : List Value) (n : Nat) (k : Option Value → Res) : nthB l n k = k (nthR l n) := by
  unfold nthB
  rw [midB_eq, farB_eq, nthR_get]
  cases Nat.ble 6 n with
  | false => rfl
  | true => cases Nat.ble 16 n <;> rfl
theorem appR_eq (new : List Value) (bad : Res) : ∀ (cs : List Value) (n : Nat) (k : List Value → Res), appR cs new n bad k = if cs.length = n then k (cs ++ new) else bad
  | [], 0, k => rfl
  | [], n + 1, k => by rw [if_neg (by simp)]; rfl
  | c :: r, 0, k => by rw [if_neg (by simp)]; rfl
  | c :: r, n + 1, k => by
    show appR r new n bad (fun r => k (c :: r)) = _
    rw [appR_eq new bad r n]
    by_cases h : r.length = n
    · rw [if_pos h, if_pos (by simp [h])]; rfl
    · rw [if_neg h, if_neg (by simp [h])]

/-! ### numbers -/
theorem kMax_eq (d : IntKind) : (kMax d : Int) = d.max := by cases d <;> decide
theorem wrap_nat {d : IntKind} {n : Nat} (h : n ≤ kMax d) : d.wrap (Int.ofNat n) = Int.ofNat n := by
  have hm := kMax_eq d
  have h2 : (n : Int) ≤ (kMax d : Int) := by omega
  show d.wrap (n : Int) = (n : Int)
  cases d <;> simp only [kMax] at h2 <;> simp [IntKind.wrap, IntKind.bits, IntKind.signed] <;> omega
theorem kIdx_eq {d d' : IntKind} (h : Nat.beq (kIdx d) (kIdx d') = true) : d = d' := by
  have := Nat.eq_of_beq_eq_true h
  cases d <;> cases d' <;> first | rfl | (simp [kIdx] at this)
theorem qN_eq {d : IntKind} {n : Nat} {x : Int} {slow : Res} {k : Value → Res} (hx : x = Int.ofNat n) (hs : slow = k (.int d (d.wrap x))) : qN d n slow k = slow := by
  unfold qN
  cases h : Nat.ble n (kMax d) with
  | false => rfl
  | true =>
    show fN n (fun n => k (.int d (Int.ofNat n))) = slow
    rw [fN_eq, hs, hx, wrap_nat (Nat.le_of_ble_eq_true h)]
theorem dec_beq (a b : Nat) : ((Int.ofNat a == Int.ofNat b) : Bool) = Nat.beq a b := by
  rw [Bool.eq_iff_iff, beq_iff_eq, Nat.beq_eq]; exact Int.ofNat_inj
theorem dec_blt (a b : Nat) : (decide (Int.ofNat a < Int.ofNat b) : Bool) = Nat.blt a b := by
  rw [Bool.eq_iff_iff]; simp [Nat.blt_eq]
theorem dec_ble (a b : Nat) : (decide (Int.ofNat a ≤ Int.ofNat b) : Bool) = Nat.ble a b := by
  rw [Bool.eq_iff_iff]; simp [Nat.ble_eq]
theorem aBin_int (P : Program) (op : BinOp) (t : TypeId) (cx cy : Bool) (d : IntKind) (i j : Int) : aBin P op t cx cy (.int d i) (.int d j) = bif isShift op then aShift op d i j else aInt op d i j := by simp [aBin]
theorem fNat_eq (P : Program) (op : BinOp) (t : TypeId) (cx cy : Bool) (d : IntKind) (a b : Nat) (k : Value → Res) :
    fNat op d a b (ofO (aBin P op t cx cy (.int d (Int.ofNat a)) (.int d (Int.ofNat b))) k) k = ofO (aBin P op t cx cy (.int d (Int.ofNat a)) (.int d (Int.ofNat b))) k := by
  cases op with
  | add => exact qN_eq (x := Int.ofNat a + Int.ofNat b) rfl (by simp [aBin, isShift, aInt, ofO])
  | mul => exact qN_eq (x := Int.ofNat a * Int.ofNat b) rfl (by simp [aBin, isShift, aInt, ofO])
  | sub =>
    show Bool.rec (motive := fun _ => Res) _ (qN d (Nat.sub a b) _ k) (Nat.ble b a) = _
    cases h : Nat.ble b a with
    | false => rfl
    | true =>
      refine qN_eq (x := Int.ofNat a - Int.ofNat b) ?_ (by simp [aBin, isShift, aInt, ofO])
      have := Nat.le_of_ble_eq_true h
      show (a : Int) - (b : Int) = ((a - b : Nat) : Int); omega
  | rem =>
    show Bool.rec (motive := fun _ => Res) (fN (Nat.mod a b) fun n => k (.int d (Int.ofNat n))) _ (Nat.beq b 0) = _
    cases h : Nat.beq b 0 with
    | true => rfl
    | false =>
      have hb : ¬ (Int.ofNat b = 0) := by
        intro e; have : b = 0 := by simpa using e
        subst this; simp at h
      show fN (Nat.mod a b) (fun n => k (.int d (Int.ofNat n))) = _
      rw [fN_eq, aBin_int]; show _ = ofO (if Int.ofNat b = 0 then none else some (.int d ((Int.ofNat a).tmod (Int.ofNat b)))) k; rw [if_neg hb]; rfl
  | eql => rw [aBin_int]; show qB (Nat.beq a b) k = k (.bool (Int.ofNat a == Int.ofNat b)); unfold qB; rw [dec_beq, fB_eq]
  | neq => rw [aBin_int]; show qB (!(Nat.beq a b)) k = k (.bool (Int.ofNat a != Int.ofNat b)); unfold qB; rw [bne, dec_beq, fB_eq]
  | lss => rw [aBin_int]; show qB (Nat.blt a b) k = k (.bool (decide (Int.ofNat a < Int.ofNat b))); unfold qB; rw [dec_blt, fB_eq]
  | leq => rw [aBin_int]; show qB (Nat.ble a b) k = k (.bool (decide (Int.ofNat a ≤ Int.ofNat b))); unfold qB; rw [dec_ble, fB_eq]
  | gtr => rw [aBin_int]; show qB (Nat.blt b a) k = k (.bool (decide (Int.ofNat b < Int.ofNat a))); unfold qB; rw [dec_blt, fB_eq]
  | geq => rw [aBin_int]; show qB (Nat.ble b a) k = k (.bool (decide (Int.ofNat b ≤ Int.ofNat a))); unfold qB; rw [dec_ble, fB_eq]
  | _ => rfl
theorem fBin_eq (P : Program) (op : BinOp) (t : TypeId) (cx cy : Bool) (x y : Value) (k : Value → Res) : fBin P op t cx cy x y k = ofO (aBin P op t cx cy x y) k := by
  unfold fBin
  simp only [fV_eq]
  cases x with
  | int d i => cases y with
    | int d' j =>
      show fInt op d i d' j _ k = _
      unfold fInt
      cases h : Nat.beq (kIdx d) (kIdx d') with
      | false => rfl
      | true =>
        have := kIdx_eq h; subst this
        cases i with
        | negSucc _ => rfl
        | ofNat a => cases j with
          | negSucc _ => rfl
          | ofNat b => exact fNat_eq P op t cx cy d a b k
    | _ => rfl
  | _ => rfl
end Go.AX
