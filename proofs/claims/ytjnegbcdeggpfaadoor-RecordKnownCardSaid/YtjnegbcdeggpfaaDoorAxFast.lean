/- The executor once more, in the form that the kernel runs best: recursors with closed branches, each value forced before it is kept. That it is the same is proved in the next texts. -/
import Derived.Test.YtjnegbcdeggpfaaDoorAxExec
namespace Go.AX
open Go
set_option linter.unusedVariables false
noncomputable section

inductive Res where
  | nrm (f : Fr) (H : AHeap)
  | ext (id : Nat) (f : Fr) (H : AHeap)
  | ret (f : Fr) (H : AHeap)
  | pan (v : Value) (f : Fr) (H : AHeap)
  | no

/-! ### forcing -/
def fN {r : Type} (n : Nat) (k : Nat → r) : r := Nat.rec (motive := fun _ => r) (k 0) (fun m _ => k (Nat.succ m)) n
def fI {r : Type} (i : Int) (k : Int → r) : r := Int.rec (motive := fun _ => r) (fun n => fN n fun n => k (Int.ofNat n)) (fun n => fN n fun n => k (Int.negSucc n)) i
def fB {r : Type} (b : Bool) (k : Bool → r) : r := Bool.rec (motive := fun _ => r) (k false) (k true) b
def fS {r : Type} (s : Option Nat) (k : Option Nat → r) : r := Option.rec (motive := fun _ => r) (k none) (fun n => fN n fun n => k (some n)) s
def fA {r : Type} (a : Option Addr) (k : Option Addr → r) : r :=
  Option.rec (motive := fun _ => r) (k none) (fun a => fN a.block fun b => fN a.off fun o => fS a.spot fun s => k (some ⟨b, o, s⟩)) a
def fV {r : Type} (v : Value) (k : Value → r) : r :=
  Value.rec (motive_1 := fun _ => (Value → r) → r) (motive_2 := fun _ => Unit) (motive_3 := fun _ => Unit)
    (fun b k => fB b fun b => k (.bool b)) (fun d n k => fI n fun n => k (.int d n)) (fun d b k => k (.float d b)) (fun d a b k => k (.complex d a b)) (fun s k => k (.string s))
    (fun a k => fA a fun a => k (.pointer a)) (fun a l c k => fA a fun a => fN l fun l => fN c fun c => k (.slice a l c))
    (fun r k => fS r fun r => k (.map r)) (fun r k => k (.chan r)) (fun g a b _ _ k => k (.func g a b)) (fun k => k .nilFunc) (fun t v _ k => k (.iface t v)) (fun k => k .nilIface)
    (fun c _ k => k (.agg c)) (fun c _ k => k (.tuple c)) (fun _ _ => ()) () (fun _ _ _ _ => ()) v k

/-! ### taking a value apart -/
def asPtr {r : Type} (v : Value) (no : r) (k : Nat → Nat → r) : r :=
  Value.rec (motive_1 := fun _ => r → (Nat → Nat → r) → r) (motive_2 := fun _ => Unit) (motive_3 := fun _ => Unit)
    (fun _ n _ => n) (fun _ _ n _ => n) (fun _ _ n _ => n) (fun _ _ _ n _ => n) (fun _ n _ => n)
    (fun a n k => Option.rec (motive := fun _ => r) n (fun a => Option.rec (motive := fun _ => r) (k a.block a.off) (fun _ => n) a.spot) a)
    (fun _ _ _ n _ => n) (fun _ n _ => n) (fun _ n _ => n) (fun _ _ _ _ _ n _ => n) (fun n _ => n) (fun _ _ _ n _ => n) (fun n _ => n)
    (fun _ _ n _ => n) (fun _ _ n _ => n) (fun _ _ => ()) () (fun _ _ _ _ => ()) v no k
def asSli {r : Type} (v : Value) (no : r) (k : Option Addr → Nat → Nat → r) : r :=
  Value.rec (motive_1 := fun _ => r → (Option Addr → Nat → Nat → r) → r) (motive_2 := fun _ => Unit) (motive_3 := fun _ => Unit)
    (fun _ n _ => n) (fun _ _ n _ => n) (fun _ _ n _ => n) (fun _ _ _ n _ => n) (fun _ n _ => n)
    (fun _ n _ => n) (fun a l c _ k => k a l c) (fun _ n _ => n) (fun _ n _ => n) (fun _ _ _ _ _ n _ => n) (fun n _ => n) (fun _ _ _ n _ => n) (fun n _ => n)
    (fun _ _ n _ => n) (fun _ _ n _ => n) (fun _ _ => ()) () (fun _ _ _ _ => ()) v no k
def asInt {r : Type} (v : Value) (no : r) (k : IntKind → Int → r) : r :=
  Value.rec (motive_1 := fun _ => r → (IntKind → Int → r) → r) (motive_2 := fun _ => Unit) (motive_3 := fun _ => Unit)
    (fun _ n _ => n) (fun d i _ k => k d i) (fun _ _ n _ => n) (fun _ _ _ n _ => n) (fun _ n _ => n)
    (fun _ n _ => n) (fun _ _ _ n _ => n) (fun _ n _ => n) (fun _ n _ => n) (fun _ _ _ _ _ n _ => n) (fun n _ => n) (fun _ _ _ n _ => n) (fun n _ => n)
    (fun _ _ n _ => n) (fun _ _ n _ => n) (fun _ _ => ()) () (fun _ _ _ _ => ()) v no k
def asBool {r : Type} (v : Value) (no : r) (k : Bool → r) : r :=
  Value.rec (motive_1 := fun _ => r → (Bool → r) → r) (motive_2 := fun _ => Unit) (motive_3 := fun _ => Unit)
    (fun b _ k => k b) (fun _ _ n _ => n) (fun _ _ n _ => n) (fun _ _ _ n _ => n) (fun _ n _ => n)
    (fun _ n _ => n) (fun _ _ _ n _ => n) (fun _ n _ => n) (fun _ n _ => n) (fun _ _ _ _ _ n _ => n) (fun n _ => n) (fun _ _ _ n _ => n) (fun n _ => n)
    (fun _ _ n _ => n) (fun _ _ n _ => n) (fun _ _ => ()) () (fun _ _ _ _ => ()) v no k
def asFun {r : Type} (v : Value) (no : r) (k : FuncId → Array Value → Array Value → r) : r :=
  Value.rec (motive_1 := fun _ => r → (FuncId → Array Value → Array Value → r) → r) (motive_2 := fun _ => Unit) (motive_3 := fun _ => Unit)
    (fun _ n _ => n) (fun _ _ n _ => n) (fun _ _ n _ => n) (fun _ _ _ n _ => n) (fun _ n _ => n)
    (fun _ n _ => n) (fun _ _ _ n _ => n) (fun _ n _ => n) (fun _ n _ => n) (fun g a b _ _ n k => match g with | .func g => k g a b | _ => n) (fun n _ => n) (fun _ _ _ n _ => n) (fun n _ => n)
    (fun _ _ n _ => n) (fun _ _ n _ => n) (fun _ _ => ()) () (fun _ _ _ _ => ()) v no k
def asTup {r : Type} (v : Value) (no : r) (k : Array Value → r) : r :=
  Value.rec (motive_1 := fun _ => r → (Array Value → r) → r) (motive_2 := fun _ => Unit) (motive_3 := fun _ => Unit)
    (fun _ n _ => n) (fun _ _ n _ => n) (fun _ _ n _ => n) (fun _ _ _ n _ => n) (fun _ n _ => n)
    (fun _ n _ => n) (fun _ _ _ n _ => n) (fun _ n _ => n) (fun _ n _ => n) (fun _ _ _ _ _ n _ => n) (fun n _ => n) (fun _ _ _ n _ => n) (fun n _ => n)
    (fun _ _ n _ => n) (fun c _ _ k => k c) (fun _ _ => ()) () (fun _ _ _ _ => ()) v no k
def asAgg {r : Type} (v : Value) (no : r) (k : Array Value → r) : r :=
  Value.rec (motive_1 := fun _ => r → (Array Value → r) → r) (motive_2 := fun _ => Unit) (motive_3 := fun _ => Unit)
    (fun _ n _ => n) (fun _ _ n _ => n) (fun _ _ n _ => n) (fun _ _ _ n _ => n) (fun _ n _ => n)
    (fun _ n _ => n) (fun _ _ _ n _ => n) (fun _ n _ => n) (fun _ n _ => n) (fun _ _ _ _ _ n _ => n) (fun n _ => n) (fun _ _ _ n _ => n) (fun n _ => n)
    (fun c _ _ k => k c) (fun _ _ n _ => n) (fun _ _ => ()) () (fun _ _ _ _ => ()) v no k
def asStr {r : Type} (v : Value) (no : r) (k : ByteArray → r) : r :=
  Value.rec (motive_1 := fun _ => r → (ByteArray → r) → r) (motive_2 := fun _ => Unit) (motive_3 := fun _ => Unit)
    (fun _ n _ => n) (fun _ _ n _ => n) (fun _ _ n _ => n) (fun _ _ _ n _ => n) (fun s _ k => k s)
    (fun _ n _ => n) (fun _ _ _ n _ => n) (fun _ n _ => n) (fun _ n _ => n) (fun _ _ _ _ _ n _ => n) (fun n _ => n) (fun _ _ _ n _ => n) (fun n _ => n)
    (fun _ _ n _ => n) (fun _ _ n _ => n) (fun _ _ => ()) () (fun _ _ _ _ => ()) v no k
def asMap {r : Type} (v : Value) (no : r) (k : Option Nat → r) : r :=
  Value.rec (motive_1 := fun _ => r → (Option Nat → r) → r) (motive_2 := fun _ => Unit) (motive_3 := fun _ => Unit)
    (fun _ n _ => n) (fun _ _ n _ => n) (fun _ _ n _ => n) (fun _ _ _ n _ => n) (fun _ n _ => n)
    (fun _ n _ => n) (fun _ _ _ n _ => n) (fun m _ k => k m) (fun _ n _ => n) (fun _ _ _ _ _ n _ => n) (fun n _ => n) (fun _ _ _ n _ => n) (fun n _ => n)
    (fun _ _ n _ => n) (fun _ _ n _ => n) (fun _ _ => ()) () (fun _ _ _ _ => ()) v no k
def isOne (v : Value) : Bool :=
  Value.rec (motive_1 := fun _ => Bool) (motive_2 := fun _ => Unit) (motive_3 := fun _ => Unit)
    (fun _ => true) (fun _ _ => true) (fun _ _ => true) (fun _ _ _ => true) (fun _ => true)
    (fun _ => true) (fun _ _ _ => true) (fun _ => true) (fun _ => true) (fun _ _ _ _ _ => true) true (fun _ _ _ => true) true
    (fun _ _ => false) (fun _ _ => false) (fun _ _ => ()) () (fun _ _ _ _ => ()) v

/-! ### operands -/
def fE (x : Operand) (f : Fr) (k : Value → Res) : Res :=
  Operand.rec (motive := fun _ => Fr → (Value → Res) → Res)
    (fun t f k => Option.rec (motive := fun _ => Res) (k undef) (fun v => k v) ((slot (r := Unit) t).get f.tmps))
    (fun v _ k => Bool.rec (motive := fun _ => Res) .no (fV v k) (plainV 9 v))
    (fun g f k => Bool.rec (motive := fun _ => Res) .no (k (.pointer (some ⟨Nat.succ g, 0, none⟩))) (Nat.blt g f.glob)) (fun g _ k => k (.func (.func g) #[] #[])) x f k
def fL (xs : List Operand) (f : Fr) (k : List Value → Res) : Res :=
  List.rec (motive := fun _ => Fr → (List Value → Res) → Res) (fun _ k => k []) (fun x _ ih f k => fE x f fun v => ih f fun vs => k (v :: vs)) xs f k
def ofO {α : Type} (o : Option α) (k : α → Res) : Res := Option.rec (motive := fun _ => Res) .no k o
abbrev KV := Value → AHeap → Ev → Res
def ofOut (o : Option Out) (kp : Value → AHeap → Res) (k : KV) : Res :=
  Option.rec (motive := fun _ => Res) .no (fun o => Out.rec (motive := fun _ => Res) k kp o) o
def putK (f : Fr) (d : Option Tmp) (v : Value) (k : Fr → Res) : Res :=
  Option.rec (motive := fun _ => Res) (k f) (fun d => Fr.rec (motive := fun _ => Res) (fun t n ds gl => Bool.rec (motive := fun _ => Res) ((slot d).set t v fun t => k ⟨t, n, ds, gl⟩) .no (Nat.ble n d)) f) d
def setH (H : AHeap) (b : Nat) (o : AObj) (k : AHeap → Res) : Res :=
  AHeap.rec (motive := fun _ => Res) (fun t n => (slot b).set t o fun t => k ⟨t, n⟩) H
def pushH (H : AHeap) (o : AObj) (k : Nat → AHeap → Res) : Res :=
  AHeap.rec (motive := fun _ => Res) (fun t n => fN n fun n => (slot n).set t o fun t => k n ⟨t, Nat.succ n⟩) H
def objK (H : AHeap) (b : Nat) (k : List Value → Nat → Bool → Res) : Res :=
  Option.rec (motive := fun _ => Res) .no (fun o => AObj.rec (motive := fun _ => (List Value → Nat → Bool → Res) → Res) (fun cs e own k => k cs e own) (fun _ _ => .no) (fun _ => .no) (fun _ _ => .no) (fun _ _ _ => .no) o k) ((slot (r := Unit) b).get H.objs)
def nthR (l : List Value) (n : Nat) : Option Value :=
  List.rec (motive := fun _ => Nat → Option Value) (fun _ => none) (fun v _ ih n => Nat.rec (motive := fun _ => Option Value) (some v) (fun m _ => ih m) n) l n
/-- Far into a list: by halves, so that what was gone over is known. -/
def tlR (l : List Value) : List Value := List.rec (motive := fun _ => List Value) [] (fun _ t _ => t) l
def hdR (l : List Value) : Option Value := List.rec (motive := fun _ => Option Value) none (fun v _ _ => some v) l
def dr2 (l : List Value) : List Value := tlR (tlR l)
def dr4 (l : List Value) : List Value := dr2 (dr2 l)
def dr8 (l : List Value) : List Value := dr4 (dr4 l)
def dr16 (l : List Value) : List Value := dr8 (dr8 l)
def dr32 (l : List Value) : List Value := dr16 (dr16 l)
def dr64 (l : List Value) : List Value := dr32 (dr32 l)
def dr128 (l : List Value) : List Value := dr64 (dr64 l)
def dr256 (l : List Value) : List Value := dr128 (dr128 l)
def dr512 (l : List Value) : List Value := dr256 (dr256 l)
def stB (d : List Value → List Value) (K : Nat) (n : Nat) (l : List Value) (k : Nat → List Value → Res) : Res := Bool.rec (motive := fun _ => Res) (k n l) (fN (Nat.sub n K) fun n => k n (d l)) (Nat.ble K n)
def lastB (n : Nat) (l : List Value) (k : Option Value → Res) : Res := Nat.rec (motive := fun _ => Res) (k (hdR l)) (fun _ _ => k (nthR l n)) n
def midB (n : Nat) (l : List Value) (k : Option Value → Res) : Res := stB dr8 8 n l fun n l => stB dr4 4 n l fun n l => stB dr2 2 n l fun n l => stB tlR 1 n l fun n l => lastB n l k
def farB (n : Nat) (l : List Value) (k : Option Value → Res) : Res := stB dr512 512 n l fun n l => stB dr256 256 n l fun n l => stB dr128 128 n l fun n l => stB dr64 64 n l fun n l => stB dr32 32 n l fun n l => stB dr16 16 n l fun n l => midB n l k
def nthB (l : List Value) (n : Nat) (k : Option Value → Res) : Res := Bool.rec (motive := fun _ => Res) (k (nthR l n)) (Bool.rec (motive := fun _ => Res) (midB n l k) (farB n l k) (Nat.ble 16 n)) (Nat.ble 6 n)
/-- A list of just n, with more behind it. -/
def appR (cs new : List Value) (n : Nat) (bad : Res) (k : List Value → Res) : Res :=
  List.rec (motive := fun _ => Nat → (List Value → Res) → Res) (fun n k => Nat.rec (motive := fun _ => Res) (k new) (fun _ _ => bad) n)
    (fun c _ ih n k => Nat.rec (motive := fun _ => Res) bad (fun m _ => ih m fun r => k (c :: r)) n) cs n k
def putR (l : List Value) (o : Nat) (v : Value) (k : List Value → Res) : Res :=
  List.rec (motive := fun _ => Nat → (List Value → Res) → Res) (fun _ _ => .no)
    (fun c r ih o k => Nat.rec (motive := fun _ => Res) (k (v :: r)) (fun m _ => ih m fun r' => k (c :: r')) o) l o k

/-! ### numbers -/
def kIdx (d : IntKind) : Nat := IntKind.rec (motive := fun _ => Nat) 0 1 2 3 4 5 6 7 d
def kMax (d : IntKind) : Nat := IntKind.rec (motive := fun _ => Nat) 127 32767 2147483647 9223372036854775807 255 65535 4294967295 18446744073709551615 d
def qB (b : Bool) (k : Value → Res) : Res := fB b fun b => k (.bool b)
def qN (d : IntKind) (n : Nat) (slow : Res) (k : Value → Res) : Res := Bool.rec (motive := fun _ => Res) slow (fN n fun n => k (.int d (Int.ofNat n))) (Nat.ble n (kMax d))
def fNat (op : BinOp) (d : IntKind) (a b : Nat) (slow : Res) (k : Value → Res) : Res :=
  BinOp.rec (motive := fun _ => IntKind → Nat → Nat → Res → (Value → Res) → Res)
    (fun d a b slow k => qN d (Nat.add a b) slow k)
    (fun d a b slow k => Bool.rec (motive := fun _ => Res) slow (qN d (Nat.sub a b) slow k) (Nat.ble b a))
    (fun d a b slow k => qN d (Nat.mul a b) slow k)
    (fun _ _ _ slow _ => slow)
    (fun d a b slow k => Bool.rec (motive := fun _ => Res) (fN (Nat.mod a b) fun n => k (.int d (Int.ofNat n))) slow (Nat.beq b 0))
    (fun _ _ _ slow _ => slow)
    (fun _ _ _ slow _ => slow)
    (fun _ _ _ slow _ => slow)
    (fun _ _ _ slow _ => slow)
    (fun _ _ _ slow _ => slow)
    (fun _ _ _ slow _ => slow)
    (fun _ a b _ k => qB (Nat.beq a b) k)
    (fun _ a b _ k => qB (!(Nat.beq a b)) k)
    (fun _ a b _ k => qB (Nat.blt a b) k)
    (fun _ a b _ k => qB (Nat.ble a b) k)
    (fun _ a b _ k => qB (Nat.blt b a) k)
    (fun _ a b _ k => qB (Nat.ble b a) k)
    op d a b slow k
def fInt (op : BinOp) (d : IntKind) (x : Int) (d' : IntKind) (y : Int) (slow : Res) (k : Value → Res) : Res :=
  Bool.rec (motive := fun _ => Res) slow
    (Int.rec (motive := fun _ => Res) (fun a => Int.rec (motive := fun _ => Res) (fun b => fNat op d a b slow k) (fun _ => slow) y) (fun _ => slow) x)
    (Nat.beq (kIdx d) (kIdx d'))
def fBin (P : Program) (op : BinOp) (t : TypeId) (cx cy : Bool) (x y : Value) (k : Value → Res) : Res :=
  (fun slow => asInt x slow fun d a => asInt y slow fun d' b => fInt op d a d' b slow k) (ofO (aBin P op t cx cy x y) fun v => fV v k)

/-! ### what the types tell -/
def fldOff (P : Program) (s : TypeId) (j : Nat) : Option Nat :=
  match P.underlying s with
  | some (.struct fs) => match fs[j]? with
    | some f => match sizeT P f.type with
      | some (_ + 1) => some f.offset
      | _ => none
    | none => none
  | _ => none
inductive Ix where
  | arr (len n : Nat)
  | sli (n : Nat)
  | no
def ixOf (P : Program) (t : TypeId) : Ix :=
  match P.underlying t with
  | some (.array len e) => match sizeT P e with | some n => .arr len n | none => .no
  | some (.slice e) => match sizeT P e with | some n => .sli n | none => .no
  | _ => .no
def loadN (P : Program) (t : TypeId) : Option (Bool × Nat) :=
  match P.underlying t, sizeT P t with
  | some d, some n => some (isAggD d, n)
  | _, _ => none

def ixK (i : Value) (k : Nat → Res) : Res := asInt i .no fun _ i => Int.rec (motive := fun _ => Res) k (fun _ => .no) i
def fIxArr (len n : Nat) (x i : Value) (k : Value → Res) : Res :=
  asPtr x .no fun b o => ixK i fun i => Bool.rec (motive := fun _ => Res) .no (fN (Nat.add o (Nat.mul i n)) fun o => k (.pointer (some ⟨b, o, none⟩))) (Nat.blt i len)
def fIxSli (n : Nat) (x i : Value) (k : Value → Res) : Res :=
  asSli x .no fun a len cap => Option.rec (motive := fun _ => Res) .no (fun a => ixK i fun i =>
    Bool.rec (motive := fun _ => Res) .no (Bool.rec (motive := fun _ => Res) .no (fN (Nat.add a.off (Nat.mul i n)) fun o => k (.pointer (some ⟨a.block, o, none⟩))) (Nat.blt i len)) (Nat.ble len cap)) a
def fIxAddr (P : Program) (t : TypeId) (x i : Value) (k : Value → Res) : Res :=
  Ix.rec (motive := fun _ => Value → Value → (Value → Res) → Res) fIxArr fIxSli (fun _ _ _ => .no) (ixOf P t) x i k
def fLoad1 (H : AHeap) (b o : Nat) (k : KV) : Res := objK H b fun cs _ _ => nthB cs o fun x => Option.rec (motive := fun _ => Res) .no (fun v => k v H (.look b o 1)) x
def fLoadN (H : AHeap) (b o n : Nat) (k : KV) : Res := ofO (cellsAt H b o n) fun l => k (.agg l.toArray) H (.look b o n)
def fLoad (P : Program) (H : AHeap) (t : TypeId) (a : Value) (k : KV) : Res :=
  ofO (loadN P t) fun p => asPtr a .no fun b o => Bool.rec (motive := fun _ => Res) (fLoad1 H b o k) (fLoadN H b o p.2 k) p.1
def fStore1 (H : AHeap) (b o : Nat) (v : Value) (k : KV) : Res :=
  objK H b fun cs e own => Bool.rec (motive := fun _ => Res) .no (putR cs o v fun cs' => setH H b (.cells cs' e true) fun H' => k undef H' (.eff H H')) own
def fStore (P : Program) (H : AHeap) (t : TypeId) (a v : Value) (k : KV) : Res :=
  Bool.rec (motive := fun _ => Res) (ofOut (aStore P H t a v) (fun _ _ => .no) k)
    (ofO (sizeT P t) fun n => asPtr a .no fun b o => Bool.rec (motive := fun _ => Res) .no (fStore1 H b o v k) (Nat.beq 1 n)) (isOne v)
def isSli (P : Program) (t : TypeId) : Bool :=
  match P.underlying t with
  | some (.slice _) => true
  | _ => false
def ty0 (ts : Array TypeId) : TypeId := match ts.toList with | t :: _ => t | [] => 0
def fLen (P : Program) (H : AHeap) (ts : Array TypeId) (l : List Value) (k : KV) : Res :=
  (fun slow => List.rec (motive := fun _ => Res) slow (fun x r _ => List.rec (motive := fun _ => Res)
    (Bool.rec (motive := fun _ => Res) slow (asSli x slow fun _ n _ => k (.int .i64 (Int.ofNat n)) H .quiet) (Nat.blt 0 ts.size && isSli P (ty0 ts))) (fun _ _ _ => slow) r) l) (ofOut (aLen P H ts l) (fun _ _ => .no) fun v H e => fV v fun v => k v H e)

/-- An append of elements of one cell each: how many bytes one has. -/
def appOne (P : Program) (ts : Array TypeId) : Option (Nat × Nat) :=
  match ts[0]? with
  | some t => match P.underlying t with
    | some (.slice e) => match sizeT P e, bytesT P e, zeroOf P e with
      | some size, some by_, some z =>
        bif Nat.beq by_ 0 || !(Nat.beq size 1) || !(Nat.beq z.cells.size 1) then none else
        match ts[1]? with
        | some u => match P.underlying u with
          | some d => bif isIntD d then none else some (by_, rowV e 1)
          | none => none
        | none => some (by_, rowV e 1)
      | _, _, _ => none
    | _ => none
  | none => none
/-- An append to a slice that fills what is known of its block. -/
def fAppFull (H : AHeap) (by_ code b len cap : Nat) (x : Value) (slow : Res) (k : KV) : Res :=
  ofO (srcCells H 1 x) fun p => fN (Nat.add len p.1) fun need =>
    Bool.rec (motive := fun _ => Res) slow
      (objK H b fun cs esz own => Bool.rec (motive := fun _ => Res) slow
        (appR cs p.2 len slow fun cs' => setH H b .dead fun H1 => pushH H1 (.cells cs' code true) fun q H2 => k (.slice (some ⟨q, 0, some 0⟩) need need) H2 (.eff H H2))
        (own && Nat.beq esz code))
      (Nat.beq len cap && Nat.ble 1 p.1 && Nat.ble (Nat.mul need by_) (2 ^ 47) && Nat.ble need (2 ^ 47) && Nat.beq p.2.length p.1 && allOne p.2)
def fAppend (P : Program) (H : AHeap) (ts : Array TypeId) (l : List Value) (slow : Res) (k : KV) : Res :=
  List.rec (motive := fun _ => Res) slow (fun s r _ => List.rec (motive := fun _ => Res) slow (fun x r' _ => List.rec (motive := fun _ => Res)
    (Option.rec (motive := fun _ => Res) slow (fun p => fN p.2 fun code => asSli s slow fun a len cap => Option.rec (motive := fun _ => Res) slow (fun a => Option.rec (motive := fun _ => Res) slow (fun _ =>
      Bool.rec (motive := fun _ => Res) slow (fAppFull H p.1 code a.block len cap x slow k) (Nat.beq a.off 0)) a.spot) a) (appOne P ts)) (fun _ _ _ => slow) r') r) l

/-! ### texts as keys -/
def lenR (l : List UInt8) : Nat := List.rec (motive := fun _ => Nat) 0 (fun _ _ n => Nat.succ n) l
def eqL (l : List UInt8) : List UInt8 → Bool :=
  List.rec (motive := fun _ => List UInt8 → Bool) (fun m => List.rec (motive := fun _ => Bool) true (fun _ _ _ => false) m)
    (fun a _ ih m => List.rec (motive := fun _ => Bool) false (fun b bs _ => Bool.rec (motive := fun _ => Bool) false (ih bs) (Nat.beq a.toNat b.toNat)) m) l
def eqS (a b : ByteArray) : Bool := Bool.rec (motive := fun _ => Bool) false (eqL a.data.toList b.data.toList) (Nat.beq (lenR a.data.toList) (lenR b.data.toList))
/-- A map whose keys are texts: what a key that is not there has. -/
def strMap (P : Program) (t : TypeId) : Option Value :=
  match P.underlying t with
  | some (.map kt e) => match P.underlying kt with
    | some .string => zeroOf P e
    | _ => none
  | _ => none
def findS (s : ByteArray) (slow miss : Res) (hit : Value → Res) (es : List (Value × Value)) : Res :=
  List.rec (motive := fun _ => Res) miss (fun e _ ih => Prod.rec (motive := fun _ => Res) (fun k v => asStr k slow fun s' => Bool.rec (motive := fun _ => Res) ih (hit v) (eqS s s')) e) es
def mapK (H : AHeap) (b : Nat) (bad : Res) (k : List (Value × Value) → Res) : Res :=
  Option.rec (motive := fun _ => Res) bad (fun o => AObj.rec (motive := fun _ => Res) (fun _ _ _ => bad) (fun es => k es) bad (fun _ => bad) (fun _ _ => bad) o) ((slot (r := Unit) b).get H.objs)
def fLookup (P : Program) (H : AHeap) (t : TypeId) (m key : Value) (ok : Bool) (slow : Res) (k : KV) : Res :=
  Option.rec (motive := fun _ => Res) slow (fun z => asStr key slow fun s => asMap m slow fun r => Option.rec (motive := fun _ => Res) slow (fun r => mapK H r slow fun es =>
    findS s slow (k (bif ok then .tuple #[z, .bool false] else z) H (.eff H H)) (fun v => k (bif ok then .tuple #[v, .bool true] else v) H (.eff H H)) es) r) (strMap P t)

abbrev KCall := FuncId → List Value → AHeap → (Value → AHeap → Res) → (Value → AHeap → Res) → Res
def slowOp (P : Program) (op : Op) (f : Fr) (H : AHeap) (kp : Value → AHeap → Res) (k : KV) : Res := ofOut (aOp P (fun _ _ _ => none) f H op) kp fun v H e => fV v fun v => k v H e

def fBuiltin (b : Builtin) (P : Program) (c : Call) (op : Op) (f : Fr) (H : AHeap) (kp : Value → AHeap → Res) (k : KV) : Res :=
  Builtin.rec (motive := fun _ => Program → Call → Op → Fr → AHeap → (Value → AHeap → Res) → KV → Res)
    (fun P c _ f H kp k => fL c.args.toList f fun l => fAppend P H c.argTypes l (ofOut (aAppend P H c.argTypes l) kp fun v H e => fV v fun v => k v H e) k)
    (fun P _ op f H kp k => slowOp P op f H kp k)
    (fun P _ op f H kp k => slowOp P op f H kp k)
    (fun P _ op f H kp k => slowOp P op f H kp k)
    (fun P _ op f H kp k => slowOp P op f H kp k)
    (fun P _ op f H kp k => slowOp P op f H kp k)
    (fun P _ op f H kp k => slowOp P op f H kp k)
    (fun P _ op f H kp k => slowOp P op f H kp k)
    (fun P c _ f H _ k => fL c.args.toList f fun l => fLen P H c.argTypes l k)
    (fun P _ op f H kp k => slowOp P op f H kp k)
    (fun P _ op f H kp k => slowOp P op f H kp k)
    (fun P _ op f H kp k => slowOp P op f H kp k)
    (fun P _ op f H kp k => slowOp P op f H kp k)
    (fun P _ op f H kp k => slowOp P op f H kp k)
    (fun P _ op f H kp k => slowOp P op f H kp k)
    (fun P _ op f H kp k => slowOp P op f H kp k)
    (fun P _ op f H kp k => slowOp P op f H kp k)
    (fun P _ op f H kp k => slowOp P op f H kp k)
    (fun P _ op f H kp k => slowOp P op f H kp k)
    (fun P _ op f H kp k => slowOp P op f H kp k)
    (fun P _ op f H kp k => slowOp P op f H kp k)
    (fun P _ op f H kp k => slowOp P op f H kp k)
    (fun P _ op f H kp k => slowOp P op f H kp k)
    (fun P _ op f H kp k => slowOp P op f H kp k)
    (fun P _ op f H kp k => slowOp P op f H kp k)
    (fun P _ op f H kp k => slowOp P op f H kp k)
    b P c op f H kp k
def fCallOp (P : Program) (call : KCall) (c : Call) (op : Op) (f : Fr) (H : AHeap) (kp : Value → AHeap → Res) (k : KV) : Res :=
  Callee.rec (motive := fun _ => Program → KCall → Call → Op → Fr → AHeap → (Value → AHeap → Res) → KV → Res)
    (fun g _ call c _ f H kp k => fE g f fun g => asFun g .no fun g first captured => fL c.args.toList f fun args => call g (first.toList ++ args ++ captured.toList) H kp fun v H' => fV v fun v => k v H' (.eff H H'))
    (fun _ _ _ _ _ _ _ _ _ _ => .no)
    (fun b P _ c op f H kp k => fBuiltin b P c op f H kp k)
    c.callee P call c op f H kp k
def fMake (H : AHeap) (o : AObj) (v : Nat → Value) (k : KV) : Res := pushH H o fun b H' => fV (v b) fun v => k v H' (.make b o)
def fOp (P : Program) (call : KCall) (op : Op) (f : Fr) (H : AHeap) (kp : Value → AHeap → Res) (k : KV) : Res :=
  Op.rec (motive := fun _ => Program → KCall → Fr → AHeap → (Value → AHeap → Res) → KV → Res)
    (fun x P _ f H _ k => fE x f fun v => k v H .quiet)
    (fun x P _ f H _ k => fE x f fun v => k v H .quiet)
    (fun c a b P _ f H _ k => fE c f fun c => asBool c .no fun t => Bool.rec (motive := fun _ => Res) (fE b f fun v => k v H .quiet) (fE a f fun v => k v H .quiet) t)
    (fun e P _ _ H _ k => ofO (zeroOf P e) fun z => fMake H (.cells z.cells.toList (typedV e) true) (fun b => .pointer (some ⟨b, 0, none⟩)) k)
    (fun _ v P _ f H _ k => fE v f fun v => fMake H (.cells v.cells.toList 0 true) (fun b => .pointer (some ⟨b, 0, none⟩)) k)
    (fun t ps P _ f H kp k => slowOp P (.build t ps) f H kp k)
    (fun t n ps P _ f H kp k => slowOp P (.buildSlice t n ps) f H kp k)
    (fun t a b c P _ f H kp k => slowOp P (.insert t a b c) f H kp k)
    (fun t a P _ f H _ k => fE a f fun a => fLoad P H t a k)
    (fun t a v P _ f H _ k => fE a f fun a => fE v f fun v => fStore P H t a v k)
    (fun g P _ f H kp k => slowOp P (.ready g) f H kp k)
    (fun g P _ f H kp k => slowOp P (.waits g) f H kp k)
    (fun x P _ f H kp k => fE x f fun v => asPtr v (slowOp P (.nilCheck x) f H kp k) fun b o => k (.pointer (some ⟨b, o, none⟩)) H .quiet)
    (fun op t x y _ P _ f H _ k => fE x f fun a => fE y f fun b => fBin P op t (isConst x) (isConst y) a b fun v => k v H .quiet)
    (fun op t x P _ f H kp k => slowOp P (.unOp op t x) f H kp k)
    (fun s d x P _ f H kp k => slowOp P (.convert s d x) f H kp k)
    (fun d x P _ f H kp k => slowOp P (.sliceToArrayPointer d x) f H kp k)
    (fun t x P _ f H kp k => slowOp P (.makeInterface t x) f H kp k)
    (fun g a b P _ f H kp k => slowOp P (.makeFunc g a b) f H kp k)
    (fun t r P _ f H kp k => slowOp P (.makeMap t r) f H kp k)
    (fun t s P _ f H kp k => slowOp P (.makeChan t s) f H kp k)
    (fun t a b P _ f H kp k => slowOp P (.makeSlice t a b) f H kp k)
    (fun t x a b c P _ f H kp k => slowOp P (.slice t x a b c) f H kp k)
    (fun s x j P _ f H _ k => fE x f fun a => ofO (fldOff P s j) fun off => asPtr a .no fun b o => fN (Nat.add o off) fun o => k (.pointer (some ⟨b, o, none⟩)) H .quiet)
    (fun s x j P _ f H kp k => slowOp P (.field s x j) f H kp k)
    (fun t x i P _ f H _ k => fE x f fun a => fE i f fun i => fIxAddr P t a i fun v => k v H .quiet)
    (fun t x i P _ f H kp k => slowOp P (.index t x i) f H kp k)
    (fun t x i c P _ f H kp k => fE x f fun m => fE i f fun key => (fun k => fLookup P H t m key c (ofOut (aLookup P H t m key c) kp k) k) fun v H e => fV v fun v => k v H e)
    (fun t a b c P _ f H kp k => slowOp P (.mapUpdate t a b c) f H kp k)
    (fun t a b P _ f H kp k => slowOp P (.mapEntry t a b) f H kp k)
    (fun t a b c P _ f H kp k => slowOp P (.entryStore t a b c) f H kp k)
    (fun t x P _ f H kp k => slowOp P (.range t x) f H kp k)
    (fun i s P _ f H kp k => slowOp P (.next i s) f H kp k)
    (fun i P _ f H kp k => slowOp P (.entry i) f H kp k)
    (fun x a b c P _ f H kp k => slowOp P (.typeAssert x a b c) f H kp k)
    (fun x i P _ f H _ k => fE x f fun a => asTup a .no fun vs => ofO (nthR vs.toList i) fun v => fV v fun v => k v H .quiet)
    (fun c P call f H kp k => fCallOp P call c (.call c) f H kp k)
    (fun c P _ f H kp k => slowOp P (.go c) f H kp k)
    (fun c P _ f H kp k => slowOp P (.defer c) f H kp k)
    (fun x P _ f H kp k => slowOp P (.panic x) f H kp k)
    (fun a b P _ f H kp k => slowOp P (.send a b) f H kp k)
    (fun t a b P _ f H kp k => slowOp P (.recv t a b) f H kp k)
    (fun a b P _ f H kp k => slowOp P (.select a b) f H kp k)
    op P call f H kp k

/-! ### regions and code -/
def fWant (ops : Array Oper) (o : Oper) (f : Fr) (x y : Res) : Res :=
  Option.rec (motive := fun _ => Res) y (fun _ => Bool.rec (motive := fun _ => Res) x y (wantedA ops o f)) o.guard
def fDraw (ops : Array Oper) (tr : List (Nat × Ev)) : Bool :=
  List.rec (motive := fun _ => Bool) true (fun y _ ih => Ev.rec (motive := fun _ => Bool) ih (fun _ _ _ => ih) (fun _ _ => ih) (fun _ _ => Bool.rec (motive := fun _ => Bool) false ih (tr.all fun x => evOk ops x y)) y.2) tr
def fEnd (ops : Array Oper) (draw : Bool) (f : Fr) (H : AHeap) (tr : List (Nat × Ev)) : Res :=
  Bool.rec (motive := fun _ => Res) (.nrm f H) (Bool.rec (motive := fun _ => Res) .no (.nrm f H) (fDraw ops tr)) draw
def fOper (P : Program) (call : KCall) (ops : Array Oper) (draw : Bool) (o : Oper) (ih : Nat → Fr → AHeap → List (Nat × Ev) → Res) (i : Nat) (f : Fr) (H : AHeap) (tr : List (Nat × Ev)) : Res :=
  fWant ops o f (putK f o.dst undef fun f' => ih (Nat.succ i) f' H tr)
    (fOp P call o.op f H (fun v H' => Bool.rec (motive := fun _ => Res) (.pan v f H') .no draw)
      (fun v H' e => putK f o.dst v fun f' => ih (Nat.succ i) f' H' ((i, e) :: tr)))
def fRun (P : Program) (call : KCall) (ops : Array Oper) (draw : Bool) (l : List Oper) (i : Nat) (f : Fr) (H : AHeap) (tr : List (Nat × Ev)) : Res :=
  List.rec (motive := fun _ => Nat → Fr → AHeap → List (Nat × Ev) → Res) (fun _ f H tr => fEnd ops draw f H tr) (fun o _ ih i f H tr => fOper P call ops draw o ih i f H tr) l i f H tr

/-- A region in the order of its text: no trace is kept. -/
def fOperQ (P : Program) (call : KCall) (ops : Array Oper) (o : Oper) (ih : Fr → AHeap → Res) (f : Fr) (H : AHeap) : Res :=
  fWant ops o f (putK f o.dst undef fun f' => ih f' H)
    (fOp P call o.op f H (fun v H' => .pan v f H') (fun v H' _ => putK f o.dst v fun f' => ih f' H'))
def fRunQ (P : Program) (call : KCall) (ops : Array Oper) (l : List Oper) (f : Fr) (H : AHeap) : Res :=
  List.rec (motive := fun _ => Fr → AHeap → Res) (fun f H => .nrm f H) (fun o _ ih f H => fOperQ P call ops o ih f H) l f H

def Res.toR : Res → Option (AExit × Fr × AHeap)
  | .nrm f H => some (.normal, f, H)
  | .ext i f H => some (.exit i, f, H)
  | .ret f H => some (.ret, f, H)
  | .pan v f H => some (.panic v, f, H)
  | .no => none
def Res.ofR : Option (AExit × Fr × AHeap) → Res
  | some (.normal, f, H) => .nrm f H
  | some (.exit i, f, H) => .ext i f H
  | some (.ret, f, H) => .ret f H
  | some (.panic v, f, H) => .pan v f H
  | none => .no
def ofC (kp kr : Value → AHeap → Res) : Option (CRes × AHeap) → Res
  | some (.ret v, H) => kr v H
  | some (.panic v, H) => kp v H
  | none => .no
def fRes (P : Program) (fn : Func) (f : Fr) (H : AHeap) (kr : Value → AHeap → Res) : Res := ofO (resA P f H fn.results.toList) fun l => kr (oneOf l) H
def frK (args : List Value) (n ng : Nat) (k : Fr → Res) : Res :=
  fN n fun n => fN ng fun ng => List.rec (motive := fun _ => Nat → Tr Value → Res) (fun _ t => k ⟨t, n, [], ng⟩) (fun v _ ih i t => (slot i).set t v fun t => ih (Nat.succ i) t) args 0 .nil
/-- A frame leaves: most have nothing deferred. -/
def fLeave (P : Program) (ex : Code → Fr → AHeap → Res) (fn : Func) (m : AMode) (f : Fr) (H : AHeap) (fast : Res) (kp kr : Value → AHeap → Res) : Res :=
  List.rec (motive := fun _ => Res) fast (fun _ _ _ => ofC kp kr (endX P fn f (leaveX (deferX P (fun c f H => (ex c f H).toR) fun _ _ _ => none) f.defs m H))) f.defs
def fBody (P : Program) (ex : Code → Fr → AHeap → Res) (fn : Func) (c : Code) (args : List Value) (H : AHeap) (kp kr : Value → AHeap → Res) : Res :=
  Res.rec (motive := fun _ => Res) (fun f H => fLeave P ex fn .back f H (fRes P fn f H kr) kp kr) (fun _ _ _ => .no) (fun f H => fLeave P ex fn .back f H (fRes P fn f H kr) kp kr) (fun v f H => fLeave P ex fn (.thrown v) f H (kp v H) kp kr) .no
    (frK args (max fn.ntmps args.length) H.globN (ex c · H))
def fCallB (P : Program) (ex : Code → Fr → AHeap → Res) (g : FuncId) (args : List Value) (H : AHeap) (kp kr : Value → AHeap → Res) : Res :=
  ofO P.funcs[g]? fun fn => ofO (bodyOf fn) fun c => fBody P ex fn c args H kp kr
def fCall (P : Program) (ex : Code → Fr → AHeap → Res) (g : FuncId) (args : List Value) (H : AHeap) (kp kr : Value → AHeap → Res) : Res :=
  Option.rec (motive := fun _ => Res) (fCallB P ex g args H kp kr) (fun p => ofO (primA P p args H) fun x => Prod.rec (motive := fun _ => Res) (fun v H' => fV v fun v => kr v H') x) (primAt P g)
/-- The region that defers. -/
def fDefer (P : Program) (ex : Code → Fr → AHeap → Res) (ops : Array Oper) (draw : Bool) (f : Fr) (H : AHeap) (d : List Oper × Oper × Call) : Res :=
  Res.ofR (bif draw then none else match runOps P (callX P fun c f H => (ex c f H).toR) ops d.1 0 f H [] with
    | some (.done f' H' _) => match deferA f' d.2.2, f'.put d.2.1.dst undef with
      | some q, some f'' => some (.normal, ⟨f''.tmps, f''.size, q :: f''.defs, f''.glob⟩, H')
      | _, _ => none
    | _ => none)

def fThen (r : Res) (k : Fr → AHeap → Res) : Res :=
  Res.rec (motive := fun _ => (Fr → AHeap → Res) → Res) (fun f H k => k f H) (fun i f H _ => .ext i f H) (fun f H _ => .ret f H) (fun v f H _ => .pan v f H) (fun _ => .no) r k
def fBlock (id : Nat) (r : Res) : Res :=
  Res.rec (motive := fun _ => Res) (fun f H => .nrm f H) (fun i f H => Bool.rec (motive := fun _ => Res) (.ext i f H) (.nrm f H) (Nat.beq i id)) (fun f H => .ret f H) (fun v f H => .pan v f H) .no r
def fexec (P : Program) (k : Nat) : Code → Fr → AHeap → Res :=
  Nat.rec (motive := fun _ => Code → Fr → AHeap → Res) (fun _ _ _ => .no) (fun _ ex c f H =>
    Code.rec (motive := fun _ => (Code → Fr → AHeap → Res) → Fr → AHeap → Res)
      (fun _ f H => .nrm f H)
      (fun _ ops draw ex f H => Option.rec (motive := fun _ => Res) (Bool.rec (motive := fun _ => Res) (fRunQ P (fCall P ex) ops ops.toList f H) (fRun P (fCall P ex) ops true ops.toList 0 f H []) draw) (fun d => fDefer P ex ops draw f H d) (lastDefer ops.toList))
      (fun a b _ _ ex f H => fThen (ex a f H) (ex b))
      (fun c a b _ _ ex f H => fE c f fun c => asBool c .no fun t => Bool.rec (motive := fun _ => Res) (ex b f H) (ex a f H) t)
      (fun id c _ ex f H => fBlock id (ex c f H))
      (fun c _ ex f H => fThen (ex c f H) (ex (.loop c)))
      (fun _ _ _ _ _ _ _ _ _ => .no)
      (fun id _ f H => .ext id f H)
      (fun c _ ex f H => ex c f H)
      (fun _ _ f H => .nrm f H)
      (fun _ _ _ _ => .no)
      (fun _ f H => .ret f H)
      (fun _ _ _ _ => .no)
      c ex f H) k
def isTrueF (r : Res) : Bool :=
  Res.rec (motive := fun _ => Bool) (fun _ _ => false) (fun _ _ _ => false) (fun _ _ => false) (fun v _ _ => asBool v false fun b => b) false r
/-- The call ends with true. -/
def callTH (P : Program) (k : Nat) (g : FuncId) (args : List Value) (H : AHeap) : Bool := isTrueF (fCall P (fexec P k) g args H (fun _ _ => .no) fun v H => .pan v ⟨.nil, 0, [], 0⟩ H)
def callT (P : Program) (k : Nat) (g : FuncId) : Bool := callTH P k g [] H0
end
end Go.AX
