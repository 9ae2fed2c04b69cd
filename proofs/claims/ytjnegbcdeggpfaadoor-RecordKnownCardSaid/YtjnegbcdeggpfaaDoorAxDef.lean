/- The abstract executor: a deterministic reading of a loaded program's code over an abstract memory. Definitions alone. -/
import Derived.Calls
import Derived.LoopN
import Derived.Orders
import Derived.Lib.Bytealg
import Derived.Lib.Join
import Derived.Lib.Repeat
import Derived.Lib.Atoi
namespace Go.AX
open Go
set_option linter.unusedVariables false
noncomputable section

/-! ### tries: sixteen branches at each step. A slot is worked out once, and holds how to read and write there; the recursors stand for the kernel's sake. -/
inductive N16 (β : Type) where
  | mk (c0 c1 c2 c3 c4 c5 c6 c7 c8 c9 c10 c11 c12 c13 c14 c15 : β) : N16 β
structure Dig (β r : Type) where
  sel : N16 β → β
  upd : N16 β → (β → (β → r) → r) → (N16 β → r) → r
def dig0 {β r : Type} : Dig β r := ⟨fun t => N16.rec (motive := fun _ => β) (fun c0 c1 c2 c3 c4 c5 c6 c7 c8 c9 c10 c11 c12 c13 c14 c15 => c0) t, fun t f c => N16.rec (motive := fun _ => (β → (β → r) → r) → (N16 β → r) → r) (fun c0 c1 c2 c3 c4 c5 c6 c7 c8 c9 c10 c11 c12 c13 c14 c15 f c => f c0 fun x => c ⟨x, c1, c2, c3, c4, c5, c6, c7, c8, c9, c10, c11, c12, c13, c14, c15⟩) t f c⟩
def dig1 {β r : Type} : Dig β r := ⟨fun t => N16.rec (motive := fun _ => β) (fun c0 c1 c2 c3 c4 c5 c6 c7 c8 c9 c10 c11 c12 c13 c14 c15 => c1) t, fun t f c => N16.rec (motive := fun _ => (β → (β → r) → r) → (N16 β → r) → r) (fun c0 c1 c2 c3 c4 c5 c6 c7 c8 c9 c10 c11 c12 c13 c14 c15 f c => f c1 fun x => c ⟨c0, x, c2, c3, c4, c5, c6, c7, c8, c9, c10, c11, c12, c13, c14, c15⟩) t f c⟩
def dig2 {β r : Type} : Dig β r := ⟨fun t => N16.rec (motive := fun _ => β) (fun c0 c1 c2 c3 c4 c5 c6 c7 c8 c9 c10 c11 c12 c13 c14 c15 => c2) t, fun t f c => N16.rec (motive := fun _ => (β → (β → r) → r) → (N16 β → r) → r) (fun c0 c1 c2 c3 c4 c5 c6 c7 c8 c9 c10 c11 c12 c13 c14 c15 f c => f c2 fun x => c ⟨c0, c1, x, c3, c4, c5, c6, c7, c8, c9, c10, c11, c12, c13, c14, c15⟩) t f c⟩
def dig3 {β r : Type} : Dig β r := ⟨fun t => N16.rec (motive := fun _ => β) (fun c0 c1 c2 c3 c4 c5 c6 c7 c8 c9 c10 c11 c12 c13 c14 c15 => c3) t, fun t f c => N16.rec (motive := fun _ => (β → (β → r) → r) → (N16 β → r) → r) (fun c0 c1 c2 c3 c4 c5 c6 c7 c8 c9 c10 c11 c12 c13 c14 c15 f c => f c3 fun x => c ⟨c0, c1, c2, x, c4, c5, c6, c7, c8, c9, c10, c11, c12, c13, c14, c15⟩) t f c⟩
def dig4 {β r : Type} : Dig β r := ⟨fun t => N16.rec (motive := fun _ => β) (fun c0 c1 c2 c3 c4 c5 c6 c7 c8 c9 c10 c11 c12 c13 c14 c15 => c4) t, fun t f c => N16.rec (motive := fun _ => (β → (β → r) → r) → (N16 β → r) → r) (fun c0 c1 c2 c3 c4 c5 c6 c7 c8 c9 c10 c11 c12 c13 c14 c15 f c => f c4 fun x => c ⟨c0, c1, c2, c3, x, c5, c6, c7, c8, c9, c10, c11, c12, c13, c14, c15⟩) t f c⟩
def dig5 {β r : Type} : Dig β r := ⟨fun t => N16.rec (motive := fun _ => β) (fun c0 c1 c2 c3 c4 c5 c6 c7 c8 c9 c10 c11 c12 c13 c14 c15 => c5) t, fun t f c => N16.rec (motive := fun _ => (β → (β → r) → r) → (N16 β → r) → r) (fun c0 c1 c2 c3 c4 c5 c6 c7 c8 c9 c10 c11 c12 c13 c14 c15 f c => f c5 fun x => c ⟨c0, c1, c2, c3, c4, x, c6, c7, c8, c9, c10, c11, c12, c13, c14, c15⟩) t f c⟩
def dig6 {β r : Type} : Dig β r := ⟨fun t => N16.rec (motive := fun _ => β) (fun c0 c1 c2 c3 c4 c5 c6 c7 c8 c9 c10 c11 c12 c13 c14 c15 => c6) t, fun t f c => N16.rec (motive := fun _ => (β → (β → r) → r) → (N16 β → r) → r) (fun c0 c1 c2 c3 c4 c5 c6 c7 c8 c9 c10 c11 c12 c13 c14 c15 f c => f c6 fun x => c ⟨c0, c1, c2, c3, c4, c5, x, c7, c8, c9, c10, c11, c12, c13, c14, c15⟩) t f c⟩
def dig7 {β r : Type} : Dig β r := ⟨fun t => N16.rec (motive := fun _ => β) (fun c0 c1 c2 c3 c4 c5 c6 c7 c8 c9 c10 c11 c12 c13 c14 c15 => c7) t, fun t f c => N16.rec (motive := fun _ => (β → (β → r) → r) → (N16 β → r) → r) (fun c0 c1 c2 c3 c4 c5 c6 c7 c8 c9 c10 c11 c12 c13 c14 c15 f c => f c7 fun x => c ⟨c0, c1, c2, c3, c4, c5, c6, x, c8, c9, c10, c11, c12, c13, c14, c15⟩) t f c⟩
def dig8 {β r : Type} : Dig β r := ⟨fun t => N16.rec (motive := fun _ => β) (fun c0 c1 c2 c3 c4 c5 c6 c7 c8 c9 c10 c11 c12 c13 c14 c15 => c8) t, fun t f c => N16.rec (motive := fun _ => (β → (β → r) → r) → (N16 β → r) → r) (fun c0 c1 c2 c3 c4 c5 c6 c7 c8 c9 c10 c11 c12 c13 c14 c15 f c => f c8 fun x => c ⟨c0, c1, c2, c3, c4, c5, c6, c7, x, c9, c10, c11, c12, c13, c14, c15⟩) t f c⟩
def dig9 {β r : Type} : Dig β r := ⟨fun t => N16.rec (motive := fun _ => β) (fun c0 c1 c2 c3 c4 c5 c6 c7 c8 c9 c10 c11 c12 c13 c14 c15 => c9) t, fun t f c => N16.rec (motive := fun _ => (β → (β → r) → r) → (N16 β → r) → r) (fun c0 c1 c2 c3 c4 c5 c6 c7 c8 c9 c10 c11 c12 c13 c14 c15 f c => f c9 fun x => c ⟨c0, c1, c2, c3, c4, c5, c6, c7, c8, x, c10, c11, c12, c13, c14, c15⟩) t f c⟩
def dig10 {β r : Type} : Dig β r := ⟨fun t => N16.rec (motive := fun _ => β) (fun c0 c1 c2 c3 c4 c5 c6 c7 c8 c9 c10 c11 c12 c13 c14 c15 => c10) t, fun t f c => N16.rec (motive := fun _ => (β → (β → r) → r) → (N16 β → r) → r) (fun c0 c1 c2 c3 c4 c5 c6 c7 c8 c9 c10 c11 c12 c13 c14 c15 f c => f c10 fun x => c ⟨c0, c1, c2, c3, c4, c5, c6, c7, c8, c9, x, c11, c12, c13, c14, c15⟩) t f c⟩
def dig11 {β r : Type} : Dig β r := ⟨fun t => N16.rec (motive := fun _ => β) (fun c0 c1 c2 c3 c4 c5 c6 c7 c8 c9 c10 c11 c12 c13 c14 c15 => c11) t, fun t f c => N16.rec (motive := fun _ => (β → (β → r) → r) → (N16 β → r) → r) (fun c0 c1 c2 c3 c4 c5 c6 c7 c8 c9 c10 c11 c12 c13 c14 c15 f c => f c11 fun x => c ⟨c0, c1, c2, c3, c4, c5, c6, c7, c8, c9, c10, x, c12, c13, c14, c15⟩) t f c⟩
def dig12 {β r : Type} : Dig β r := ⟨fun t => N16.rec (motive := fun _ => β) (fun c0 c1 c2 c3 c4 c5 c6 c7 c8 c9 c10 c11 c12 c13 c14 c15 => c12) t, fun t f c => N16.rec (motive := fun _ => (β → (β → r) → r) → (N16 β → r) → r) (fun c0 c1 c2 c3 c4 c5 c6 c7 c8 c9 c10 c11 c12 c13 c14 c15 f c => f c12 fun x => c ⟨c0, c1, c2, c3, c4, c5, c6, c7, c8, c9, c10, c11, x, c13, c14, c15⟩) t f c⟩
def dig13 {β r : Type} : Dig β r := ⟨fun t => N16.rec (motive := fun _ => β) (fun c0 c1 c2 c3 c4 c5 c6 c7 c8 c9 c10 c11 c12 c13 c14 c15 => c13) t, fun t f c => N16.rec (motive := fun _ => (β → (β → r) → r) → (N16 β → r) → r) (fun c0 c1 c2 c3 c4 c5 c6 c7 c8 c9 c10 c11 c12 c13 c14 c15 f c => f c13 fun x => c ⟨c0, c1, c2, c3, c4, c5, c6, c7, c8, c9, c10, c11, c12, x, c14, c15⟩) t f c⟩
def dig14 {β r : Type} : Dig β r := ⟨fun t => N16.rec (motive := fun _ => β) (fun c0 c1 c2 c3 c4 c5 c6 c7 c8 c9 c10 c11 c12 c13 c14 c15 => c14) t, fun t f c => N16.rec (motive := fun _ => (β → (β → r) → r) → (N16 β → r) → r) (fun c0 c1 c2 c3 c4 c5 c6 c7 c8 c9 c10 c11 c12 c13 c14 c15 f c => f c14 fun x => c ⟨c0, c1, c2, c3, c4, c5, c6, c7, c8, c9, c10, c11, c12, c13, x, c15⟩) t f c⟩
def dig15 {β r : Type} : Dig β r := ⟨fun t => N16.rec (motive := fun _ => β) (fun c0 c1 c2 c3 c4 c5 c6 c7 c8 c9 c10 c11 c12 c13 c14 c15 => c15) t, fun t f c => N16.rec (motive := fun _ => (β → (β → r) → r) → (N16 β → r) → r) (fun c0 c1 c2 c3 c4 c5 c6 c7 c8 c9 c10 c11 c12 c13 c14 c15 f c => f c15 fun x => c ⟨c0, c1, c2, c3, c4, c5, c6, c7, c8, c9, c10, c11, c12, c13, c14, x⟩) t f c⟩
def dg {β r : Type} (n : Nat) : Dig β r := Bool.rec (motive := fun _ => Dig β r) (Bool.rec (motive := fun _ => Dig β r) (Bool.rec (motive := fun _ => Dig β r) (Bool.rec (motive := fun _ => Dig β r) dig0 dig1 (Nat.ble 1 n)) (Bool.rec (motive := fun _ => Dig β r) dig2 dig3 (Nat.ble 3 n)) (Nat.ble 2 n)) (Bool.rec (motive := fun _ => Dig β r) (Bool.rec (motive := fun _ => Dig β r) dig4 dig5 (Nat.ble 5 n)) (Bool.rec (motive := fun _ => Dig β r) dig6 dig7 (Nat.ble 7 n)) (Nat.ble 6 n)) (Nat.ble 4 n)) (Bool.rec (motive := fun _ => Dig β r) (Bool.rec (motive := fun _ => Dig β r) (Bool.rec (motive := fun _ => Dig β r) dig8 dig9 (Nat.ble 9 n)) (Bool.rec (motive := fun _ => Dig β r) dig10 dig11 (Nat.ble 11 n)) (Nat.ble 10 n)) (Bool.rec (motive := fun _ => Dig β r) (Bool.rec (motive := fun _ => Dig β r) dig12 dig13 (Nat.ble 13 n)) (Bool.rec (motive := fun _ => Dig β r) dig14 dig15 (Nat.ble 15 n)) (Nat.ble 14 n)) (Nat.ble 12 n)) (Nat.ble 8 n)
def allN {β : Type} (x : β) : N16 β := ⟨x, x, x, x, x, x, x, x, x, x, x, x, x, x, x, x⟩
structure Tr (α : Type) where
  lo : N16 (N16 (Option α))
  hi : N16 (N16 (N16 (N16 (Option α))))
  over : List (Nat × α)
def Tr.nil {α : Type} : Tr α := ⟨allN (allN none), allN (allN (allN (allN none))), []⟩
def overGet {α : Type} (n : Nat) : List (Nat × α) → Option α
  | [] => none
  | (m, x) :: r => bif Nat.beq n m then some x else overGet n r
structure Slot (α r : Type) where
  get : Tr α → Option α
  set : Tr α → α → (Tr α → r) → r
def loSlot {α r : Type} (d : Dig (N16 (Option α)) r) (e : Dig (Option α) r) : Slot α r :=
  Dig.rec (motive := fun _ => Slot α r) (fun ds du => Dig.rec (motive := fun _ => Slot α r) (fun es eu =>
    ⟨fun t => Tr.rec (motive := fun _ => Option α) (fun l _ _ => es (ds l)) t,
     fun t x c => Tr.rec (motive := fun _ => r) (fun l h o => du l (fun l c => eu l (fun _ c => c (some x)) c) fun l => c ⟨l, h, o⟩) t⟩) e) d
def hiSlot {α r : Type} (d : Dig (N16 (N16 (N16 (Option α)))) r) (e : Dig (N16 (N16 (Option α))) r) (f : Dig (N16 (Option α)) r) (g : Dig (Option α) r) : Slot α r :=
  Dig.rec (motive := fun _ => Slot α r) (fun ds du => Dig.rec (motive := fun _ => Slot α r) (fun es eu => Dig.rec (motive := fun _ => Slot α r) (fun fs fu => Dig.rec (motive := fun _ => Slot α r) (fun gs gu =>
    ⟨fun t => Tr.rec (motive := fun _ => Option α) (fun _ h _ => gs (fs (es (ds h)))) t,
     fun t x c => Tr.rec (motive := fun _ => r) (fun l h o => du h (fun h c => eu h (fun h c => fu h (fun h c => gu h (fun _ c => c (some x)) c) c) c) fun h => c ⟨l, h, o⟩) t⟩) g) f) e) d
def overSlot {α r : Type} (n : Nat) : Slot α r := ⟨fun t => overGet n t.over, fun t x c => Tr.rec (motive := fun _ => r) (fun l h o => c ⟨l, h, (n, x) :: o⟩) t⟩
def slot {α r : Type} (n : Nat) : Slot α r :=
  bif Nat.blt n 256 then loSlot (dg (Nat.div n 16)) (dg (Nat.mod n 16)) else
  bif Nat.blt n 65536 then hiSlot (dg (Nat.div n 4096)) (dg (Nat.mod (Nat.div n 256) 16)) (dg (Nat.mod (Nat.div n 16) 16)) (dg (Nat.mod n 16)) else overSlot n
def Tr.get {α : Type} (t : Tr α) (n : Nat) : Option α := (slot (r := Unit) n).get t
def Tr.set {α : Type} (t : Tr α) (n : Nat) (x : α) : Tr α := (slot n).set t x fun t => t

/-! ### the abstract memory -/
inductive AObj where
  | cells (cs : List Value) (esz : Nat) (own : Bool)
  | map (es : List (Value × Value))
  | dead
  | globs (n : Nat)
  | iter (s : ByteArray) (pos : Nat)

structure AHeap where
  objs : Tr AObj
  next : Nat

def AHeap.get (H : AHeap) (b : Nat) : Option AObj := H.objs.get b
def AHeap.set (H : AHeap) (b : Nat) (o : AObj) : AHeap := ⟨H.objs.set b o, H.next⟩
def AHeap.push (H : AHeap) (o : AObj) : AHeap := ⟨H.objs.set H.next o, H.next + 1⟩
/-- How many variables of the packages are seen: the variable g is the block g + 1. -/
def AHeap.globN (H : AHeap) : Nat :=
  match H.get 0 with
  | some (.globs n) => n
  | _ => 0

structure Fr where
  tmps : Tr Value
  size : Nat
  /-- what is deferred -/
  defs : List (FuncId × List Value)
  glob : Nat

def Fr.get (f : Fr) (t : Nat) : Value := (f.tmps.get t).getD undef
def Fr.put (f : Fr) (d : Option Tmp) (v : Value) : Option Fr :=
  match d with
  | none => some f
  | some d => bif Nat.blt d f.size then some ⟨f.tmps.set d v, f.size, f.defs, f.glob⟩ else none

/-- A value without addresses and functions. -/
def plainV : Nat → Value → Bool
  | _, .bool _ | _, .int _ _ | _, .string _ | _, .pointer none | _, .slice none _ _ | _, .map none | _, .nilFunc | _, .nilIface => true
  | n + 1, .iface _ v => plainV n v
  | n + 1, .agg vs => vs.toList.all (plainV n)
  | n + 1, .tuple vs => vs.toList.all (plainV n)
  | _, _ => false

def evO (f : Fr) : Operand → Option Value
  | .tmp t => some (f.get t)
  | .const v => bif plainV 9 v then some v else none
  | .global g => bif Nat.blt g f.glob then some (.pointer (some ⟨g + 1, 0, none⟩)) else none
  | .func g => some (.func (.func g) #[] #[])

def evM (f : Fr) : Option Operand → Option (Option Value)
  | none => some none
  | some x => match evO f x with
    | some v => some (some v)
    | none => none

def evL (f : Fr) : List Operand → Option (List Value)
  | [] => some []
  | x :: r => match evO f x, evL f r with
    | some v, some vs => some (v :: vs)
    | _, _ => none

/-! ### lists of cells -/
def nth : List Value → Nat → Option Value
  | [], _ => none
  | v :: r, n => match n with | 0 => some v | m + 1 => nth r m
/-- Just n of them. -/
def takeN : Nat → List Value → Option (List Value)
  | 0, _ => some []
  | _ + 1, [] => none
  | n + 1, v :: r => match takeN n r with | some l => some (v :: l) | none => none
def dropN : Nat → List Value → List Value
  | 0, l => l
  | _ + 1, [] => []
  | n + 1, _ :: r => dropN n r
/-- The cells from o on are replaced; none: there are not so many. -/
def putAt : List Value → Nat → List Value → Option (List Value)
  | cs, _, [] => some cs
  | [], _, _ :: _ => none
  | c :: cs, o, v :: vs => match o with
    | 0 => match putAt cs 0 vs with | some r => some (v :: r) | none => none
    | o + 1 => match putAt cs o (v :: vs) with | some r => some (c :: r) | none => none
def oneV : Value → Bool
  | .agg _ | .tuple _ => false
  | _ => true
def allOne (vs : List Value) : Bool := vs.all oneV

/-- n cells from an address on. -/
def cellsAt (H : AHeap) (b o n : Nat) : Option (List Value) :=
  match H.get b with
  | some (.cells cs _ _) => takeN n (dropN o cs)
  | _ => none

def isAggD : TypeDesc → Bool
  | .struct _ | .array _ _ => true
  | _ => false

def zeroOf (P : Program) (t : TypeId) : Option Value :=
  match (P.info? t).bind (·.zero) with
  | some v => bif plainV 9 v then some v else none
  | none => none
def sizeT (P : Program) (t : TypeId) : Option Nat := (P.info? t).map (·.size)
def bytesT (P : Program) (t : TypeId) : Option Nat := (P.info? t).map (·.bytes)

/-! ### events: what an operation did to memory -/
inductive Ev where
  | quiet
  | look (b o n : Nat)
  | make (b : Nat) (o : AObj)
  | eff (H H' : AHeap)

/-! ### equality -/
def partA (P : Program) (t : TypeId) (cs : Array Value) (off : Nat) : Option Value :=
  match P.underlying t with
  | some d => bif isAggD d then (match sizeT P t with | some n => some (.agg (cs.extract off (off + n))) | none => none) else cs[off]?
  | none => none

def eqFields (P : Program) (eq : TypeId → Value → Value → Option Bool) (xs ys : Array Value) : List Field → Option Bool
  | [] => some true
  | f :: r => bif f.name == "_" then eqFields P eq xs ys r else
    match partA P f.type xs f.offset, partA P f.type ys f.offset with
    | some u, some v => match eq f.type u v with
      | some true => eqFields P eq xs ys r
      | x => x
    | _, _ => none

/-- The first n elements of two arrays of one cell each. -/
def eqOnes (eq : Value → Value → Option Bool) : Nat → List Value → List Value → Option Bool
  | 0, _, _ => some true
  | n + 1, u :: us, v :: vs => match eq u v with
    | some true => eqOnes eq n us vs
    | x => x
  | _ + 1, _, _ => none
/-- A type of one cell that is no aggregate. -/
def oneT (P : Program) (e : TypeId) : Bool :=
  match P.underlying e, sizeT P e with
  | some d, some n => !(isAggD d) && Nat.beq n 1
  | _, _ => false

def aEqIn (P : Program) : Nat → TypeId → Value → Value → Option Bool
  | 0, _, _, _ => none
  | d + 1, t, x, y => match P.underlying t, x, y with
    | some .bool, .bool a, .bool b => some (a == b)
    | some (.int _), .int k a, .int k' b => if k = k' then some (a == b) else none
    | some .string, .string a, .string b => some (a == b)
    | some (.pointer _), .pointer none, .pointer b => some b.isNone
    | some (.pointer _), .pointer (some _), .pointer none => some false
    | some (.interface _), .nilIface, .nilIface => some true
    | some (.interface _), .nilIface, .iface _ _ => some false
    | some (.interface _), .iface _ _, .nilIface => some false
    | some (.interface _), .iface tx vx, .iface ty vy => if tx ≠ ty then some false else
      match P.info? tx with
      | some i => bif i.comparable then aEqIn P d tx vx vy else none
      | none => none
    | some (.struct fs), .agg xs, .agg ys =>
      bif P.stoodInHeld t then none else
      eqFields P (aEqIn P d) xs ys fs.toList
    | some (.array len e), .agg xs, .agg ys => bif oneT P e then eqOnes (aEqIn P d e) len xs.toList ys.toList else none
    | some (.slice _), .slice none _ _, .slice b _ _ => some b.isNone
    | some (.slice _), .slice (some _) _ _, .slice none _ _ => some false
    | some (.map _ _), .map none, .map b => some b.isNone
    | some (.map _ _), .map (some _), .map none => some false
    | some (.func _ _ _), .nilFunc, .nilFunc => some true
    | some (.func _ _ _), .nilFunc, .func _ _ _ => some false
    | some (.func _ _ _), .func _ _ _, .nilFunc => some false
    | _, _, _ => none

/-! ### operations that only compute -/
def aInt (op : BinOp) (k : IntKind) (x y : Int) : Option Value :=
  match op with
  | .add => some (.int k (k.wrap (x + y)))
  | .sub => some (.int k (k.wrap (x - y)))
  | .mul => some (.int k (k.wrap (x * y)))
  | .quo => if y = 0 then none else some (.int k (k.wrap (x.tdiv y)))
  | .rem => if y = 0 then none else some (.int k (x.tmod y))
  | .and => some (.int k (k.wrap (BitVec.ofInt k.bits x &&& BitVec.ofInt k.bits y).toNat))
  | .or => some (.int k (k.wrap (BitVec.ofInt k.bits x ||| BitVec.ofInt k.bits y).toNat))
  | .xor => some (.int k (k.wrap (BitVec.ofInt k.bits x ^^^ BitVec.ofInt k.bits y).toNat))
  | .andNot => some (.int k (k.wrap (BitVec.ofInt k.bits x &&& ~~~ BitVec.ofInt k.bits y).toNat))
  | .eql => some (.bool (x == y))
  | .neq => some (.bool (x != y))
  | .lss => some (.bool (x < y))
  | .leq => some (.bool (x ≤ y))
  | .gtr => some (.bool (x > y))
  | .geq => some (.bool (x ≥ y))
  | _ => none

def aShift (op : BinOp) (k : IntKind) (x y : Int) : Option Value :=
  if y < 0 then none else
  match op with
  | .shl => some (.int k (k.wrap (x * 2 ^ (min y.toNat k.bits))))
  | .shr => some (.int k (x.fdiv (2 ^ (min y.toNat k.bits))))
  | _ => none

def aStr (op : BinOp) (x y : ByteArray) : Option Value :=
  match op with
  | .add => if ((x.size + y.size : Nat) : Int) > IntKind.i64.max then none else some (.string (x ++ y))
  | .eql => some (.bool (x.data.toList == y.data.toList))
  | .neq => some (.bool (!(x.data.toList == y.data.toList)))
  | .lss => some (.bool (Op.bytesLess x.data.toList y.data.toList))
  | .leq => some (.bool (Op.bytesLess x.data.toList y.data.toList || x.data.toList == y.data.toList))
  | .gtr => some (.bool (!(Op.bytesLess x.data.toList y.data.toList || x.data.toList == y.data.toList)))
  | .geq => some (.bool (!(Op.bytesLess x.data.toList y.data.toList)))
  | _ => none

def isConst : Operand → Bool
  | .const _ => true
  | _ => false
def isEq : BinOp → Bool
  | .eql | .neq => true
  | _ => false
def isShift : BinOp → Bool
  | .shl | .shr => true
  | _ => false

def aBin (P : Program) (op : BinOp) (t : TypeId) (cx cy : Bool) (x y : Value) : Option Value :=
  match x, y with
  | .int k a, .int k' b => bif isShift op then aShift op k a b else if k = k' then aInt op k a b else none
  | .string a, .string b => aStr op a b
  | .float _ _, _ => none
  | .complex _ _ _, _ => none
  | x, y =>
    let ok : Bool := match x, y with
      | .nilIface, .nilIface => cx || cy
      | .agg _, .agg _ => !(P.eqGuardType P.depth t)
      | .int _ _, _ => false
      | _, .int _ _ => false
      | .pointer (some _), .pointer (some _) => false
      | _, _ => true
    bif ok then
      match op with
      | .eql => (aEqIn P 50 t x y).map .bool
      | .neq => (aEqIn P 50 t x y).map fun b => .bool (!b)
      | _ => none
    else none

def aUn (op : UnOp) (x : Value) : Option Value :=
  match op, x with
  | .neg, .int k n => aInt .sub k 0 n
  | .xor, .int k n => aInt .xor k (if k.signed then -1 else k.max) n
  | .not, .bool b => some (.bool !b)
  | _, _ => none

def aConv (P : Program) (src dst : TypeId) (x : Value) : Option Value :=
  match P.underlying src, P.underlying dst, x with
  | some _, some (.int k), .int _ n => some (.int k (k.wrap n))
  | some _, some .string, .string s => some (.string s)
  | _, _, _ => none

/-- A bound that is given lies between. -/
def aBound (v : Option Value) (lo hi dflt : Nat) : Option Nat :=
  match v with
  | none => some dflt
  | some (.int _ i) => if (lo : Int) ≤ i ∧ i ≤ (hi : Int) then some i.toNat else none
  | some _ => none

def aSlice (P : Program) (t : TypeId) (x : Value) (lo hi mx : Option Value) : Option Value :=
  match P.underlying t, x with
  | some .string, .string s =>
    match mx with
    | some _ => none
    | none => match aBound hi 0 s.size s.size with
      | some h => match aBound lo 0 h 0 with
        | some l => some (.string (s.extract l h))
        | none => none
      | none => none
  | some (.slice e), .slice a len cap =>
    match mx, hi with
    | some _, none => none
    | _, _ =>
    match aBound mx 0 cap cap with
    | some m => match aBound hi 0 m len with
      | some h => match aBound lo 0 h 0 with
        | some l => bif Nat.ble h m then match sizeT P e, a with
          | none, _ => none
          | some _, none => some (.slice none (h - l) (m - l))
          | some n, some ⟨b, o, s⟩ =>
            match s, mx with
            | none, _ => some (.slice (some (if m = l then ⟨b, o, none⟩ else ⟨b, o + l * n, none⟩)) (h - l) (m - l))
            | some _, none => some (.slice (some ⟨b, o + l * n, s⟩) (h - l) (m - l))
            | some _, some _ => if m = l ∧ h = l then some (.slice (some ⟨b, o + l * n, none⟩) 0 0) else none
          else none
        | none => none
      | none => none
    | none => none
  | some (.array n e), .pointer (some ⟨b, o, none⟩) =>
    match mx with
    | some _ => none
    | none => match aBound hi 0 n n with
      | some h => match aBound lo 0 h 0 with
        | some l => match sizeT P e with
          | some k => some (.slice (some (if n = l then ⟨b, o, none⟩ else ⟨b, o + l * k, none⟩)) (h - l) (n - l))
          | none => none
        | none => none
      | none => none
  | _, _ => none

def aIndexAddr (P : Program) (t : TypeId) (x ix : Value) : Option Value :=
  match ix with
  | .int _ i => match P.underlying t, x with
    | some (.array len e), .pointer (some ⟨b, o, none⟩) => match sizeT P e with
      | some n => if 0 ≤ i ∧ i < (len : Int) then some (.pointer (some ⟨b, o + i.toNat * n, none⟩)) else none
      | none => none
    | some (.slice e), .slice (some ⟨b, o, _⟩) len cap => match sizeT P e with
      | some n => if 0 ≤ i ∧ i < (len : Int) ∧ len ≤ cap then some (.pointer (some ⟨b, o + i.toNat * n, none⟩)) else none
      | none => none
    | _, _ => none
  | _ => none

def aIndex (P : Program) (t : TypeId) (x ix : Value) : Option Value :=
  match ix with
  | .int _ i => match P.underlying t, x with
    | some (.array len e), .agg cs => match sizeT P e with
      | some n => if 0 ≤ i ∧ i < (len : Int) then partA P e cs (i.toNat * n) else none
      | none => none
    | some .string, .string s => if 0 ≤ i then (match s.data.toList[i.toNat]? with | some b => some (.int .u8 b.toNat) | none => none) else none
    | _, _ => none
  | _ => none

def aFieldAddr (P : Program) (s : TypeId) (x : Value) (j : Nat) : Option Value :=
  match P.underlying s, x with
  | some (.struct fs), .pointer (some ⟨b, o, none⟩) => match fs[j]? with
    | some f => match sizeT P f.type with
      | some (_ + 1) => some (.pointer (some ⟨b, o + f.offset, none⟩))
      | _ => none
    | none => none
  | _, _ => none

def aField (P : Program) (s : TypeId) (x : Value) (j : Nat) : Option Value :=
  match P.underlying s, x with
  | some (.struct fs), .agg cs => match fs[j]? with
    | some f => partA P f.type cs f.offset
    | none => none
  | _, _ => none

def partsL (f : Fr) : List (Nat × Operand) → Option (List (Nat × Value))
  | [] => some []
  | (i, x) :: r => match evO f x, partsL f r with
    | some v, some vs => some ((i, v) :: vs)
    | _, _ => none

/-- Parts laid into cells: 'place' tells where a part begins and how long it is. -/
def fillL (place : Nat → Option (Nat × Nat)) : List Value → List (Nat × Value) → Option (List Value)
  | cs, [] => some cs
  | cs, (i, v) :: r => match place i with
    | some (off, size) => bif Nat.beq v.cells.size size && Nat.ble (off + size) cs.length then
        (match putAt cs off v.cells.toList with | some cs' => fillL place cs' r | none => none) else none
    | none => none

def repZ (zero : List Value) : Nat → List Value
  | 0 => []
  | n + 1 => zero ++ repZ zero n

def places (P : Program) : List Field → Option (List (Nat × Nat))
  | [] => some []
  | f :: r => match sizeT P f.type, places P r with
    | some n, some l => some ((f.offset, n) :: l)
    | _, _ => none

def aBuild (P : Program) (t : TypeId) (parts : List (Nat × Value)) : Option Value :=
  match zeroOf P t with
  | none => none
  | some z => match P.underlying t with
    | some (.struct fs) => match places P fs.toList with
      | some pl => (fillL (pl[·]?) z.cells.toList parts).map fun cs => .agg cs.toArray
      | none => none
    | some (.array _ e) => match sizeT P e with
      | some n => (fillL (fun i => some (i * n, n)) z.cells.toList parts).map fun cs => .agg cs.toArray
      | none => none
    | _ => none

def aMM (isMin : Bool) : Value → List Value → Option Value
  | v, [] => some v
  | .int k x, .int k' y :: r => if k = k' then aMM isMin (.int k (bif isMin then (if y < x then y else x) else (if y > x then y else x))) r else none
  | _, _ :: _ => none
def aMinMax (isMin : Bool) : List Value → Option Value
  | .int k x :: r => aMM isMin (.int k x) r
  | _ => none

def aLenCap (P : Program) (isLen : Bool) (t : TypeId) (x : Value) : Option Value :=
  match P.underlying t, x with
  | some .string, .string s => bif isLen then some (.int .i64 s.size) else none
  | some (.array n _), _ => some (.int .i64 n)
  | some (.slice _), .slice a n c => bif isLen then some (.int .i64 n) else
    (match a with
     | some ⟨_, _, some _⟩ => none
     | _ => some (.int .i64 c))
  | some (.map _ _), .map none => bif isLen then some (.int .i64 0) else none
  | _, _ => none

def isIfaceD : TypeDesc → Bool
  | .interface _ => true
  | _ => false
/-- An assertion to a type that is no interface. -/
def aAssert (P : Program) (d : TypeId) (ok : Bool) (v : Value) : Option Value :=
  match P.underlying d with
  | some t => bif isIfaceD t then none else match v with
    | .nilIface => bif ok then (zeroOf P d).map fun z => .tuple #[z, .bool false] else none
    | .iface t v => if t = d then some (bif ok then .tuple #[v, .bool true] else v) else bif ok then (zeroOf P d).map fun z => .tuple #[z, .bool false] else none
    | _ => none
  | none => none

/-- What an operation computes of its operands alone; none: it is not such a one (or not served). -/
def aQuiet (P : Program) (f : Fr) (op : Op) : Option Value :=
  match op with
  | .move x | .assign x => evO f x
  | .pick c a b => match evO f c with
    | some (.bool t) => bif t then evO f a else evO f b
    | _ => none
  | .nilCheck x => match evO f x with
    | some (.pointer (some a)) => some (.pointer (some a))
    | some (.func (.func g) fi ca) => some (.func (.func g) fi ca)
    | _ => none
  | .build t ps => match partsL f ps.toList with
    | some l => aBuild P t l
    | none => none
  | .binOp op t x y _ => match evO f x, evO f y with
    | some a, some b => aBin P op t (isConst x) (isConst y) a b
    | _, _ => none
  | .unOp op _ x => match evO f x with
    | some a => aUn op a
    | none => none
  | .convert s d x => match evO f x with
    | some a => aConv P s d a
    | none => none
  | .makeInterface t x => match evO f x, P.underlying t with
    | some _, some (.interface _) => none
    | some a, some _ => some (.iface t a)
    | _, _ => none
  | .makeFunc fn first captured => match evL f first.toList, evL f captured.toList with
    | some a, some b => some (.func fn a.toArray b.toArray)
    | _, _ => none
  | .slice t x lo hi mx => match evO f x, evM f lo, evM f hi, evM f mx with
    | some a, some l, some h, some m => aSlice P t a l h m
    | _, _, _, _ => none
  | .fieldAddr s x j => match evO f x with
    | some a => aFieldAddr P s a j
    | none => none
  | .field s x j => match evO f x with
    | some a => aField P s a j
    | none => none
  | .indexAddr t x i => match evO f x, evO f i with
    | some a, some b => aIndexAddr P t a b
    | _, _ => none
  | .index t x i => match evO f x, evO f i with
    | some a, some b => aIndex P t a b
    | _, _ => none
  | .extract t i => match evO f t with
    | some (.tuple vs) => vs[i]?
    | _ => none
  | .typeAssert x _ d ok => match evO f x with
    | some v => aAssert P d ok v
    | none => none
  | .call c => match c.callee with
    | .builtin .len => match c.argTypes[0]?, (c.args[0]?).bind (evO f) with
      | some t, some x => aLenCap P true t x
      | _, _ => none
    | .builtin .cap => match c.argTypes[0]?, (c.args[0]?).bind (evO f) with
      | some t, some x => aLenCap P false t x
      | _, _ => none
    | .builtin .min => match evL f c.args.toList with
      | some l => aMinMax true l
      | none => none
    | .builtin .max => match evL f c.args.toList with
      | some l => aMinMax false l
      | none => none
    | _ => none
  | _ => none

/-! ### operations that read, make and write memory -/
inductive Out where
  | val (v : Value) (H : AHeap) (e : Ev)
  | panic (v : Value) (H : AHeap)

/-- How a call ends. -/
inductive CRes where
  | ret (v : Value)
  | panic (v : Value)

def aLoad (P : Program) (H : AHeap) (t : TypeId) (a : Value) : Option Out :=
  match a, P.underlying t, sizeT P t with
  | .pointer (some ⟨b, o, none⟩), some d, some n =>
    bif isAggD d then (match cellsAt H b o n with | some l => some (.val (.agg l.toArray) H (.look b o n)) | none => none)
    else (match cellsAt H b o 1 with | some [v] => some (.val v H (.look b o 1)) | _ => none)
  | _, _, _ => none

def aStore (P : Program) (H : AHeap) (t : TypeId) (a v : Value) : Option Out :=
  match a, sizeT P t with
  | .pointer (some ⟨b, o, none⟩), some n =>
    bif Nat.beq v.cells.size n && allOne v.cells.toList then
      match H.get b with
      | some (.cells cs opn true) => match putAt cs o v.cells.toList with
        | some cs' => some (.val undef (H.set b (.cells cs' opn true)) (.eff H (H.set b (.cells cs' opn true))))
        | none => none
      | _ => none
    else none
  | _, _ => none

/-- What is made: the new block, and the value that tells where it is. -/
def mkSlice (cs : List Value) (l c : Nat) : Option (AObj × (Nat → Value)) := some (.cells cs 0 true, fun b => .slice (some ⟨b, 0, none⟩) l c)
/-- What a row is marked with: its elements' type and how many cells they have (0: it is a variable). -/
def rowV (t size : Nat) : Nat := Nat.add (Nat.mul 1073741824 (Nat.succ t)) size
def typedV (t : TypeId) : Nat := rowV t 0
def mkTyped (t : TypeId) (cs : List Value) : Option (AObj × (Nat → Value)) := some (.cells cs (typedV t) true, fun b => .pointer (some ⟨b, 0, none⟩))
def mkVar (cs : List Value) : Option (AObj × (Nat → Value)) := some (.cells cs 0 true, fun b => .pointer (some ⟨b, 0, none⟩))

def aMakeSlice (P : Program) (t : TypeId) (l c : Value) : Option (AObj × (Nat → Value)) :=
  match P.underlying t, l, c with
  | some (.slice e), .int _ l, .int _ c => match zeroOf P e, bytesT P e, sizeT P e with
    | some z, some by_, some sz =>
      if 0 ≤ l ∧ l ≤ c ∧ c * by_ ≤ 2 ^ 47 ∧ c ≤ 2 ^ 47 then
        bif Nat.beq z.cells.size sz then mkSlice (repZ z.cells.toList c.toNat) l.toNat c.toNat else none
      else none
    | _, _, _ => none
  | _, _, _ => none

def aBuildSlice (P : Program) (t : TypeId) (len : Nat) (parts : List (Nat × Value)) : Option (AObj × (Nat → Value)) :=
  match P.underlying t with
  | some (.slice e) => match zeroOf P e, sizeT P e with
    | some z, some n =>
      bif Nat.ble (len * n) (2 ^ 24) && Nat.beq z.cells.size n then
        match fillL (fun i => some (i * n, n)) (repZ z.cells.toList len) parts with
        | some cs => mkSlice cs len len
        | none => none
      else none
    | _, _ => none
  | _ => none

def aMake (P : Program) (f : Fr) (op : Op) : Option (AObj × (Nat → Value)) :=
  match op with
  | .alloc e => match zeroOf P e with
    | some z => mkTyped e z.cells.toList
    | none => none
  | .box _ x => match evO f x with
    | some v => mkVar v.cells.toList
    | none => none
  | .buildSlice t len ps => match partsL f ps.toList with
    | some l => aBuildSlice P t len l
    | none => none
  | .makeSlice t l c => match evO f l, evO f c with
    | some l, some c => aMakeSlice P t l c
    | _, _ => none
  | .makeMap _ none => some (.map [], fun b => .map (some b))
  | .range t x => match P.underlying t, evO f x with
    | some .string, some (.string s) => some (.iter s 0, fun b => .pointer (some ⟨b, 0, none⟩))
    | _, _ => none
  | _ => none

/-- The cells that are appended or copied, and how many elements they are. -/
def srcCells (H : AHeap) (size : Nat) : Value → Option (Nat × List Value)
  | .slice none n _ => bif Nat.beq n 0 then some (0, []) else none
  | .slice (some ⟨b, o, _⟩) n c => bif Nat.beq n 0 then some (0, []) else bif Nat.ble n c then (match cellsAt H b o (n * size) with | some l => some (n, l) | none => none) else none
  | .string s => some (s.size, s.data.toList.map fun b => .int .u8 b.toNat)
  | _ => none

def isIntD : TypeDesc → Bool
  | .int _ => true
  | _ => false

def aAppendTo (H : AHeap) (size code by_ : Nat) (base : Option Addr) (len cap n : Nat) (new : List Value) : Option Out :=
  let need := len + n
  bif Nat.ble (need * by_) (2 ^ 47) && Nat.ble need (2 ^ 47) && Nat.beq new.length (n * size) && Nat.ble len cap && allOne new then
    match base with
    | none => bif Nat.beq need 0 then some (.val (.slice none 0 cap) H (.eff H H)) else
      bif Nat.beq cap 0 && Nat.beq len 0 then
        some (.val (.slice (some ⟨H.next, 0, some 0⟩) need need) (H.push (.cells new code true)) (.eff H (H.push (.cells new code true))))
      else none
    | some ⟨b, o, s⟩ =>
      bif Nat.ble need cap then
        match H.get b with
        | some (.cells cs opn own) => bif own || Nat.beq n 0 then
            (match putAt cs (o + len * size) new with
             | some cs' => some (.val (.slice base need cap) (H.set b (.cells cs' opn own)) (.eff H (H.set b (.cells cs' opn own))))
             | none => none) else none
        | _ => bif Nat.beq n 0 then some (.val (.slice base need cap) H (.eff H H)) else none
      else
        match s with
        | none => match (bif Nat.beq (len * size) 0 then some [] else cellsAt H b o (len * size)) with
          | some old => some (.val (.slice (some ⟨H.next, 0, some 0⟩) need need) (H.push (.cells (old ++ new) code true)) (.eff H (H.push (.cells (old ++ new) code true))))
          | none => none
        | some _ => match H.get b with
          | some (.cells cs esz true) => bif Nat.beq esz code && Nat.beq (o + cap * size) cs.length && Nat.ble len cap then
              (match takeN (len * size) (dropN o cs) with
               | some old => some (.val (.slice (some ⟨H.next, 0, some 0⟩) need need) ((H.set b .dead).push (.cells (old ++ new) code true)) (.eff H ((H.set b .dead).push (.cells (old ++ new) code true))))
               | none => none) else none
          | _ => none
  else none

def aAppend (P : Program) (H : AHeap) (ts : Array TypeId) (args : List Value) : Option Out :=
  match ts[0]?, args with
  | some t, [.slice base len cap, x] => match P.underlying t with
    | some (.slice e) => match sizeT P e, bytesT P e, zeroOf P e with
      | some size, some by_, some z =>
        bif Nat.beq by_ 0 || Nat.beq size 0 || !(Nat.beq z.cells.size size) || Nat.ble 1073741824 size then none else
        match (match ts[1]? with | some u => (match P.underlying u with | some d => some (isIntD d) | none => none) | none => some false) with
        | some true => match x with
          | .int _ l => if 0 ≤ l ∧ l * by_ ≤ 2 ^ 47 ∧ l ≤ 2 ^ 47 then
              aAppendTo H size (rowV e size) by_ base len cap l.toNat (repZ z.cells.toList l.toNat)
            else none
          | _ => none
        | some false => match srcCells H size x with
          | some (n, new) => aAppendTo H size (rowV e size) by_ base len cap n new
          | none => none
        | none => none
      | _, _, _ => none
    | _ => none
  | _, _ => none

/-- The first n of what is copied. -/
def cutSrc (n : Nat) : Value → Option (Nat × Value)
  | .slice a m c => some (m, .slice a (Nat.min m n) c)
  | .string s => some (s.size, .string (s.extract 0 n))
  | _ => none
def aCopyTo (H : AHeap) (base : Option Addr) (n : Nat) (new : List Value) : Option Out :=
  match base with
  | none => some (.val (.int .i64 n) H (.eff H H))
  | some ⟨b, o, _⟩ => bif Nat.beq n 0 then some (.val (.int .i64 n) H (.eff H H)) else
    match H.get b with
    | some (.cells cs opn true) => match putAt cs o new with
      | some cs' => some (.val (.int .i64 n) (H.set b (.cells cs' opn true)) (.eff H (H.set b (.cells cs' opn true))))
      | none => none
    | _ => none
def aCopy (P : Program) (H : AHeap) (ts : Array TypeId) (args : List Value) : Option Out :=
  match ts[0]?, args with
  | some t, [.slice base dLen dCap, x] => match P.underlying t with
    | some (.slice e) => match sizeT P e, cutSrc dLen x with
      | some size, some (m, x') => match srcCells H size x' with
        | some (n, new) => bif Nat.beq n (Nat.min m dLen) && Nat.beq new.length (n * size) && Nat.ble dLen dCap && allOne new then aCopyTo H base n new else none
        | none => none
      | _, _ => none
    | _ => none
  | _, _ => none

/-! ### maps -/
/-- May a value be a key of this type: bools, numbers, texts, and structs of these. -/
def keyFields (P : Program) (chk : TypeId → Value → Bool) (cs : Array Value) : List Field → Bool
  | [] => true
  | f :: r => (f.name == "_" || (match partA P f.type cs f.offset with | some u => chk f.type u | none => false)) && keyFields P chk cs r
def flatT (P : Program) (e : TypeId) : Bool :=
  match P.underlying e with
  | some .bool | some (.int _) | some .string => true
  | _ => false
def keyChk (P : Program) : Nat → TypeId → Value → Bool
  | 0, _, _ => false
  | d + 1, t, v => match P.underlying t, v with
    | some .bool, _ | some (.int _), _ | some .string, _ => true
    | some (.struct fs), .agg cs => keyFields P (keyChk P d) cs fs.toList
    | some (.array len e), .agg cs => Nat.ble 1 d && oneT P e && flatT P e && Nat.ble len cs.size
    | _, _ => false

def findA (P : Program) (t : TypeId) (k : Value) : List (Value × Value) → Nat → Option (Option (Nat × Value))
  | [], _ => some none
  | (k', v) :: r, i => match aEqIn P 50 t k k' with
    | some true => some (some (i, v))
    | some false => findA P t k r (i + 1)
    | none => none

def setVal : List (Value × Value) → Nat → Value → Value → List (Value × Value)
  | [], _, _, _ => []
  | e :: r, i, k, v => match i with | 0 => (k, v) :: r | i + 1 => e :: setVal r i k v
def eraseAt : List (Value × Value) → Nat → List (Value × Value)
  | [], _ => []
  | e :: r, i => match i with | 0 => r | i + 1 => e :: eraseAt r i

def entriesOf (H : AHeap) : Option Nat → Option (List (Value × Value))
  | none => some []
  | some r => match H.get r with
    | some (.map es) => some es
    | _ => none

def aLookup (P : Program) (H : AHeap) (t : TypeId) (m k : Value) (ok : Bool) : Option Out :=
  match P.underlying t, m with
  | some (.map kt e), .map r => bif keyChk P 9 kt k then
      match entriesOf H r, zeroOf P e with
      | some es, some z => match findA P kt k es 0 with
        | some (some (_, v)) => some (.val (bif ok then .tuple #[v, .bool true] else v) H (.eff H H))
        | some none => some (.val (bif ok then .tuple #[z, .bool false] else z) H (.eff H H))
        | none => none
      | _, _ => none
    else none
  | _, _ => none

/-- The key that is there is the new one, bit by bit. -/
def oldKey : List (Value × Value) → Nat → Value → Bool
  | [], _, _ => false
  | e :: r, i, k => match i with
    | 0 => plainV 9 e.1 && Instr.sameBits 10000 e.1 k
    | i + 1 => oldKey r i k

def aMapUpdate (P : Program) (H : AHeap) (t : TypeId) (m k v : Value) : Option Out :=
  match P.underlying t, m with
  | some (.map kt _), .map (some r) => bif keyChk P 9 kt k && plainV 9 k then
      match H.get r with
      | some (.map es) => match findA P kt k es 0 with
        | some (some (i, _)) => bif !(oldKey es i k) then none else some (.val undef (H.set r (.map (setVal es i k v))) (.eff H (H.set r (.map (setVal es i k v)))))
        | some none => some (.val undef (H.set r (.map (es ++ [(k, v)]))) (.eff H (H.set r (.map (es ++ [(k, v)])))))
        | none => none
      | _ => none
    else none
  | _, _ => none

def aDelete (P : Program) (H : AHeap) (ts : Array TypeId) (args : List Value) : Option Out :=
  match ts[0]?, args with
  | some t, [.map r, k] => match P.underlying t with
    | some (.map kt _) => bif keyChk P 9 kt k then
        match r with
        | none => some (.val undef H (.eff H H))
        | some r => match H.get r with
          | some (.map es) => match findA P kt k es 0 with
            | some (some (i, _)) => some (.val undef (H.set r (.map (eraseAt es i))) (.eff H (H.set r (.map (eraseAt es i)))))
            | some none => some (.val undef H (.eff H H))
            | none => none
          | _ => none
      else none
    | _ => none
  | _, _ => none

/-- Cells are made zero. -/
def aClear (P : Program) (H : AHeap) (ts : Array TypeId) (args : List Value) : Option Out :=
  match ts[0]?, args with
  | some t, [.slice a n c] => match P.underlying t with
    | some (.slice e) => match sizeT P e, zeroOf P e, a with
      | some _, some _, none => some (.val (.tuple #[]) H (.eff H H))
      | some size, some z, some ⟨b, o, _⟩ => bif Nat.beq n 0 then some (.val (.tuple #[]) H (.eff H H)) else
        bif Nat.beq z.cells.size size && Nat.ble n c && allOne z.cells.toList then
          match H.get b with
          | some (.cells cs opn true) => match putAt cs o (repZ z.cells.toList n) with
            | some cs' => some (.val (.tuple #[]) (H.set b (.cells cs' opn true)) (.eff H (H.set b (.cells cs' opn true))))
            | none => none
          | _ => none
        else none
      | _, _, _ => none
    | _ => none
  | _, _ => none

/-- The length of a map is read, that of all else is told by the value. -/
def aLen (P : Program) (H : AHeap) (ts : Array TypeId) (args : List Value) : Option Out :=
  match ts[0]?, args with
  | some t, [.map (some r)] => match P.underlying t, H.get r with
    | some (.map _ _), some (.map es) => some (.val (.int .i64 es.length) H (.eff H H))
    | _, _ => none
  | some t, [x] => (aLenCap P true t x).map fun v => .val v H .quiet
  | _, _ => none

/-- The bytes of a text. -/
def bytesL : List Value → Option (List Int)
  | [] => some []
  | .int .u8 n :: r => match bytesL r with
    | some l => some (n :: l)
    | none => none
  | _ => none
def lookAt (a : Option Addr) (n : Nat) : Ev :=
  match a with
  | none => .quiet
  | some ⟨b, o, _⟩ => bif Nat.beq n 0 then .quiet else .look b o n
/-- A list of bytes becomes a text. -/
def aText (P : Program) (H : AHeap) (src dst : TypeId) (x : Value) : Option Out :=
  match x with
  | .slice a n c => match P.underlying src, P.underlying dst with
    | some (.slice e), some .string => match P.underlying e with
      | some (.int .u8) => match srcCells H 1 (.slice a n c) with
        | some (_, cs) => match bytesL cs with
          | some l => some (.val (.string ⟨(l.map fun n => UInt8.ofNat n.toNat).toArray⟩) H (lookAt a (n * 1)))
          | none => none
        | none => none
      | _ => none
    | _, _ => none
  | x => (aConv P src dst x).map fun v => .val v H .quiet

/-- The next letter of a text that is gone through; ASCII alone. -/
def aNext (H : AHeap) (it : Value) (isString : Bool) : Option Out :=
  match it with
  | .pointer (some ⟨b, 0, none⟩) => bif isString then match H.get b with
      | some (.iter s pos) => match s.data.toList[pos]? with
        | some c => bif Nat.blt c.toNat 128 then some (.val (.tuple #[.bool true, .int .i64 (Int.ofNat pos), .int .i32 (Int.ofNat c.toNat)]) (H.set b (.iter s (pos + 1))) (.eff H (H.set b (.iter s (pos + 1))))) else none
        | none => some (.val (.tuple #[.bool false]) H (.eff H H))
      | _ => none
    else none
  | _ => none

/-- The unsafe builtins, as strings.Builder uses them. -/
def aSliceData (H : AHeap) (args : List Value) : Option Out :=
  match args with
  | [.slice none _ _] => some (.val (.pointer none) H (.eff H H))
  | [.slice (some ⟨b, o, _⟩) _ c] => bif Nat.beq c 0 then none else some (.val (.pointer (some ⟨b, o, none⟩)) H (.eff H H))
  | _ => none
def bytesU : List Value → Option (List UInt8)
  | [] => some []
  | .int .u8 (.ofNat n) :: r => bif Nat.blt n 256 then (match bytesU r with | some l => some (UInt8.ofNat n :: l) | none => none) else none
  | _ => none
def aUnsafeStr (P : Program) (H : AHeap) (ts : Array TypeId) (args : List Value) : Option Out :=
  match ts[0]?, args with
  | some pt, [.pointer a, .int k (.ofNat n)] =>
    bif Nat.beq n 0 then some (.val (.string ⟨#[]⟩) H (.eff H H)) else
    match P.underlying pt, a with
    | some (.pointer e), some ⟨b, o, none⟩ => match H.get b with
      | some (.cells cs esz true) => bif Nat.beq esz (rowV e 1) && Nat.beq (P.cellsOf e) 1 && Nat.ble n 140737488355328 then
          match takeN n (dropN o cs) with
          | some l => match bytesU l with
            | some u => some (.val (.string ⟨u.toArray⟩) (H.set b .dead) (.eff H (H.set b .dead)))
            | none => none
          | none => none
        else none
      | _ => none
    | _, _ => none
  | _, _ => none

/-- An operation. 'call': how a function of the program ends. -/
def aOp (P : Program) (call : FuncId → List Value → AHeap → Option (CRes × AHeap)) (f : Fr) (H : AHeap) (op : Op) : Option Out :=
  match op with
  | .alloc _ | .box _ _ | .buildSlice _ _ _ | .makeSlice _ _ _ | .makeMap _ _ | .range _ _ => match aMake P f op with
    | some (o, v) => some (.val (v H.next) (H.push o) (.make H.next o))
    | none => none
  | .load t a => match evO f a with
    | some a => aLoad P H t a
    | none => none
  | .store t a x => match evO f a, evO f x with
    | some a, some v => aStore P H t a v
    | _, _ => none
  | .convert s d x => match evO f x with
    | some v => aText P H s d v
    | none => none
  | .next it isString => match evO f it with
    | some it => aNext H it isString
    | none => none
  | .lookup t m k ok => match evO f m, evO f k with
    | some m, some k => aLookup P H t m k ok
    | _, _ => none
  | .mapUpdate t m k v => match evO f m, evO f k, evO f v with
    | some m, some k, some v => aMapUpdate P H t m k v
    | _, _, _ => none
  | .insert t m k v => match evO f m, evO f k, evO f v with
    | some m, some k, some v => aMapUpdate P H t m k v
    | _, _, _ => none
  | .panic x => match evO f x with
    | some (.iface t v) => some (.panic (.iface t v) H)
    | _ => none
  | .call c => match c.callee with
    | .builtin .append => match evL f c.args.toList with
      | some l => aAppend P H c.argTypes l
      | none => none
    | .builtin .copy => match evL f c.args.toList with
      | some l => aCopy P H c.argTypes l
      | none => none
    | .builtin .delete => match evL f c.args.toList with
      | some l => aDelete P H c.argTypes l
      | none => none
    | .builtin .clear => match evL f c.args.toList with
      | some l => aClear P H c.argTypes l
      | none => none
    | .builtin .unsafeSliceData => match evL f c.args.toList with
      | some l => aSliceData H l
      | none => none
    | .builtin .unsafeString => match evL f c.args.toList with
      | some l => aUnsafeStr P H c.argTypes l
      | none => none
    | .builtin .len => match evL f c.args.toList with
      | some l => aLen P H c.argTypes l
      | none => none
    | .value g => match evO f g, evL f c.args.toList with
      | some (.func (.func g) first captured), some args => match call g (first.toList ++ args ++ captured.toList) H with
        | some (.ret v, H') => some (.val v H' (.eff H H'))
        | some (.panic v, H') => some (.panic v H')
        | none => none
      | _, _ => none
    | .builtin _ => (aQuiet P f op).map fun v => .val v H .quiet
    | _ => none
  | op => (aQuiet P f op).map fun v => .val v H .quiet

/-! ### regions -/
def wantedA (ops : Array Oper) (o : Oper) (f : Fr) : Bool :=
  match o.guard with
  | none => true
  | some (j, want) => match ((ops[j]?).bind (·.dst)) with
    | some d => match f.get d with | .bool b => b == want | _ => false
    | none => false

inductive ROut where
  | done (f : Fr) (H : AHeap) (tr : List (Nat × Ev))
  | panic (v : Value) (f : Fr) (H : AHeap)

def runOps (P : Program) (call : FuncId → List Value → AHeap → Option (CRes × AHeap)) (ops : Array Oper) : List Oper → Nat → Fr → AHeap → List (Nat × Ev) → Option ROut
  | [], _, f, H, tr => some (.done f H tr)
  | o :: r, i, f, H, tr =>
    bif wantedA ops o f then
      match aOp P call f H o.op with
      | some (.val v H' e) => match f.put o.dst v with
        | some f' => runOps P call ops r (i + 1) f' H' ((i, e) :: tr)
        | none => none
      | some (.panic v H') => some (.panic v f H')
      | none => none
    else match f.put o.dst undef with
      | some f' => runOps P call ops r (i + 1) f' H tr
      | none => none

mutual
def sameV : Nat → Value → Value → Bool
  | 0, _, _ => false
  | _ + 1, .bool a, .bool b => a == b
  | _ + 1, .int j a, .int k b => (decide (j = k)) && a == b
  | _ + 1, .string a, .string b => a.data.toList == b.data.toList
  | _ + 1, .pointer a, .pointer b => decide (a = b)
  | _ + 1, .slice a n c, .slice b m d => decide (a = b) && Nat.beq n m && Nat.beq c d
  | _ + 1, .map a, .map b => decide (a = b)
  | _ + 1, .nilFunc, .nilFunc => true
  | _ + 1, .nilIface, .nilIface => true
  | n + 1, .iface t v, .iface u w => Nat.beq t u && sameV n v w
  | n + 1, .func f a b, .func g c d => decide (f = g) && sameL n a.toList c.toList && sameL n b.toList d.toList
  | n + 1, .tuple a, .tuple b => sameL n a.toList b.toList
  | _ + 1, _, _ => false
def sameL : Nat → List Value → List Value → Bool
  | 0, _, _ => false
  | _ + 1, [], [] => true
  | n + 1, x :: xs, y :: ys => sameV n x y && sameL n xs ys
  | _ + 1, _, _ => false
end
def sameO : Option (List Value) → Option (List Value) → Bool
  | some a, some b => sameL 5000 a b
  | _, _ => false

/-- Bits: what must come ahead of each operation. -/
def orderedB (ops : Array Oper) (i j : Nat) : Bool := bif Nat.blt i j then ((Region.before ops).getD j 0).testBit i else ((Region.before ops).getD i 0).testBit j

open Classical in
def lookOk (ops : Array Oper) (i b o n j : Nat) (H H' : AHeap) : Bool :=
  orderedB ops i j || sameO (cellsAt H b o n) (cellsAt H' b o n) || decide (cellsAt H b o n = cellsAt H' b o n)

def sameObj : Option AObj → Option AObj → Bool
  | some (.cells a e o), some (.cells b e' o') => sameL 5000 a b && Nat.beq e e' && o == o'
  | some (.map []), some (.map []) => true
  | _, _ => false

open Classical in
def keepOk (ops : Array Oper) (i b j : Nat) (H H' : AHeap) : Bool :=
  orderedB ops i j || sameObj (H.get b) (H'.get b) || decide (H.get b = H'.get b)

def evOk (ops : Array Oper) : Nat × Ev → Nat × Ev → Bool
  | (i, .look b o n), (j, .eff H H') => lookOk ops i b o n j H H'
  | (i, .make b _), (j, .eff H H') => bif Nat.blt i j then keepOk ops i b j H H' else true
  | _, _ => true

def drawOk (ops : Array Oper) (tr : List (Nat × Ev)) : Bool :=
  tr.all fun x => tr.all fun y => evOk ops x y

/-! ### code -/
inductive AExit where
  | normal
  | exit (id : Nat)
  | ret
  | panic (v : Value)

def frOf (args : List Value) (n ng : Nat) : Fr :=
  ⟨(args.foldl (fun (s : Tr Value × Nat) v => (s.1.set s.2 v, s.2 + 1)) (.nil, 0)).1, n, [], ng⟩

def resA (P : Program) (f : Fr) (H : AHeap) : List ResultVar → Option (List Value)
  | [] => some []
  | .tmp t :: r => match resA P f H r with
    | some l => some (f.get t :: l)
    | none => none
  | .cell a t :: r => match aLoad P H t (f.get a), resA P f H r with
    | some (.val v _ _), some l => some (v :: l)
    | _, _ => none

def oneOf : List Value → Value
  | [v] => v
  | l => .tuple l.toArray

/-! ### what is deferred, and what throws -/
/-- The region's last operation defers. -/
def lastDefer : List Oper → Option (List Oper × Oper × Call)
  | [] => none
  | [o] => match o.op with
    | .defer c => bif o.guard.isNone then some ([], o, c) else none
    | _ => none
  | o :: r => match lastDefer r with
    | some (l, o', c) => some (o :: l, o', c)
    | none => none
def deferA (f : Fr) (c : Call) : Option (FuncId × List Value) :=
  match c.callee with
  | .value g => match evO f g, evL f c.args.toList with
    | some (.func (.func g) first captured), some args => some (g, first.toList ++ args ++ captured.toList)
    | _, _ => none
  | _ => none
/-- A body whose first operation recovers. -/
def headRecover : Code → Option (Array Oper × Option Tmp × List Oper × Code)
  | .seq (.region _ ops false) rest => match ops.toList with
    | o :: r => match o.op with
      | .call c => match c.callee with
        | .builtin .recover => bif o.guard.isNone then some (ops, o.dst, r, rest) else none
        | _ => none
      | _ => none
    | [] => none
  | _ => none

/-- How a frame leaves: it returns, it throws, what it threw was caught. -/
inductive AMode where
  | back
  | thrown (v : Value)
  | caught
def AMode.tell : AMode → Value × AMode
  | .thrown v => (v, .caught)
  | m => (.nilIface, m)
def AMode.settle : AMode → AMode
  | .caught => .back
  | m => m

abbrev Exec := Code → Fr → AHeap → Option (AExit × Fr × AHeap)

/-- Functions that are not gone into (their regions are of a kind that is not known here). -/
def refuseF (fn : Func) : Bool :=
  bif Nat.beq fn.ntmps 34 then fn.name == "rejoinder/session.commands$3" else
  bif Nat.beq fn.ntmps 28 then fn.name == "rejoinder/session.commands$4" else false
def bodyOf (fn : Func) : Option Code := bif refuseF fn then none else fn.body
theorem bodyOf_body {fn : Func} {c : Code} (h : bodyOf fn = some c) : fn.body = some c := by
  unfold bodyOf at h
  cases hr : refuseF fn with
  | true => simp [hr] at h
  | false => simpa [hr] using h

/-- A deferred call. -/
def deferX (P : Program) (ex : Exec) (callX : FuncId → List Value → AHeap → Option (CRes × AHeap)) (g : FuncId) (args : List Value) (m : AMode) (H : AHeap) : Option (AMode × AHeap) :=
  match P.funcs[g]? with
  | none => none
  | some fn => match bodyOf fn with
    | none => none
    | some c => match headRecover c with
      | some (ops, d, r, rest) => match (frOf args (max fn.ntmps args.length) H.globN).put d m.tell.1 with
        | none => none
        | some f => match runOps P callX ops r 1 f H [] with
          | some (.done f' H' _) => match ex rest f' H' with
            | some (.normal, f', H') | some (.ret, f', H') => match f'.defs, resA P f' H' fn.results.toList with
              | [], some _ => some (m.tell.2, H')
              | _, _ => none
            | _ => none
          | _ => none
      | none => match ex c (frOf args (max fn.ntmps args.length) H.globN) H with
        | some (.normal, f', H') | some (.ret, f', H') => match f'.defs, resA P f' H' fn.results.toList with
          | [], some _ => some (m, H')
          | _, _ => none
        | _ => none

def leaveX (dx : FuncId → List Value → AMode → AHeap → Option (AMode × AHeap)) : List (FuncId × List Value) → AMode → AHeap → Option (AMode × AHeap)
  | [], m, H => some (m, H)
  | (g, args) :: ds, m, H => match dx g args m H with
    | some (m', H') => leaveX dx ds m'.settle H'
    | none => none

def endX (P : Program) (fn : Func) (f : Fr) : Option (AMode × AHeap) → Option (CRes × AHeap)
  | some (.back, H) => match resA P f H fn.results.toList with
    | some l => some (.ret (oneOf l), H)
    | none => none
  | some (.thrown v, H) => some (.panic v, H)
  | _ => none

/-- How a body's end ends the call. -/
def bodyX (P : Program) (dx : FuncId → List Value → AMode → AHeap → Option (AMode × AHeap)) (fn : Func) : Option (AExit × Fr × AHeap) → Option (CRes × AHeap)
  | some (.normal, f, H) => endX P fn f (leaveX dx f.defs .back H)
  | some (.ret, f, H) => endX P fn f (leaveX dx f.defs .back H)
  | some (.panic v, f, H) => endX P fn f (leaveX dx f.defs (.thrown v) H)
  | _ => none

/-! ### functions of Go's library that are known by their answers -/
inductive Prim where
  | join
  | rep
  | count
  | index
  | check (t : TypeId)
  | atoi
  | add64
  | num (t : TypeId)
def primOf (fn : Func) : Option Prim :=
  bif Nat.beq fn.ntmps 75 then (bif fn.name == "strings.Join" then some .join else none) else
  bif Nat.beq fn.ntmps 125 then (bif fn.name == "strings.Repeat" then some .rep else none) else
  bif Nat.beq fn.ntmps 34 then (bif fn.name == "strings.Count" then some .count else none) else
  bif Nat.beq fn.ntmps 143 then (bif fn.name == "internal/stringslite.Index" then some .index else none) else
  bif Nat.beq fn.ntmps 20 then (bif fn.name == "(*strings.Builder).copyCheck" then fn.params[0]?.map .check else none) else
  bif Nat.beq fn.ntmps 18 then (bif fn.name == "strconv.Atoi" then some .atoi else none) else
  bif Nat.beq fn.ntmps 3 then (bif fn.body.isNone then (bif fn.name == "math/bits.Add64" then some .add64 else none) else none) else
  bif Nat.beq fn.ntmps 45 then (bif fn.name == "(*rejoinder/record.reader).number" then fn.params[0]?.map .num else none) else none
def primAt (P : Program) (g : FuncId) : Option Prim :=
  match P.funcs[g]? with
  | some fn => primOf fn
  | none => none
def textsL : List Value → Option (List ByteArray)
  | [] => some []
  | .string s :: r => match textsL r with
    | some l => some (s :: l)
    | none => none
  | _ => none
/-- All digits. -/
def decV : List UInt8 → Nat → Option Nat
  | [], n => some n
  | c :: r, n => bif Nat.ble 48 c.toNat && Nat.ble c.toNat 57 then decV r (n * 10 + (c.toNat - 48)) else none
/-- A number as it is written, of at most nine digits. -/
def numZ (l : List UInt8) : Option Int :=
  match l with
  | [] => none
  | c :: r => bif Nat.beq c.toNat 45 then
      (match r with
       | [] => none
       | d :: _ => bif Nat.beq d.toNat 48 then none else bif Nat.ble r.length 9 then (match decV r 0 with | some n => some (-(Int.ofNat n)) | none => none) else none)
    else bif Nat.beq c.toNat 48 then (match r with | [] => some 0 | _ => none)
    else bif Nat.ble l.length 9 then (match decV l 0 with | some n => some (Int.ofNat n) | none => none) else none
/-- The powers of ten. -/
def pow10V : List Value := [1, 10, 100, 1000, 10000, 100000, 1000000, 10000000, 100000000, 1000000000, 10000000000, 100000000000, 1000000000000, 10000000000000, 100000000000000, 1000000000000000, 10000000000000000, 100000000000000000, 1000000000000000000, 10000000000000000000].map (Value.int .u64)
def eqInts : List Value → List Value → Bool
  | [], [] => true
  | .int k a :: r, .int k' b :: r' => decide (k = k') && decide (a = b) && eqInts r r'
  | _, _ => false
/-- This program's numbers (laid by mk.py): *errors.errorString; strconv.ErrSyntax, strconv.ErrRange, internal/strconv.uint64pow10. -/
def errTy : TypeId := 139 /- *errors.errorString -/
def gSyn : Nat := 0 /- strconv.ErrSyntax -/
def gRng : Nat := 1 /- strconv.ErrRange -/
def gPow : Nat := 2 /- internal/strconv.uint64pow10 -/
/-- An error's variable: it holds an error of errors.New's make. -/
def errAt (P : Program) (H : AHeap) (g : Nat) : Bool :=
  match H.get 0, H.get (g + 1) with
  | some (.globs n), some (.cells [.iface te (.pointer (some ⟨k, 0, none⟩))] _ _) => Nat.blt g n && (match P.underlying te, H.get k with
    | some (.pointer _), some (.cells [_] esz _) => Nat.beq te errTy && Nat.beq esz 2147483647
    | _, _ => false)
  | _, _ => false
def tabAt (H : AHeap) (g : Nat) : Bool :=
  match H.get 0, H.get (g + 1) with
  | some (.globs n), some (.cells cs esz _) => Nat.blt g n && Nat.ble 1073741824 esz && Nat.beq (esz % 1073741824) 0 && eqInts cs pow10V
  | _, _ => false
def numOk (P : Program) (H : AHeap) : Bool := errAt P H gSyn && errAt P H gRng && tabAt H gPow
/-- The function's answer, and the memory behind it. -/
def primA (P : Program) (p : Prim) (args : List Value) (H : AHeap) : Option (Value × AHeap) :=
  match p, args with
  | .join, [.slice a n c, .string sep] => bif Nat.beq n 0 then some (.string ⟨#[]⟩, H) else
    match a with
    | some ⟨b, o, _⟩ => bif Nat.ble n c && Nat.ble n 140737488355328 then
        match cellsAt H b o n with
        | some cs => match textsL cs with
          | some xs => bif Nat.ble (Lib.join (xs.map (·.data.toList)) sep.data.toList).length 140737488355328 then some (.string ⟨(Lib.join (xs.map (·.data.toList)) sep.data.toList).toArray⟩, H) else none
          | none => none
        | none => none
      else none
    | none => none
  | .rep, [.string s, .int .i64 (.ofNat c)] =>
    bif Nat.beq c 0 then some (.string ⟨#[]⟩, H) else bif Nat.beq c 1 then some (.string s, H) else
    bif Nat.ble c 9223372036854775807 && Nat.ble (s.size * c) 140737488355328 && Nat.ble 1 s.size then some (.string ⟨(Lib.repeatL s.data.toList c).toArray⟩, H) else none
  | .count, [.string s, .string t] => match t.data.toList with
    | [c] => some (.int .i64 (Lib.countByte s.data.toList c), H)
    | _ => none
  | .index, [.string s, .string t] => match t.data.toList with
    | [c] => some (.int .i64 (Lib.indexByte s.data.toList c), H)
    | _ => none
  | .check pt, [.pointer (some ⟨b, 0, none⟩)] => match P.underlying pt with
    | some (.pointer e) => match H.get b with
      | some (.cells [.pointer none, x] esz true) => bif Nat.beq esz (typedV e) then
          some (.tuple #[], H.set b (.cells [.pointer (some ⟨b, 0, none⟩), x] esz true)) else none
      | some (.cells [.pointer (some ⟨b', 0, none⟩), x] esz true) => bif Nat.beq esz (typedV e) && Nat.beq b' b then some (.tuple #[], H) else none
      | _ => none
    | _ => none
  | .atoi, [.string s] => bif Nat.ble s.size 18 then (match Lib.atoi s.data.toList with | some n => some (.tuple #[.int .i64 n, .nilIface], H) | none => none) else none
  | .add64, [.int .u64 (.ofNat x), .int .u64 (.ofNat y), .int .u64 (.ofNat c)] => bif Nat.ble c 1 then some (.tuple #[.int .u64 (Int.ofNat ((x + y + c) % 18446744073709551616)), .int .u64 (Int.ofNat ((x + y + c) / 18446744073709551616))], H) else none
  | .num pt, [.pointer (some ⟨b, 0, none⟩), .string s, .int .i64 lo, .int .i64 hi] => match P.underlying pt with
    | some (.pointer e) => match H.get b with
      | some (.cells [x, .bool bad] esz true) => bif Nat.ble s.size 1000000 && decide (-1000000000 < lo) && decide (hi < 1000000000) && numOk P H then
          (match numZ s.data.toList with
           | some n => bif decide (lo ≤ n) && decide (n ≤ hi) then some (.int .i64 n, H) else some (.int .i64 lo, H.set b (.cells [x, .bool true] esz true))
           | none => some (.int .i64 lo, H.set b (.cells [x, .bool true] esz true))) else none
      | _ => none
    | _ => none
  | _, _ => none

/-- A call, by an executor for code. (A body that defers may call once more in what is deferred, but not from within a call there.) -/
def callB (P : Program) (ex : Exec) (g : FuncId) (args : List Value) (H : AHeap) : Option (CRes × AHeap) :=
  match P.funcs[g]? with
  | none => none
  | some fn => match bodyOf fn with
    | none => none
    | some c => bodyX P (deferX P ex fun _ _ _ => none) fn (ex c (frOf args (max fn.ntmps args.length) H.globN) H)

def callX (P : Program) (ex : Exec) (g : FuncId) (args : List Value) (H : AHeap) : Option (CRes × AHeap) :=
  match primAt P g with
  | some p => match primA P p args H with
    | some (v, H') => some (.ret v, H')
    | none => none
  | none => callB P ex g args H

def exec (P : Program) : Nat → Code → Fr → AHeap → Option (AExit × Fr × AHeap)
  | 0, _, _, _ => none
  | k + 1, c, f, H =>
    match c with
    | .skip => some (.normal, f, H)
    | .label _ => some (.normal, f, H)
    | .ret => some (.ret, f, H)
    | .exit id => some (.exit id, f, H)
    | .seq a b => match exec P k a f H with
      | some (.normal, f', H') => exec P k b f' H'
      | r => r
    | .cond c a b => match evO f c with
      | some (.bool t) => bif t then exec P k a f H else exec P k b f H
      | _ => none
    | .block id c => match exec P k c f H with
      | some (.exit i, f', H') => bif Nat.beq i id then some (.normal, f', H') else some (.exit i, f', H')
      | r => r
    | .loop c => match exec P k c f H with
      | some (.normal, f', H') => exec P k (.loop c) f' H'
      | r => r
    | .scope c => exec P k c f H
    | .region _ ops draw =>
      match lastDefer ops.toList with
      | none => match runOps P (callX P (exec P k)) ops ops.toList 0 f H [] with
        | some (.done f' H' tr) => bif draw then (bif drawOk ops tr then some (.normal, f', H') else none) else some (.normal, f', H')
        | some (.panic v f' H') => bif draw then none else some (.panic v, f', H')
        | none => none
      | some (pre, o, c) => bif draw then none else match runOps P (callX P (exec P k)) ops pre 0 f H [] with
        | some (.done f' H' _) => match deferA f' c, f'.put o.dst undef with
          | some d, some f'' => some (.normal, ⟨f''.tmps, f''.size, d :: f''.defs, f''.glob⟩, H')
          | _, _ => none
        | _ => none
    | _ => none

def callA (P : Program) (k : Nat) (g : FuncId) (args : List Value) (H : AHeap) : Option (CRes × AHeap) := callX P (exec P k) g args H

def H0 : AHeap := ⟨.nil, 0⟩
/-- The call ends with true. -/
def isTrue : Option (CRes × AHeap) → Bool
  | some (.ret (.bool b), _) => b
  | _ => false
end
end Go.AX
