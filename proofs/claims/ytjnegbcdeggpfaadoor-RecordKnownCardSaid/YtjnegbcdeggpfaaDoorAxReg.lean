/- What is asked of a region whose order is drawn: by sight of its operations. -/
import Derived.Test.YtjnegbcdeggpfaaDoorAxDef
namespace Go.AX
open Go

def tmpsOf : List Operand → List Nat
  | [] => []
  | .tmp t :: r => t :: tmpsOf r
  | _ :: r => tmpsOf r

/-- The temporaries that an operation reads, its guard's too. -/
def readsOf (ops : Array Oper) (o : Oper) : List Nat :=
  tmpsOf o.op.operands.toList ++ (match o.guard with | none => [] | some (j, _) => ((ops[j]?).bind (·.dst)).toList)

def isMapT (P : Program) (ts : Array TypeId) : Bool :=
  match ts[0]? with
  | some t => match P.underlying t with
    | some (.map _ _) => true
    | _ => false
  | none => false
def isEff (P : Program) : Op → Bool
  | .store _ _ _ | .panic _ | .lookup _ _ _ _ | .mapUpdate _ _ _ _ | .insert _ _ _ _ | .next _ _ => true
  | .call c => match c.callee with
    | .builtin .len => isMapT P c.argTypes
    | .builtin .cap | .builtin .min | .builtin .max => false
    | _ => true
  | _ => false

def pairOk (P : Program) (ops : Array Oper) (b : Array Nat) (i j : Nat) (oi oj : Oper) : Bool :=
  (b.getD j 0).testBit i ||
  (!(isEff P oi.op && isEff P oj.op) &&
   (match oi.dst with | none => true | some d => !(readsOf ops oj).contains d && !(oj.dst == some d)) &&
   (match oj.dst with | none => true | some d => !(readsOf ops oi).contains d))

def rowOk (P : Program) (ops : Array Oper) (b : Array Nat) (j : Nat) (oj : Oper) : List Oper → Nat → Bool
  | [], _ => true
  | oi :: r, i => (if i < j then pairOk P ops b i j oi oj else true) && rowOk P ops b j oj r (i + 1)
def rowsOk (P : Program) (ops : Array Oper) (b : Array Nat) : List Oper → Nat → Bool
  | [], _ => true
  | oj :: r, j => rowOk P ops b j oj ops.toList 0 && (oj.after.toList.all fun e => !Region.binds .any e || Nat.blt e.on j) && rowsOk P ops b r (j + 1)
def regOk (P : Program) (ops : Array Oper) : Bool := rowsOk P ops (Region.before ops) ops.toList 0

def codeOk (P : Program) : Code → Bool
  | .region _ ops draw => !draw || regOk P ops
  | .seq a b => codeOk P a && codeOk P b
  | .cond _ a b => codeOk P a && codeOk P b
  | .block _ c => codeOk P c
  | .loop c => codeOk P c
  | .scope c => codeOk P c
  | _ => true

def progOk (P : Program) : Bool := P.funcs.toList.all fun fn => (match bodyOf fn with | some c => codeOk P c | none => true) && !(fn.name == "runtime.NumGoroutine")
end Go.AX
