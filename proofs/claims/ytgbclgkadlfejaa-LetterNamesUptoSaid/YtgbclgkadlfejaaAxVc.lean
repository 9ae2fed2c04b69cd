/- Conditions along the code: what is to be shown so that the executor comes to an end that is told. -/
import Derived.Test.YtgbclgkadlfejaaAxMono
import Derived.Test.YtgbclgkadlfejaaAxWf
import Derived.Test.YtgbclgkadlfejaaAxTr
namespace Go.AX
open Go
set_option linter.unusedVariables false
set_option linter.unusedSimpArgs false

variable {P : Program}

/-- The call comes to an end of which Q holds. -/
structure Does (P : Program) (g : FuncId) (args : List Value) (H : AHeap) (Q : CRes → AHeap → Prop) : Prop where
  intro :: ends : ∃ k r H', callA P k g args H = some (r, H') ∧ Q r H'
/-- What is known of a frame: slots, the newest first. -/
abbrev Env := List (Nat × Value)
def lk (n : Nat) : Env → Option Value
  | [] => none
  | (m, v) :: r => bif Nat.beq n m then some v else lk n r
structure FOk (env : Env) (N ng : Nat) (f : Fr) : Prop where
  sub : ∀ n v, lk n env = some v → f.get n = v
  size : f.size = N
  defs : f.defs = []
  glob : f.glob = ng
structure Runs (P : Program) (N ng : Nat) (c : Code) (env : Env) (H : AHeap) (Q : AExit → Env → AHeap → Prop) : Prop where
  intro :: ends : ∀ f, FOk env N ng f → ∃ k e f' H' env', exec P k c f H = some (e, f', H') ∧ FOk env' N ng f' ∧ Q e env' H'
structure DrawP (ops : Array Oper) (tr : List (Nat × Ev)) : Prop where
  intro :: ok : drawOk ops tr = true
structure Outs (o : Option Out) (K : Value → AHeap → Ev → Prop) : Prop where
  intro :: ends : ∃ v H e, o = some (.val v H e) ∧ K v H e
structure Gives (o : Option Value) (K : Value → Prop) : Prop where
  intro :: ends : ∃ v, o = some v ∧ K v
/-- A test: both ways. -/
structure Both (A B : Prop) : Prop where
  intro ::
  yes : A
  no : B
/-- What is asked ahead. -/
structure Need (c A : Prop) : Prop where
  intro ::
  cond : c
  rest : A
/-- The cell at an address. -/
noncomputable def cellAt (H : AHeap) (b o : Nat) : Option Value :=
  match H.get b with
  | some (.cells cs _ _) => cs[o]?
  | _ => none

noncomputable section
def Br (t : Bool) (A B : Prop) : Prop := Bool.rec B A t
def optK (o : Option Value) (K : Value → Prop) : Prop := Option.rec False (fun v => K v) o

def oE (ng : Nat) (env : Env) (x : Operand) (K : Value → Prop) : Prop :=
  match x with
  | .tmp t => optK (lk t env) K
  | .const v => bif plainV 9 v then K v else False
  | .global g => bif Nat.blt g ng then K (.pointer (some ⟨g + 1, 0, none⟩)) else False
  | .func g => K (.func (.func g) #[] #[])
def oM (ng : Nat) (env : Env) (x : Option Operand) (K : Option Value → Prop) : Prop :=
  match x with
  | none => K none
  | some x => oE ng env x fun v => K (some v)
def oL (ng : Nat) (env : Env) : List Operand → (List Value → Prop) → Prop
  | [], K => K []
  | x :: r, K => oE ng env x fun v => oL ng env r fun vs => K (v :: vs)
def pL (ng : Nat) (env : Env) : List (Nat × Operand) → (List (Nat × Value) → Prop) → Prop
  | [], K => K []
  | (i, x) :: r, K => oE ng env x fun v => pL ng env r fun vs => K ((i, v) :: vs)

def tst (p : Prop) (K : Value → Prop) : Prop := Both (p → K (.bool true)) (¬ p → K (.bool false))
def intK (op : BinOp) (k : IntKind) (x y : Int) (K : Value → Prop) : Prop :=
  match op with
  | .eql => tst (x = y) K
  | .neq => tst (x ≠ y) K
  | .lss => tst (x < y) K
  | .leq => tst (x ≤ y) K
  | .gtr => tst (x > y) K
  | .geq => tst (x ≥ y) K
  | .add => (match k with | .i64 => Need (-9223372036854775808 ≤ x + y ∧ x + y ≤ 9223372036854775807) <| K (.int .i64 (x + y)) | k => K (.int k (k.wrap (x + y))))
  | .sub => (match k with | .i64 => Need (-9223372036854775808 ≤ x - y ∧ x - y ≤ 9223372036854775807) <| K (.int .i64 (x - y)) | k => K (.int k (k.wrap (x - y))))
  | .quo | .rem => Need (y ≠ 0) <| Gives (aInt op k x y) K
  | op => Gives (aInt op k x y) K
def strK (op : BinOp) (x y : ByteArray) (K : Value → Prop) : Prop :=
  match op with
  | .eql => tst (x.data.toList = y.data.toList) K
  | .neq => tst (x.data.toList ≠ y.data.toList) K
  | op => Gives (aStr op x y) K
def binK (P : Program) (op : BinOp) (t : TypeId) (cx cy : Bool) (x y : Value) (K : Value → Prop) : Prop :=
  match x, y with
  | .int k a, .int k' b => bif isShift op then (Need (0 ≤ b) <| Gives (aShift op k a b) K) else (if k = k' then intK op k a b K else False)
  | .string a, .string b => strK op a b K
  | x, y => Gives (aBin P op t cx cy x y) K

/-- A small number, worked out. -/
def numK (n : Nat) (K : Nat → Prop) : Prop :=
  match n with
  | 0 => K 0 | 1 => K 1 | 2 => K 2 | 3 => K 3 | 4 => K 4 | 5 => K 5 | 6 => K 6 | 7 => K 7 | 8 => K 8 | 9 => K 9 | 10 => K 10 | 11 => K 11 | 12 => K 12
  | n => K n
/-- Where element i of elements of n cells lies. -/
def place (o : Nat) (i : Int) (n : Nat) (K : Nat → Prop) : Prop :=
  match n with
  | 1 => K (o + i.toNat)
  | n => numK n fun n => K (o + i.toNat * n)

def loadK (P : Program) (H : AHeap) (t : TypeId) (a : Value) (K : Value → AHeap → Ev → Prop) : Prop :=
  match a, P.underlying t, sizeT P t with
  | .pointer (some ⟨b, o, none⟩), some d, some n =>
    bif isAggD d then (numK n fun n => ∃ l, cellsAt H b o n = some l ∧ K (.agg l.toArray) H (.look b o n))
    else (∃ v, cellAt H b o = some v ∧ K v H (.look b o 1))
  | _, _, _ => False

def indexAddrK (P : Program) (t : TypeId) (x ix : Value) (K : Value → Prop) : Prop :=
  match ix with
  | .int _ i => match P.underlying t, x with
    | some (.array len e), .pointer (some ⟨b, o, none⟩) => match sizeT P e with
      | some n => Need (0 ≤ i ∧ i < (len : Int)) <| place o i n fun a => K (.pointer (some ⟨b, a, none⟩))
      | none => False
    | some (.slice e), .slice (some ⟨b, o, _⟩) len cap => match sizeT P e with
      | some n => Need (0 ≤ i ∧ i < (len : Int) ∧ len ≤ cap) <| place o i n fun a => K (.pointer (some ⟨b, a, none⟩))
      | none => False
    | _, _ => False
  | _ => False

def indexK (P : Program) (t : TypeId) (x ix : Value) (K : Value → Prop) : Prop :=
  match ix, x with
  | .int _ i, .string s => (match P.underlying t with
    | some .string => Need (0 ≤ i) <| ∃ b, s.data.toList[i.toNat]? = some b ∧ K (.int .u8 b.toNat)
    | _ => False)
  | _, _ => Gives (aIndex P t x ix) K

def undK (P : Program) (ts : Array TypeId) (K : TypeDesc → Prop) : Prop :=
  match ts[0]? with
  | some t => (match P.underlying t with
    | some d => K d
    | none => False)
  | none => False
def lenK (P : Program) (H : AHeap) (ts : Array TypeId) (l : List Value) (K : Value → AHeap → Ev → Prop) : Prop :=
  match l with
  | [.slice a n c] => undK P ts fun | .slice _ => K (.int .i64 n) H .quiet | _ => False
  | [.string s] => undK P ts fun | .string => K (.int .i64 s.size) H .quiet | _ => False
  | l => Outs (aLen P H ts l) K
def capK (P : Program) (H : AHeap) (ts : Array TypeId) (l : List Value) (K : Value → AHeap → Ev → Prop) : Prop :=
  match l with
  | [.slice none n c] => undK P ts fun | .slice _ => K (.int .i64 c) H .quiet | _ => False
  | [.slice (some ⟨b, o, none⟩) n c] => undK P ts fun | .slice _ => K (.int .i64 c) H .quiet | _ => False
  | _ => False
/-- What is known of an operation's end. -/
def opK (P : Program) (ng : Nat) (env : Env) (H : AHeap) (op : Op) (K : Value → AHeap → Ev → Prop) : Prop :=
  match op with
  | .move x | .assign x => oE ng env x fun v => K v H .quiet
  | .pick c a b => oE ng env c fun
    | .bool t => Br t (oE ng env a fun v => K v H .quiet) (oE ng env b fun v => K v H .quiet)
    | _ => False
  | .binOp op t x y _ => oE ng env x fun a => oE ng env y fun b => binK P op t (isConst x) (isConst y) a b fun v => K v H .quiet
  | .unOp op _ x => oE ng env x fun
    | .bool t => (match op with | .not => Br t (K (.bool false) H .quiet) (K (.bool true) H .quiet) | _ => False)
    | v => Gives (aUn op v) fun v => K v H .quiet
  | .convert s d x => oE ng env x fun
    | .int k n => Gives (aConv P s d (.int k n)) fun v => K v H .quiet
    | v => Outs (aText P H s d v) K
  | .slice t x lo hi mx => oE ng env x fun a => oM ng env lo fun l => oM ng env hi fun h => oM ng env mx fun m => Gives (aSlice P t a l h m) fun v => K v H .quiet
  | .indexAddr t x i => oE ng env x fun a => oE ng env i fun b => indexAddrK P t a b fun v => K v H .quiet
  | .index t x i => oE ng env x fun a => oE ng env i fun b => indexK P t a b fun v => K v H .quiet
  | .fieldAddr s x j => oE ng env x fun a => Gives (aFieldAddr P s a j) fun v => K v H .quiet
  | .field s x j => oE ng env x fun a => Gives (aField P s a j) fun v => K v H .quiet
  | .extract t i => oE ng env t fun
    | .tuple vs => optK vs[i]? fun v => K v H .quiet
    | _ => False
  | .nilCheck x => oE ng env x fun
    | .pointer (some a) => K (.pointer (some a)) H .quiet
    | .func (.func g) fi ca => K (.func (.func g) fi ca) H .quiet
    | _ => False
  | .build t ps => pL ng env ps.toList fun l => Gives (aBuild P t l) fun v => K v H .quiet
  | .makeFunc fn first captured => oL ng env first.toList fun a => oL ng env captured.toList fun b => K (.func fn a.toArray b.toArray) H .quiet
  | .alloc e => Gives (zeroOf P e) fun z => K (.pointer (some ⟨H.next, 0, none⟩)) (H.push (.cells z.cells.toList (typedV e) true)) (.make H.next (.cells z.cells.toList (typedV e) true))
  | .box _ x => oE ng env x fun v => K (.pointer (some ⟨H.next, 0, none⟩)) (H.push (.cells v.cells.toList 0 true)) (.make H.next (.cells v.cells.toList 0 true))
  | .buildSlice t len ps => pL ng env ps.toList fun l => ∃ cs, aBuildSlice P t len l = mkSlice cs len len ∧ K (.slice (some ⟨H.next, 0, none⟩) len len) (H.push (.cells cs 0 true)) (.make H.next (.cells cs 0 true))
  | .makeSlice t l c => oE ng env l fun l => oE ng env c fun c => ∃ cs n m, aMakeSlice P t l c = mkSlice cs n m ∧ K (.slice (some ⟨H.next, 0, none⟩) n m) (H.push (.cells cs 0 true)) (.make H.next (.cells cs 0 true))
  | .makeMap _ none => K (.map (some H.next)) (H.push (.map [])) (.make H.next (.map []))
  | .load t a => oE ng env a fun a => loadK P H t a K
  | .store t a x => oE ng env a fun a => oE ng env x fun v => Outs (aStore P H t a v) K
  | .lookup t m k ok => oE ng env m fun m => oE ng env k fun k => Outs (aLookup P H t m k ok) K
  | .mapUpdate t m k v => oE ng env m fun m => oE ng env k fun k => oE ng env v fun v => Outs (aMapUpdate P H t m k v) K
  | .insert t m k v => oE ng env m fun m => oE ng env k fun k => oE ng env v fun v => Outs (aMapUpdate P H t m k v) K
  | .call c => match c.callee with
    | .builtin .append => oL ng env c.args.toList fun l => Outs (aAppend P H c.argTypes l) K
    | .builtin .copy => oL ng env c.args.toList fun l => Outs (aCopy P H c.argTypes l) K
    | .builtin .len => oL ng env c.args.toList fun l => lenK P H c.argTypes l K
    | .builtin .cap => oL ng env c.args.toList fun l => capK P H c.argTypes l K
    | .value g => oE ng env g fun
      | .func (.func g) first captured => oL ng env c.args.toList fun args => Does P g (first.toList ++ args ++ captured.toList) H fun
        | .ret v, H' => K v H' (.eff H H')
        | .panic _, _ => False
      | _ => False
    | _ => False
  | _ => False

def putE (N : Nat) (env : Env) (d : Option Tmp) (v : Value) (K : Env → Prop) : Prop :=
  match d with
  | none => K env
  | some d => bif Nat.blt d N then K ((d, v) :: env) else False
def guardK (ops : Array Oper) (o : Oper) (env : Env) (A B : Prop) : Prop :=
  match o.guard with
  | none => A
  | some (j, want) => match (ops[j]?).bind (·.dst) with
    | some d => optK (lk d env) fun
      | .bool b => (match want with | true => Br b A B | false => Br b B A)
      | _ => B
    | none => False
def opsK (P : Program) (N ng : Nat) (ops : Array Oper) (l : List Oper) : Nat → Env → AHeap → List (Nat × Ev) → (Env → AHeap → List (Nat × Ev) → Prop) → Prop :=
  List.rec (motive := fun _ => Nat → Env → AHeap → List (Nat × Ev) → (Env → AHeap → List (Nat × Ev) → Prop) → Prop)
    (fun _ env H tr K => K env H tr)
    (fun o r ih i env H tr K => guardK ops o env
      (opK P ng env H o.op fun v H' e => putE N env o.dst v fun env' => ih (i + 1) env' H' ((i, e) :: tr) K)
      (putE N env o.dst undef fun env' => ih (i + 1) env' H tr K)) l
def noDefer (ops : Array Oper) : Bool := (lastDefer ops.toList).isNone

abbrev Post := AExit → Env → AHeap → Prop
def seqK (vb : Env → AHeap → Post → Prop) (Q : Post) : Post := fun e env H =>
  match e with
  | .normal => vb env H Q
  | e => Q e env H
def blockK (id : Nat) (Q : Post) : Post := fun e env H =>
  match e with
  | .exit i => bif Nat.beq i id then Q .normal env H else Q (.exit i) env H
  | e => Q e env H
def condK (t : Value) (A B : Prop) : Prop :=
  match t with
  | .bool t => Br t A B
  | _ => False
def endK (ops : Array Oper) (draw : Bool) (Q : Post) : Env → AHeap → List (Nat × Ev) → Prop := fun env' H' tr => (bif draw then (Need (DrawP ops tr) <| Q .normal env' H') else Q .normal env' H')
def vc (P : Program) (N ng : Nat) (c : Code) : Env → AHeap → Post → Prop :=
  Code.rec (motive := fun _ => Env → AHeap → Post → Prop)
    (fun env H Q => Q .normal env H)
    (fun _ ops draw env H Q => bif noDefer ops then opsK P N ng ops ops.toList 0 env H [] (endK ops draw Q) else False)
    (fun _ _ va vb env H Q => va env H (seqK vb Q))
    (fun c _ _ va vb env H Q => oE ng env c fun t => condK t (va env H Q) (vb env H Q))
    (fun id _ vb env H Q => vb env H (blockK id Q))
    (fun c _ env H Q => Runs P N ng (.loop c) env H Q)
    (fun _ _ _ _ _ _ _ _ _ => False)
    (fun id env H Q => Q (.exit id) env H)
    (fun _ vb env H Q => vb env H Q)
    (fun _ env H Q => Q .normal env H)
    (fun _ _ _ _ => False)
    (fun env H Q => Q .ret env H)
    (fun _ _ _ _ => False) c
end
end Go.AX
