/- Conditions along the code: what is to be shown so that the executor comes to an end that is told. -/
import Derived.Test.YtjnegbcdeggpfaaDoorAxOrc
import Derived.Test.YtjnegbcdeggpfaaDoorAxTr
import Derived.Test.YtjnegbcdeggpfaaDoorAxExec
namespace Go.AX
open Go
set_option linter.unusedVariables false
set_option linter.unusedSimpArgs false

variable {P : Program}

/-- The call comes to an end of which Q holds. -/
structure Does (P : Program) (O : Orc) (g : FuncId) (args : List Value) (H : AHeap) (Q : CRes → AHeap → Prop) : Prop where
  intro :: ends : ∃ k r H', callAO P O k g args H = some (r, H') ∧ Q r H'
/-- What is known of a frame: slots, the newest first. -/
abbrev Env := List (Nat × Value)
def lk (n : Nat) : Env → Option Value
  | [] => none
  | (m, v) :: r => bif Nat.beq n m then some v else lk n r
structure FOk (env : Env) (N ng : Nat) (f : Fr) : Prop where
  sub : ∀ n v, lk n env = some v → f.get n = v
  size : f.size = N
  defs : f.defs = []
  glob : f.glob = ng
structure Runs (P : Program) (O : Orc) (N ng : Nat) (c : Code) (env : Env) (H : AHeap) (Q : AExit → Env → AHeap → Prop) : Prop where
  intro :: ends : ∀ f, FOk env N ng f → ∃ k e f' H' env', execO P O k c f H = some (e, f', H') ∧ FOk env' N ng f' ∧ Q e env' H'
structure DrawP (ops : Array Oper) (tr : List (Nat × Ev)) : Prop where
  intro :: ok : drawOk ops tr = true
structure Outs (o : Option Out) (K : Value → AHeap → Ev → Prop) : Prop where
  intro :: ends : ∃ v H e, o = some (.val v H e) ∧ K v H e
structure Gives (o : Option Value) (K : Value → Prop) : Prop where
  intro :: ends : ∃ v, o = some v ∧ K v
/-- A test: both ways. -/
structure Both (A B : Prop) : Prop where
  intro ::
  yes : A
  no : B
/-- What is asked ahead. -/
structure Need (c A : Prop) : Prop where
  intro ::
  cond : c
  rest : A
/-- The cell at an address. -/
noncomputable def cellAt (H : AHeap) (b o : Nat) : Option Value :=
  match H.get b with
  | some (.cells cs _ _) => cs[o]?
  | _ => none

noncomputable section
def Br (t : Bool) (A B : Prop) : Prop := Bool.rec B A t
def optK (o : Option Value) (K : Value → Prop) : Prop := Option.rec False (fun v => K v) o

def oE (ng : Nat) (env : Env) (x : Operand) (K : Value → Prop) : Prop :=
  match x with
  | .tmp t => optK (lk t env) K
  | .const v => bif plainV 9 v then K v else False
  | .global g => bif Nat.blt g ng then K (.pointer (some ⟨g + 1, 0, none⟩)) else False
  | .func g => K (.func (.func g) #[] #[])
def oM (ng : Nat) (env : Env) (x : Option Operand) (K : Option Value → Prop) : Prop :=
  match x with
  | none => K none
  | some x => oE ng env x fun v => K (some v)
def oL (ng : Nat) (env : Env) : List Operand → (List Value → Prop) → Prop
  | [], K => K []
  | x :: r, K => oE ng env x fun v => oL ng env r fun vs => K (v :: vs)
def pL (ng : Nat) (env : Env) : List (Nat × Operand) → (List (Nat × Value) → Prop) → Prop
  | [], K => K []
  | (i, x) :: r, K => oE ng env x fun v => pL ng env r fun vs => K ((i, v) :: vs)

def tst (p : Prop) (K : Value → Prop) : Prop := Both (p → K (.bool true)) (¬ p → K (.bool false))
def intK (op : BinOp) (k : IntKind) (x y : Int) (K : Value → Prop) : Prop :=
  match op with
  | .eql => tst (x = y) K
  | .neq => tst (x ≠ y) K
  | .lss => tst (x < y) K
  | .leq => tst (x ≤ y) K
  | .gtr => tst (x > y) K
  | .geq => tst (x ≥ y) K
  | .add => (match k with | .i64 => Need (-9223372036854775808 ≤ x + y ∧ x + y ≤ 9223372036854775807) <| K (.int .i64 (x + y)) | k => K (.int k (k.wrap (x + y))))
  | .sub => (match k with | .i64 => Need (-9223372036854775808 ≤ x - y ∧ x - y ≤ 9223372036854775807) <| K (.int .i64 (x - y)) | k => K (.int k (k.wrap (x - y))))
  | .quo | .rem => Need (y ≠ 0) <| Gives (aInt op k x y) K
  | op => Gives (aInt op k x y) K
def strK (op : BinOp) (x y : ByteArray) (K : Value → Prop) : Prop :=
  match op with
  | .eql => tst (x.data.toList = y.data.toList) K
  | .neq => tst (x.data.toList ≠ y.data.toList) K
  | op => Gives (aStr op x y) K
def binK (P : Program) (op : BinOp) (t : TypeId) (cx cy : Bool) (x y : Value) (K : Value → Prop) : Prop :=
  match x, y with
  | .int k a, .int k' b => bif isShift op then (Need (0 ≤ b) <| Gives (aShift op k a b) K) else (if k = k' then intK op k a b K else False)
  | .string a, .string b => strK op a b K
  | x, y => Gives (aBin P op t cx cy x y) K

/-- A small number, worked out. -/
def numK (n : Nat) (K : Nat → Prop) : Prop :=
  match n with
  | 0 => K 0 | 1 => K 1 | 2 => K 2 | 3 => K 3 | 4 => K 4 | 5 => K 5 | 6 => K 6 | 7 => K 7 | 8 => K 8 | 9 => K 9 | 10 => K 10 | 11 => K 11 | 12 => K 12
  | n => K n
/-- Where element i of elements of n cells lies. -/
def place (o : Nat) (i : Int) (n : Nat) (K : Nat → Prop) : Prop :=
  match n with
  | 1 => K (o + i.toNat)
  | n => numK n fun n => K (o + i.toNat * n)

def loadK (P : Program) (H : AHeap) (t : TypeId) (a : Value) (K : Value → AHeap → Ev → Prop) : Prop :=
  match a, P.underlying t, sizeT P t with
  | .pointer (some ⟨b, o, none⟩), some d, some n =>
    bif isAggD d then (numK n fun n => ∃ l, cellsAt H b o n = some l ∧ K (.agg l.toArray) H (.look b o n))
    else (∃ v, cellAt H b o = some v ∧ K v H (.look b o 1))
  | _, _, _ => False

def indexAddrK (P : Program) (t : TypeId) (x ix : Value) (K : Value → Prop) : Prop :=
  match ix with
  | .int _ i => match P.underlying t, x with
    | some (.array len e), .pointer (some ⟨b, o, none⟩) => match sizeT P e with
      | some n => Need (0 ≤ i ∧ i < (len : Int)) <| place o i n fun a => K (.pointer (some ⟨b, a, none⟩))
      | none => False
    | some (.slice e), .slice (some ⟨b, o, _⟩) len cap => match sizeT P e with
      | some n => Need (0 ≤ i ∧ i < (len : Int) ∧ len ≤ cap) <| place o i n fun a => K (.pointer (some ⟨b, a, none⟩))
      | none => False
    | _, _ => False
  | _ => False

def indexK (P : Program) (t : TypeId) (x ix : Value) (K : Value → Prop) : Prop :=
  match ix, x with
  | .int _ i, .string s => (match P.underlying t with
    | some .string => Need (0 ≤ i) <| ∃ b, s.data.toList[i.toNat]? = some b ∧ K (.int .u8 b.toNat)
    | _ => False)
  | _, _ => Gives (aIndex P t x ix) K

def fieldAddrK (P : Program) (s : TypeId) (x : Value) (j : Nat) (K : Value → Prop) : Prop :=
  match P.underlying s, x with
  | some (.struct fs), .pointer (some ⟨b, o, none⟩) => match fs[j]? with
    | some f => match sizeT P f.type with
      | some (_ + 1) => numK f.offset fun off => K (.pointer (some ⟨b, o + off, none⟩))
      | _ => False
    | none => False
  | _, _ => False

def undK (P : Program) (ts : Array TypeId) (K : TypeDesc → Prop) : Prop :=
  match ts[0]? with
  | some t => (match P.underlying t with
    | some d => K d
    | none => False)
  | none => False
def lenK (P : Program) (H : AHeap) (ts : Array TypeId) (l : List Value) (K : Value → AHeap → Ev → Prop) : Prop :=
  match l with
  | [.slice a n c] => undK P ts fun | .slice _ => K (.int .i64 n) H .quiet | _ => False
  | [.string s] => undK P ts fun | .string => K (.int .i64 s.size) H .quiet | _ => False
  | l => Outs (aLen P H ts l) K
def capK (P : Program) (H : AHeap) (ts : Array TypeId) (l : List Value) (K : Value → AHeap → Ev → Prop) : Prop :=
  match l with
  | [.slice none n c] => undK P ts fun | .slice _ => K (.int .i64 c) H .quiet | _ => False
  | [.slice (some ⟨b, o, none⟩) n c] => undK P ts fun | .slice _ => K (.int .i64 c) H .quiet | _ => False
  | _ => False
/-- What is known of an operation's end. -/
def opK (P : Program) (O : Orc) (ng : Nat) (env : Env) (H : AHeap) (op : Op) (K : Value → AHeap → Ev → Prop) : Prop :=
  match op with
  | .move x | .assign x => oE ng env x fun v => K v H .quiet
  | .pick c a b => oE ng env c fun
    | .bool t => Br t (oE ng env a fun v => K v H .quiet) (oE ng env b fun v => K v H .quiet)
    | _ => False
  | .binOp op t x y _ => oE ng env x fun a => oE ng env y fun b => binK P op t (isConst x) (isConst y) a b fun v => K v H .quiet
  | .unOp op _ x => oE ng env x fun
    | .bool t => (match op with | .not => Br t (K (.bool false) H .quiet) (K (.bool true) H .quiet) | _ => False)
    | v => Gives (aUn op v) fun v => K v H .quiet
  | .convert s d x => oE ng env x fun
    | .int k n => Gives (aConv P s d (.int k n)) fun v => K v H .quiet
    | v => Outs (aText P H s d v) K
  | .slice t x lo hi mx => oE ng env x fun a => oM ng env lo fun l => oM ng env hi fun h => oM ng env mx fun m => Gives (aSlice P t a l h m) fun v => K v H .quiet
  | .indexAddr t x i => oE ng env x fun a => oE ng env i fun b => indexAddrK P t a b fun v => K v H .quiet
  | .index t x i => oE ng env x fun a => oE ng env i fun b => indexK P t a b fun v => K v H .quiet
  | .fieldAddr s x j => oE ng env x fun a => fieldAddrK P s a j fun v => K v H .quiet
  | .field s x j => oE ng env x fun a => Gives (aField P s a j) fun v => K v H .quiet
  | .extract t i => oE ng env t fun
    | .tuple vs => optK vs[i]? fun v => K v H .quiet
    | _ => False
  | .nilCheck x => oE ng env x fun
    | .pointer (some a) => K (.pointer (some a)) H .quiet
    | .func (.func g) fi ca => K (.func (.func g) fi ca) H .quiet
    | _ => False
  | .build t ps => pL ng env ps.toList fun l => Gives (aBuild P t l) fun v => K v H .quiet
  | .makeFunc fn first captured => oL ng env first.toList fun a => oL ng env captured.toList fun b => K (.func fn a.toArray b.toArray) H .quiet
  | .alloc e => Gives (zeroOf P e) fun z => K (.pointer (some ⟨H.next, 0, none⟩)) (H.push (.cells z.cells.toList (typedV e) true)) (.make H.next (.cells z.cells.toList (typedV e) true))
  | .box _ x => oE ng env x fun v => K (.pointer (some ⟨H.next, 0, none⟩)) (H.push (.cells v.cells.toList 0 true)) (.make H.next (.cells v.cells.toList 0 true))
  | .buildSlice t len ps => pL ng env ps.toList fun l => ∃ cs, aBuildSlice P t len l = mkSlice cs len len ∧ K (.slice (some ⟨H.next, 0, none⟩) len len) (H.push (.cells cs 0 true)) (.make H.next (.cells cs 0 true))
  | .makeSlice t l c => oE ng env l fun l => oE ng env c fun c => ∃ cs n m, aMakeSlice P t l c = mkSlice cs n m ∧ K (.slice (some ⟨H.next, 0, none⟩) n m) (H.push (.cells cs 0 true)) (.make H.next (.cells cs 0 true))
  | .makeMap _ none => K (.map (some H.next)) (H.push (.map [])) (.make H.next (.map []))
  | .load t a => oE ng env a fun a => loadK P H t a K
  | .store t a x => oE ng env a fun a => oE ng env x fun v => Outs (aStore P H t a v) K
  | .lookup t m k ok => oE ng env m fun m => oE ng env k fun k => Outs (aLookup P H t m k ok) K
  | .mapUpdate t m k v => oE ng env m fun m => oE ng env k fun k => oE ng env v fun v => Outs (aMapUpdate P H t m k v) K
  | .insert t m k v => oE ng env m fun m => oE ng env k fun k => oE ng env v fun v => Outs (aMapUpdate P H t m k v) K
  | .call c => match c.callee with
    | .builtin .append => oL ng env c.args.toList fun l => Outs (aAppend P H c.argTypes l) K
    | .builtin .copy => oL ng env c.args.toList fun l => Outs (aCopy P H c.argTypes l) K
    | .builtin .delete => oL ng env c.args.toList fun l => Outs (aDelete P H c.argTypes l) K
    | .builtin .clear => oL ng env c.args.toList fun l => Outs (aClear P H c.argTypes l) K
    | .builtin .unsafeSliceData => oL ng env c.args.toList fun l => Outs (aSliceData H l) K
    | .builtin .unsafeString => oL ng env c.args.toList fun l => Outs (aUnsafeStr P H c.argTypes l) K
    | .builtin .len => oL ng env c.args.toList fun l => lenK P H c.argTypes l K
    | .builtin .cap => oL ng env c.args.toList fun l => capK P H c.argTypes l K
    | .builtin .min => oL ng env c.args.toList fun
      | [.int .i64 x, .int .i64 y] => Both (y < x → K (.int .i64 y) H .quiet) (¬ y < x → K (.int .i64 x) H .quiet)
      | _ => False
    | .builtin .max => oL ng env c.args.toList fun
      | [.int .i64 x, .int .i64 y] => Both (y > x → K (.int .i64 y) H .quiet) (¬ y > x → K (.int .i64 x) H .quiet)
      | _ => False
    | .value g => oE ng env g fun
      | .func (.func g) first captured => oL ng env c.args.toList fun args => Does P O g (first.toList ++ args ++ captured.toList) H fun
        | .ret v, H' => K v H' (.eff H H')
        | .panic _, _ => False
      | _ => False
    | _ => False
  | _ => False

def putE (N : Nat) (env : Env) (d : Option Tmp) (v : Value) (K : Env → Prop) : Prop :=
  match d with
  | none => K env
  | some d => bif Nat.blt d N then K ((d, v) :: env) else False
def guardK (ops : Array Oper) (o : Oper) (env : Env) (A B : Prop) : Prop :=
  match o.guard with
  | none => A
  | some (j, want) => match (ops[j]?).bind (·.dst) with
    | some d => optK (lk d env) fun
      | .bool b => (match want with | true => Br b A B | false => Br b B A)
      | _ => B
    | none => False
def opsK (P : Program) (O : Orc) (N ng : Nat) (ops : Array Oper) (l : List Oper) : Nat → Env → AHeap → List (Nat × Ev) → (Env → AHeap → List (Nat × Ev) → Prop) → Prop :=
  List.rec (motive := fun _ => Nat → Env → AHeap → List (Nat × Ev) → (Env → AHeap → List (Nat × Ev) → Prop) → Prop)
    (fun _ env H tr K => K env H tr)
    (fun o r ih i env H tr K => guardK ops o env
      (opK P O ng env H o.op fun v H' e => putE N env o.dst v fun env' => ih (i + 1) env' H' ((i, e) :: tr) K)
      (putE N env o.dst undef fun env' => ih (i + 1) env' H tr K)) l
def noDefer (ops : Array Oper) : Bool := (lastDefer ops.toList).isNone

abbrev Post := AExit → Env → AHeap → Prop
def seqK (vb : Env → AHeap → Post → Prop) (Q : Post) : Post := fun e env H =>
  match e with
  | .normal => vb env H Q
  | e => Q e env H
def blockK (id : Nat) (Q : Post) : Post := fun e env H =>
  match e with
  | .exit i => bif Nat.beq i id then Q .normal env H else Q (.exit i) env H
  | e => Q e env H
def condK (t : Value) (A B : Prop) : Prop :=
  match t with
  | .bool t => Br t A B
  | _ => False
def endK (ops : Array Oper) (draw : Bool) (Q : Post) : Env → AHeap → List (Nat × Ev) → Prop := fun env' H' tr => (bif draw then (Need (DrawP ops tr) <| Q .normal env' H') else Q .normal env' H')
def vc (P : Program) (O : Orc) (N ng : Nat) (c : Code) : Env → AHeap → Post → Prop :=
  Code.rec (motive := fun _ => Env → AHeap → Post → Prop)
    (fun env H Q => Q .normal env H)
    (fun _ ops draw env H Q => bif noDefer ops then opsK P O N ng ops ops.toList 0 env H [] (endK ops draw Q) else False)
    (fun _ _ va vb env H Q => va env H (seqK vb Q))
    (fun c _ _ va vb env H Q => oE ng env c fun t => condK t (va env H Q) (vb env H Q))
    (fun id _ vb env H Q => vb env H (blockK id Q))
    (fun c _ env H Q => Runs P O N ng (.loop c) env H Q)
    (fun _ _ _ _ _ _ _ _ _ => False)
    (fun id env H Q => Q (.exit id) env H)
    (fun _ vb env H Q => vb env H Q)
    (fun _ env H Q => Q .normal env H)
    (fun _ _ _ _ => False)
    (fun env H Q => Q .ret env H)
    (fun _ _ _ _ => False) c
end
end Go.AX
namespace Go.AX
open Go
set_option linter.unusedVariables false
set_option linter.unusedSimpArgs false

variable {P : Program} {O : Orc} {N ng : Nat}

theorem lk_ok {env : Env} {f : Fr} (hf : FOk env N ng f) {n : Nat} {v : Value} (h : lk n env = some v) : f.get n = v := hf.sub n v h
theorem optK_sound {o : Option Value} {K : Value → Prop} (h : optK o K) : ∃ v, o = some v ∧ K v := by
  unfold optK at h
  cases o with
  | none => exact h.elim
  | some v => exact ⟨v, rfl, h⟩
theorem Br_sound {t : Bool} {A B : Prop} (h : Br t A B) : (t = true ∧ A) ∨ (t = false ∧ B) := by
  unfold Br at h
  cases t
  · exact .inr ⟨rfl, h⟩
  · exact .inl ⟨rfl, h⟩
theorem oE_sound {env : Env} {f : Fr} (hf : FOk env N ng f) {x : Operand} {K : Value → Prop} (h : oE ng env x K) : ∃ v, evO f x = some v ∧ K v := by
  unfold oE at h; unfold evO
  cases x with
  | tmp t => obtain ⟨v, hv, hk⟩ := optK_sound h; exact ⟨v, by simp only [lk_ok hf hv], hk⟩
  | const v => dsimp only at h ⊢; cases hb : plainV 9 v with
    | false => rw [hb] at h; exact h.elim
    | true => rw [hb] at h; exact ⟨v, rfl, h⟩
  | global g => dsimp only at h ⊢; rw [hf.glob]; cases hb : Nat.blt g ng with
    | false => rw [hb] at h; exact h.elim
    | true => rw [hb] at h; exact ⟨_, rfl, h⟩
  | func g => exact ⟨_, rfl, h⟩
theorem oM_sound {env : Env} {f : Fr} (hf : FOk env N ng f) {x : Option Operand} {K : Option Value → Prop} (h : oM ng env x K) : ∃ v, evM f x = some v ∧ K v := by
  unfold oM at h; unfold evM
  cases x with
  | none => exact ⟨_, rfl, h⟩
  | some x => obtain ⟨v, hv, hk⟩ := oE_sound hf h; exact ⟨some v, by simp only [hv], hk⟩
theorem oL_sound {env : Env} {f : Fr} (hf : FOk env N ng f) : ∀ {l : List Operand} {K : List Value → Prop}, oL ng env l K → ∃ vs, evL f l = some vs ∧ K vs
  | [], K, h => ⟨[], rfl, h⟩
  | x :: r, K, h => by
    obtain ⟨v, hv, hk⟩ := oE_sound hf h
    obtain ⟨vs, hvs, hk⟩ := oL_sound hf hk
    exact ⟨v :: vs, by simp only [evL, hv, hvs], hk⟩
theorem pL_sound {env : Env} {f : Fr} (hf : FOk env N ng f) : ∀ {l : List (Nat × Operand)} {K : List (Nat × Value) → Prop}, pL ng env l K → ∃ vs, partsL f l = some vs ∧ K vs
  | [], K, h => ⟨[], rfl, h⟩
  | (i, x) :: r, K, h => by
    obtain ⟨v, hv, hk⟩ := oE_sound hf h
    obtain ⟨vs, hvs, hk⟩ := pL_sound hf hk
    exact ⟨(i, v) :: vs, by simp only [partsL, hv, hvs], hk⟩

theorem tst_sound {p : Prop} [d : Decidable p] {K : Value → Prop} (h : tst p K) : K (.bool (decide p)) := by
  by_cases hp : p
  · simpa [hp] using h.yes hp
  · simpa [hp] using h.no hp
theorem wrap_i64 {x : Int} (h : -9223372036854775808 ≤ x ∧ x ≤ 9223372036854775807) : IntKind.i64.wrap x = x := by
  have := h.1; have := h.2
  simp [IntKind.wrap, IntKind.bits, IntKind.signed, Int.bmod]
  omega
theorem intK_sound {op : BinOp} {k : IntKind} {x y : Int} {K : Value → Prop} (h : intK op k x y K) : ∃ v, aInt op k x y = some v ∧ K v := by
  cases op
  case eql => exact ⟨_, rfl, by have := tst_sound h; simpa [BEq.beq] using this⟩
  case neq => exact ⟨_, rfl, by have := tst_sound h; simpa [bne, BEq.beq] using this⟩
  case lss => exact ⟨_, rfl, tst_sound h⟩
  case leq => exact ⟨_, rfl, tst_sound h⟩
  case gtr => exact ⟨_, rfl, tst_sound h⟩
  case geq => exact ⟨_, rfl, tst_sound h⟩
  case add =>
    cases k
    case i64 => exact ⟨_, rfl, by rw [wrap_i64 (Need.cond h)]; exact Need.rest h⟩
    all_goals exact ⟨_, rfl, h⟩
  case sub =>
    cases k
    case i64 => exact ⟨_, rfl, by rw [wrap_i64 (Need.cond h)]; exact Need.rest h⟩
    all_goals exact ⟨_, rfl, h⟩
  case quo => exact (Need.rest h).ends
  case rem => exact (Need.rest h).ends
  all_goals exact Gives.ends h
theorem beq_dec (x y : List UInt8) : (x == y) = decide (x = y) := by
  by_cases h : x = y
  · subst h; simp
  · simp [h]
theorem strK_sound {op : BinOp} {x y : ByteArray} {K : Value → Prop} (h : strK op x y K) : ∃ v, aStr op x y = some v ∧ K v := by
  cases op
  case eql => exact ⟨_, rfl, by have := tst_sound h; rwa [beq_dec]⟩
  case neq => exact ⟨_, rfl, by have := tst_sound h; rw [beq_dec]; simpa using this⟩
  all_goals exact Gives.ends h
theorem binK_sound {op : BinOp} {t : TypeId} {cx cy : Bool} {x y : Value} {K : Value → Prop} (h : binK P op t cx cy x y K) : ∃ v, aBin P op t cx cy x y = some v ∧ K v := by
  unfold binK at h
  split at h
  · rename_i k a k' b
    cases hs : isShift op with
    | true => rw [hs] at h; simp only [aBin, hs]; exact (Need.rest h).ends
    | false =>
      rw [hs] at h
      simp only [cond_false] at h
      by_cases hk : k = k'
      case neg => rw [if_neg hk] at h; exact h.elim
      subst hk
      rw [if_pos rfl] at h
      simp only [aBin, hs, cond_false, if_true]
      exact intK_sound h
  · simp only [aBin]; exact strK_sound h
  · exact h.ends

/-- The operation ends so, with all fuel from some on. -/
def OpEnd (P : Program) (O : Orc) (f : Fr) (H : AHeap) (op : Op) (v : Value) (H' : AHeap) (e : Ev) : Prop := ∃ k0, ∀ k, k0 ≤ k → aOp P (callAO P O k) f H op = some (.val v H' e)
theorem OpEnd.of {f : Fr} {H : AHeap} {op : Op} {v : Value} {H' : AHeap} {e : Ev} (h : ∀ k, aOp P (callAO P O k) f H op = some (.val v H' e)) : OpEnd P O f H op v H' e := ⟨0, fun k _ => h k⟩
theorem undK_sound {ts : Array TypeId} {K : TypeDesc → Prop} (h : undK P ts K) : ∃ t d, ts[0]? = some t ∧ P.underlying t = some d ∧ K d := by
  unfold undK at h
  cases ht : ts[0]? with
  | none => simp only [ht] at h
  | some t =>
    simp only [ht] at h
    cases hd : P.underlying t with
    | none => simp only [hd] at h
    | some d => simp only [hd] at h; exact ⟨t, d, rfl, hd, h⟩
theorem lenK_sound {H : AHeap} {ts : Array TypeId} {l : List Value} {K : Value → AHeap → Ev → Prop} (h : lenK P H ts l K) : ∃ v H' e, aLen P H ts l = some (.val v H' e) ∧ K v H' e := by
  unfold lenK at h
  split at h
  · obtain ⟨t, d, ht, hd, hk⟩ := undK_sound h
    cases d <;> try exact hk.elim
    exact ⟨_, _, _, by simp only [aLen, ht, aLenCap, hd, cond_true, Option.map_some], hk⟩
  · obtain ⟨t, d, ht, hd, hk⟩ := undK_sound h
    cases d <;> try exact hk.elim
    exact ⟨_, _, _, by simp only [aLen, ht, aLenCap, hd, cond_true, Option.map_some], hk⟩
  · exact h.ends
theorem numK_sound {n : Nat} {K : Nat → Prop} (h : numK n K) : K n := by
  unfold numK at h
  split at h <;> exact h
theorem place_sound {o : Nat} {i : Int} {n : Nat} {K : Nat → Prop} (h : place o i n K) : K (o + i.toNat * n) := by
  unfold place at h
  split at h
  · simpa using h
  · exact numK_sound (K := fun n => K (o + i.toNat * n)) h
theorem indexAddrK_sound {t : TypeId} {x ix : Value} {K : Value → Prop} (h : indexAddrK P t x ix K) : ∃ v, aIndexAddr P t x ix = some v ∧ K v := by
  unfold indexAddrK at h
  split at h
  · split at h
    · rename_i i len e b o hd
      split at h
      · rename_i n hn; exact ⟨_, by simp only [aIndexAddr, hd, hn, if_pos h.cond], place_sound h.rest⟩
      · exact h.elim
    · rename_i i e b o s len cap hd
      split at h
      · rename_i n hn; exact ⟨_, by simp only [aIndexAddr, hd, hn, if_pos h.cond], place_sound h.rest⟩
      · exact h.elim
    · exact h.elim
  · exact h.elim
theorem fieldAddrK_sound {s : TypeId} {x : Value} {j : Nat} {K : Value → Prop} (h : fieldAddrK P s x j K) : ∃ v, aFieldAddr P s x j = some v ∧ K v := by
  unfold fieldAddrK at h
  split at h
  · rename_i fs b o hd
    split at h
    · rename_i f hf
      split at h
      · rename_i n hn
        exact ⟨_, by simp only [aFieldAddr, hd, hf, hn], numK_sound (K := fun off => K (.pointer (some ⟨b, o + off, none⟩))) h⟩
      · exact h.elim
    · exact h.elim
  · exact h.elim
theorem indexK_sound {t : TypeId} {x ix : Value} {K : Value → Prop} (h : indexK P t x ix K) : ∃ v, aIndex P t x ix = some v ∧ K v := by
  unfold indexK at h
  split at h
  · rename_i k i s
    cases hd : P.underlying t with
    | none => simp only [hd] at h
    | some d =>
      simp only [hd] at h
      cases d <;> try exact h.elim
      obtain ⟨h0, b, hb, hk⟩ := h
      exact ⟨_, by simp only [aIndex, hd, if_pos h0, hb], hk⟩
  · exact h.ends
theorem nth_cells {cs : List Value} {o : Nat} {v : Value} (h : cs[o]? = some v) : takeN 1 (dropN o cs) = some [v] := by
  induction cs generalizing o with
  | nil => simp at h
  | cons c r ih =>
    cases o with
    | zero => simp at h; subst h; simp [dropN, takeN]
    | succ o => simp only [dropN]; exact ih (by simpa using h)
theorem cellAt_cells {H : AHeap} {b o : Nat} {v : Value} (h : cellAt H b o = some v) : cellsAt H b o 1 = some [v] := by
  unfold cellAt at h; unfold cellsAt
  split at h
  · rename_i cs e ow hg; simp only [hg]; exact nth_cells h
  · cases h
theorem loadK_sound {H : AHeap} {t : TypeId} {a : Value} {K : Value → AHeap → Ev → Prop} (h : loadK P H t a K) : ∃ v H' e, aLoad P H t a = some (.val v H' e) ∧ K v H' e := by
  unfold loadK at h
  split at h
  · rename_i b o d n hd hn
    cases hag : isAggD d with
    | true =>
      rw [hag] at h
      obtain ⟨l, hl, hk⟩ := numK_sound (K := fun n => ∃ l, cellsAt H b o n = some l ∧ K (Value.agg l.toArray) H (Ev.look b o n)) h
      exact ⟨_, _, _, by simp only [aLoad, hd, hn, hag, cond_true, hl], hk⟩
    | false =>
      rw [hag] at h
      obtain ⟨v, hv, hk⟩ := h
      exact ⟨_, _, _, by simp only [aLoad, hd, hn, hag, cond_false, cellAt_cells hv], hk⟩
  · exact h.elim
end Go.AX
namespace Go.AX
open Go
set_option linter.unusedVariables false
set_option linter.unusedSimpArgs false

variable {P : Program} {O : Orc} {N ng : Nat}

theorem opK_sound {env : Env} {f : Fr} (hf : FOk env N ng f) {H : AHeap} {op : Op} {K : Value → AHeap → Ev → Prop} (h : opK P O ng env H op K) :
    ∃ v H' e, OpEnd P O f H op v H' e ∧ K v H' e := by
  cases op with
  | move x => obtain ⟨v, hv, hk⟩ := oE_sound hf h; exact ⟨v, H, _, .of fun k => by simp only [aOp, aQuiet, hv, Option.map_some], hk⟩
  | assign x => obtain ⟨v, hv, hk⟩ := oE_sound hf h; exact ⟨v, H, _, .of fun k => by simp only [aOp, aQuiet, hv, Option.map_some], hk⟩
  | pick c a b =>
    obtain ⟨v, hv, hk⟩ := oE_sound hf h
    cases v <;> try exact hk.elim
    rcases Br_sound hk with ⟨rfl, hk⟩ | ⟨rfl, hk⟩
    · obtain ⟨u, hu, hk⟩ := oE_sound hf hk; exact ⟨u, H, _, .of fun k => by simp only [aOp, aQuiet, hv, cond_true, hu, Option.map_some], hk⟩
    · obtain ⟨u, hu, hk⟩ := oE_sound hf hk; exact ⟨u, H, _, .of fun k => by simp only [aOp, aQuiet, hv, cond_false, hu, Option.map_some], hk⟩
  | binOp op t x y yt =>
    obtain ⟨a, ha, hk⟩ := oE_sound hf h
    obtain ⟨b, hb, hk⟩ := oE_sound hf hk
    obtain ⟨v, hv, hk⟩ := binK_sound hk
    exact ⟨v, H, _, .of fun k => by simp only [aOp, aQuiet, ha, hb, hv, Option.map_some], hk⟩
  | unOp op t x =>
    obtain ⟨a, ha, hk⟩ := oE_sound hf h
    cases a with
    | bool t =>
      cases op <;> try exact hk.elim
      rcases Br_sound hk with ⟨rfl, hk⟩ | ⟨rfl, hk⟩
      · exact ⟨_, H, _, .of fun k => by simp only [aOp, aQuiet, ha, aUn, Option.map_some]; rfl, hk⟩
      · exact ⟨_, H, _, .of fun k => by simp only [aOp, aQuiet, ha, aUn, Option.map_some]; rfl, hk⟩
    | _ => obtain ⟨v, hv, hk⟩ := Gives.ends hk; exact ⟨v, H, _, .of fun k => by simp only [aOp, aQuiet, ha, hv, Option.map_some], hk⟩
  | convert s d x =>
    obtain ⟨a, ha, hk⟩ := oE_sound hf h
    cases a with
    | int k n => obtain ⟨v, hv, hk⟩ := Gives.ends hk; exact ⟨v, H, _, .of fun k => by simp only [aOp, aText, ha, hv, Option.map_some], hk⟩
    | _ => obtain ⟨v, H', e, hv, hk⟩ := Outs.ends hk; exact ⟨v, H', e, .of fun k => by simp only [aOp, ha, hv], hk⟩
  | slice t x lo hi mx =>
    obtain ⟨a, ha, hk⟩ := oE_sound hf h
    obtain ⟨l, hl, hk⟩ := oM_sound hf hk
    obtain ⟨i, hi', hk⟩ := oM_sound hf hk
    obtain ⟨m, hm, hk⟩ := oM_sound hf hk
    obtain ⟨v, hv, hk⟩ := Gives.ends hk
    exact ⟨v, H, _, .of fun k => by simp only [aOp, aQuiet, ha, hl, hi', hm, hv, Option.map_some], hk⟩
  | indexAddr t x i =>
    obtain ⟨a, ha, hk⟩ := oE_sound hf h
    obtain ⟨b, hb, hk⟩ := oE_sound hf hk
    obtain ⟨v, hv, hk⟩ := indexAddrK_sound hk
    exact ⟨v, H, _, .of fun k => by simp only [aOp, aQuiet, ha, hb, hv, Option.map_some], hk⟩
  | index t x i =>
    obtain ⟨a, ha, hk⟩ := oE_sound hf h
    obtain ⟨b, hb, hk⟩ := oE_sound hf hk
    obtain ⟨v, hv, hk⟩ := indexK_sound hk
    exact ⟨v, H, _, .of fun k => by simp only [aOp, aQuiet, ha, hb, hv, Option.map_some], hk⟩
  | fieldAddr s x j =>
    obtain ⟨a, ha, hk⟩ := oE_sound hf h
    obtain ⟨v, hv, hk⟩ := fieldAddrK_sound hk
    exact ⟨v, H, _, .of fun k => by simp only [aOp, aQuiet, ha, hv, Option.map_some], hk⟩
  | field s x j =>
    obtain ⟨a, ha, hk⟩ := oE_sound hf h
    obtain ⟨v, hv, hk⟩ := Gives.ends hk
    exact ⟨v, H, _, .of fun k => by simp only [aOp, aQuiet, ha, hv, Option.map_some], hk⟩
  | extract t i =>
    obtain ⟨a, ha, hk⟩ := oE_sound hf h
    cases a <;> try exact hk.elim
    obtain ⟨v, hv, hk⟩ := optK_sound hk
    exact ⟨v, H, _, .of fun k => by simp only [aOp, aQuiet, ha, hv, Option.map_some], hk⟩
  | nilCheck x =>
    obtain ⟨a, ha, hk⟩ := oE_sound hf h
    split at hk
    · exact ⟨_, H, _, .of fun k => by simp only [aOp, aQuiet, ha, Option.map_some], hk⟩
    · exact ⟨_, H, _, .of fun k => by simp only [aOp, aQuiet, ha, Option.map_some], hk⟩
    · exact hk.elim
  | build t ps =>
    obtain ⟨l, hl, hk⟩ := pL_sound hf h
    obtain ⟨v, hv, hk⟩ := Gives.ends hk
    exact ⟨v, H, _, .of fun k => by simp only [aOp, aQuiet, hl, hv, Option.map_some], hk⟩
  | makeFunc fn first captured =>
    obtain ⟨a, ha, hk⟩ := oL_sound hf h
    obtain ⟨b, hb, hk⟩ := oL_sound hf hk
    exact ⟨_, H, _, .of fun k => by simp only [aOp, aQuiet, ha, hb, Option.map_some], hk⟩
  | alloc e =>
    obtain ⟨z, hz, hk⟩ := Gives.ends h
    exact ⟨_, _, _, .of fun k => by simp only [aOp, aMake, hz, mkTyped], hk⟩
  | box e x =>
    obtain ⟨v, hv, hk⟩ := oE_sound hf h
    exact ⟨_, _, _, .of fun k => by simp only [aOp, aMake, hv, mkVar], hk⟩
  | buildSlice t len ps =>
    obtain ⟨l, hl, hk⟩ := pL_sound hf h
    obtain ⟨cs, hc, hk⟩ := hk
    exact ⟨_, _, _, .of fun k => by simp only [aOp, aMake, hl, hc, mkSlice], hk⟩
  | makeSlice t l c =>
    obtain ⟨a, ha, hk⟩ := oE_sound hf h
    obtain ⟨b, hb, hk⟩ := oE_sound hf hk
    obtain ⟨cs, n, m, hc, hk⟩ := hk
    exact ⟨_, _, _, .of fun k => by simp only [aOp, aMake, ha, hb, hc, mkSlice], hk⟩
  | makeMap t r =>
    cases r with
    | none => exact ⟨_, _, _, .of fun k => by simp only [aOp, aMake], h⟩
    | some _ => exact h.elim
  | load t a =>
    obtain ⟨a, ha, hk⟩ := oE_sound hf h
    obtain ⟨v, H', e, hv, hk⟩ := loadK_sound hk
    exact ⟨v, H', e, .of fun k => by simp only [aOp, ha, hv], hk⟩
  | store t a x =>
    obtain ⟨a, ha, hk⟩ := oE_sound hf h
    obtain ⟨u, hu, hk⟩ := oE_sound hf hk
    obtain ⟨v, H', e, hv, hk⟩ := Outs.ends hk
    exact ⟨v, H', e, .of fun k => by simp only [aOp, ha, hu, hv], hk⟩
  | lookup t m k ok =>
    obtain ⟨a, ha, hk⟩ := oE_sound hf h
    obtain ⟨u, hu, hk⟩ := oE_sound hf hk
    obtain ⟨v, H', e, hv, hk⟩ := Outs.ends hk
    exact ⟨v, H', e, .of fun k => by simp only [aOp, ha, hu, hv], hk⟩
  | mapUpdate t m k v =>
    obtain ⟨a, ha, hk⟩ := oE_sound hf h
    obtain ⟨u, hu, hk⟩ := oE_sound hf hk
    obtain ⟨x, hx, hk⟩ := oE_sound hf hk
    obtain ⟨v, H', e, hv, hk⟩ := Outs.ends hk
    exact ⟨v, H', e, .of fun k => by simp only [aOp, ha, hu, hx, hv], hk⟩
  | insert t m k v =>
    obtain ⟨a, ha, hk⟩ := oE_sound hf h
    obtain ⟨u, hu, hk⟩ := oE_sound hf hk
    obtain ⟨x, hx, hk⟩ := oE_sound hf hk
    obtain ⟨v, H', e, hv, hk⟩ := Outs.ends hk
    exact ⟨v, H', e, .of fun k => by simp only [aOp, ha, hu, hx, hv], hk⟩
  | call c =>
    unfold opK at h
    dsimp only at h
    split at h <;> rename_i hcal
    · obtain ⟨l, hl, hk⟩ := oL_sound hf h
      obtain ⟨v, H', e, hv, hk⟩ := Outs.ends hk
      exact ⟨v, H', e, .of fun k => by simp only [aOp, hcal, hl, hv], hk⟩
    · obtain ⟨l, hl, hk⟩ := oL_sound hf h
      obtain ⟨v, H', e, hv, hk⟩ := Outs.ends hk
      exact ⟨v, H', e, .of fun k => by simp only [aOp, hcal, hl, hv], hk⟩
    · obtain ⟨l, hl, hk⟩ := oL_sound hf h
      obtain ⟨v, H', e, hv, hk⟩ := Outs.ends hk
      exact ⟨v, H', e, .of fun k => by simp only [aOp, hcal, hl, hv], hk⟩
    · obtain ⟨l, hl, hk⟩ := oL_sound hf h
      obtain ⟨v, H', e, hv, hk⟩ := Outs.ends hk
      exact ⟨v, H', e, .of fun k => by simp only [aOp, hcal, hl, hv], hk⟩
    · obtain ⟨l, hl, hk⟩ := oL_sound hf h
      obtain ⟨v, H', e, hv, hk⟩ := Outs.ends hk
      exact ⟨v, H', e, .of fun k => by simp only [aOp, hcal, hl, hv], hk⟩
    · obtain ⟨l, hl, hk⟩ := oL_sound hf h
      obtain ⟨v, H', e, hv, hk⟩ := Outs.ends hk
      exact ⟨v, H', e, .of fun k => by simp only [aOp, hcal, hl, hv], hk⟩
    · obtain ⟨l, hl, hk⟩ := oL_sound hf h
      obtain ⟨v, H', e, hv, hk⟩ := lenK_sound hk
      exact ⟨v, H', e, .of fun k => by simp only [aOp, hcal, hl, hv], hk⟩
    · obtain ⟨l, hl, hk⟩ := oL_sound hf h
      unfold capK at hk
      split at hk
      · rename_i n c'
        obtain ⟨t, d, ht, hd, hk⟩ := undK_sound hk
        cases d <;> try exact hk.elim
        have ho : (c.args[0]?).bind (evO f) = some (.slice none n c') := by
          cases ha : c.args.toList with
          | nil => rw [ha] at hl; simp [evL] at hl
          | cons x r =>
            rw [ha] at hl
            have : c.args[0]? = some x := by rw [← Array.getElem?_toList, ha]; rfl
            simp only [evL] at hl
            split at hl
            · rename_i v vs h1 h2; cases hl; simp [this, h1]
            · cases hl
        exact ⟨_, _, _, .of fun k => by simp only [aOp, hcal, aQuiet, ht, ho, aLenCap, hd, cond_false, Option.map_some], hk⟩
      · rename_i b o n c'
        obtain ⟨t, d, ht, hd, hk⟩ := undK_sound hk
        cases d <;> try exact hk.elim
        have ho : (c.args[0]?).bind (evO f) = some (.slice (some ⟨b, o, none⟩) n c') := by
          cases ha : c.args.toList with
          | nil => rw [ha] at hl; simp [evL] at hl
          | cons x r =>
            rw [ha] at hl
            have : c.args[0]? = some x := by rw [← Array.getElem?_toList, ha]; rfl
            simp only [evL] at hl
            split at hl
            · rename_i v vs h1 h2; cases hl; simp [this, h1]
            · cases hl
        exact ⟨_, _, _, .of fun k => by simp only [aOp, hcal, aQuiet, ht, ho, aLenCap, hd, cond_false, Option.map_some], hk⟩
      · exact hk.elim
    · obtain ⟨l, hl, hk⟩ := oL_sound hf h
      split at hk
      · rename_i x y
        by_cases hxy : y < x
        · exact ⟨_, _, _, .of fun k => by simp only [aOp, hcal, aQuiet, hl, aMinMax, aMM, if_true, cond_true, if_pos hxy, Option.map_some], hk.yes hxy⟩
        · exact ⟨_, _, _, .of fun k => by simp only [aOp, hcal, aQuiet, hl, aMinMax, aMM, if_true, cond_true, if_neg hxy, Option.map_some], hk.no hxy⟩
      · exact hk.elim
    · obtain ⟨l, hl, hk⟩ := oL_sound hf h
      split at hk
      · rename_i x y
        by_cases hxy : y > x
        · exact ⟨_, _, _, .of fun k => by simp only [aOp, hcal, aQuiet, hl, aMinMax, aMM, if_true, cond_false, if_pos hxy, Option.map_some], hk.yes hxy⟩
        · exact ⟨_, _, _, .of fun k => by simp only [aOp, hcal, aQuiet, hl, aMinMax, aMM, if_true, cond_false, if_neg hxy, Option.map_some], hk.no hxy⟩
      · exact hk.elim
    · rename_i g
      obtain ⟨x, hx, hk⟩ := oE_sound hf h
      split at hk
      · rename_i g' first captured
        obtain ⟨args, ha, hk⟩ := oL_sound hf hk
        obtain ⟨k0, r, H', hr, hk⟩ := Does.ends hk
        cases r with
        | panic _ => exact hk.elim
        | ret v =>
          refine ⟨v, H', _, ⟨k0, fun k hkk => ?_⟩, hk⟩
          simp only [aOp, hcal, hx, ha, callAO_mono P O hkk _ _ _ _ hr]
      · exact hk.elim
    · exact h.elim
  | _ => exact h.elim
end Go.AX
namespace Go.AX
open Go
set_option linter.unusedVariables false
set_option linter.unusedSimpArgs false

variable {P : Program} {O : Orc} {N ng : Nat}

theorem lk_cons {n m : Nat} {v : Value} {r : Env} : lk n ((m, v) :: r) = if n = m then some v else lk n r := by
  simp only [lk]
  cases hb : Nat.beq n m with
  | true => rw [if_pos (Nat.eq_of_beq_eq_true hb), cond_true]
  | false => rw [if_neg (Nat.ne_of_beq_eq_false hb), cond_false]
theorem putE_sound {env : Env} {f : Fr} (hf : FOk env N ng f) {d : Option Tmp} {v : Value} {K : Env → Prop} (h : putE N env d v K) :
    ∃ f' env', f.put d v = some f' ∧ FOk env' N ng f' ∧ K env' := by
  unfold putE at h
  cases d with
  | none => exact ⟨f, env, rfl, hf, h⟩
  | some d =>
    dsimp only at h
    cases hb : Nat.blt d N with
    | false => rw [hb] at h; exact h.elim
    | true =>
      rw [hb] at h
      refine ⟨⟨f.tmps.set d v, f.size, f.defs, f.glob⟩, _, by simp only [Fr.put, hf.size, hb, cond_true], ⟨fun n u hn => ?_, hf.size, hf.defs, hf.glob⟩, h⟩
      rw [lk_cons] at hn
      have hg : (⟨f.tmps.set d v, f.size, f.defs, f.glob⟩ : Fr).get n = (if n = d then v else f.get n) := by
        unfold Fr.get
        simp only [Tr.get_set]
        split <;> rfl
      rw [hg]
      split at hn
      · rename_i h'; rw [if_pos h']; exact Option.some.inj hn
      · rename_i h'; rw [if_neg h']; exact hf.sub n u hn
theorem guardK_sound {ops : Array Oper} {o : Oper} {env : Env} {f : Fr} (hf : FOk env N ng f) {A B : Prop} (h : guardK ops o env A B) :
    (wantedA ops o f = true ∧ A) ∨ (wantedA ops o f = false ∧ B) := by
  unfold guardK at h; unfold wantedA
  cases hg : o.guard with
  | none => simp only [hg] at h; exact .inl ⟨rfl, h⟩
  | some x =>
    obtain ⟨j, want⟩ := x
    simp only [hg] at h
    cases hd : (ops[j]?).bind (·.dst) with
    | none => simp only [hd] at h
    | some d =>
      simp only [hd] at h
      obtain ⟨v, hv, hk⟩ := optK_sound h
      have hgv := lk_ok hf hv
      cases v
      case bool b =>
       simp only [hd, hgv]
       cases want <;> simp only at hk <;> rcases Br_sound hk with ⟨rfl, hk⟩ | ⟨rfl, hk⟩
       · exact .inr ⟨rfl, hk⟩
       · exact .inl ⟨rfl, hk⟩
       · exact .inl ⟨rfl, hk⟩
       · exact .inr ⟨rfl, hk⟩
      all_goals exact .inr ⟨by simp only [hd, hgv], hk⟩

theorem opsK_sound {ops : Array Oper} : ∀ {l : List Oper} {i : Nat} {env : Env} {f : Fr} (hf : FOk env N ng f) {H : AHeap} {tr : List (Nat × Ev)} {K : Env → AHeap → List (Nat × Ev) → Prop}
    (h : opsK P O N ng ops l i env H tr K), ∃ f' env' H' tr', (∃ k0, ∀ k, k0 ≤ k → runOps P (callAO P O k) ops l i f H tr = some (.done f' H' tr')) ∧ FOk env' N ng f' ∧ K env' H' tr'
  | [], i, env, f, hf, H, tr, K, h => ⟨f, env, H, tr, ⟨0, fun k _ => rfl⟩, hf, h⟩
  | o :: r, i, env, f, hf, H, tr, K, h => by
    rcases guardK_sound hf h with ⟨hw, hk⟩ | ⟨hw, hk⟩
    · obtain ⟨v, H1, e, ⟨k0, ho⟩, hk⟩ := opK_sound hf hk
      obtain ⟨f1, env1, hp, hf1, hk⟩ := putE_sound hf hk
      obtain ⟨f', env', H', tr', ⟨k1, hr⟩, hf', hk⟩ := opsK_sound hf1 hk
      refine ⟨f', env', H', tr', ⟨max k0 k1, fun k hkk => ?_⟩, hf', hk⟩
      simp only [runOps, hw, cond_true, ho k (by omega), hp, hr k (by omega)]
    · obtain ⟨f1, env1, hp, hf1, hk⟩ := putE_sound hf hk
      obtain ⟨f', env', H', tr', ⟨k1, hr⟩, hf', hk⟩ := opsK_sound hf1 hk
      refine ⟨f', env', H', tr', ⟨k1, fun k hkk => ?_⟩, hf', hk⟩
      simp only [runOps, hw, cond_false, hp, hr k (by omega)]

theorem vc_sound : ∀ {c : Code} {env : Env} {H : AHeap} {Q : AExit → Env → AHeap → Prop}, vc P O N ng c env H Q → Runs P O N ng c env H Q
  | .skip, env, H, Q, h => ⟨fun f hf => ⟨1, _, _, _, env, by rw [execO], hf, h⟩⟩
  | .label _, env, H, Q, h => ⟨fun f hf => ⟨1, _, _, _, env, by rw [execO], hf, h⟩⟩
  | .ret, env, H, Q, h => ⟨fun f hf => ⟨1, _, _, _, env, by rw [execO], hf, h⟩⟩
  | .exit id, env, H, Q, h => ⟨fun f hf => ⟨1, _, _, _, env, by rw [execO], hf, h⟩⟩
  | .seq a b, env, H, Q, h => ⟨fun f hf => by
    obtain ⟨k, e, f1, H1, env1, he, hf1, hq⟩ := (vc_sound (c := a) h).ends f hf
    cases e with
    | normal =>
      obtain ⟨k2, e2, f2, H2, env2, he2, hf2, hq2⟩ := (vc_sound (c := b) hq).ends f1 hf1
      refine ⟨max k k2 + 1, e2, f2, H2, env2, ?_, hf2, hq2⟩
      rw [execO, execO_mono P O (Nat.le_max_left k k2) _ _ _ _ he]
      exact execO_mono P O (Nat.le_max_right k k2) _ _ _ _ he2
    | exit i => exact ⟨k + 1, _, f1, H1, env1, by rw [execO, he], hf1, hq⟩
    | ret => exact ⟨k + 1, _, f1, H1, env1, by rw [execO, he], hf1, hq⟩
    | panic v => exact ⟨k + 1, _, f1, H1, env1, by rw [execO, he], hf1, hq⟩⟩
  | .cond c a b, env, H, Q, h => ⟨fun f hf => by
    obtain ⟨v, hv, hk⟩ := oE_sound hf h
    cases v <;> try exact False.elim hk
    rcases Br_sound hk with ⟨rfl, hk⟩ | ⟨rfl, hk⟩
    · obtain ⟨k, e, f1, H1, env1, he, hf1, hq⟩ := (vc_sound (c := a) hk).ends f hf
      exact ⟨k + 1, e, f1, H1, env1, by rw [execO]; simp only [hv, cond_true, he], hf1, hq⟩
    · obtain ⟨k, e, f1, H1, env1, he, hf1, hq⟩ := (vc_sound (c := b) hk).ends f hf
      exact ⟨k + 1, e, f1, H1, env1, by rw [execO]; simp only [hv, cond_false, he], hf1, hq⟩⟩
  | .block id c, env, H, Q, h => ⟨fun f hf => by
    obtain ⟨k, e, f1, H1, env1, he, hf1, hq⟩ := (vc_sound (c := c) h).ends f hf
    cases e with
    | normal => exact ⟨k + 1, _, f1, H1, env1, by rw [execO, he], hf1, hq⟩
    | exit i =>
      dsimp only [blockK] at hq
      cases hb : Nat.beq i id with
      | true => rw [hb] at hq; exact ⟨k + 1, _, f1, H1, env1, by rw [execO, he]; simp only [hb, cond_true], hf1, hq⟩
      | false => rw [hb] at hq; exact ⟨k + 1, _, f1, H1, env1, by rw [execO, he]; simp only [hb, cond_false], hf1, hq⟩
    | ret => exact ⟨k + 1, _, f1, H1, env1, by rw [execO, he], hf1, hq⟩
    | panic v => exact ⟨k + 1, _, f1, H1, env1, by rw [execO, he], hf1, hq⟩⟩
  | .loop c, env, H, Q, h => h
  | .scope c, env, H, Q, h => ⟨fun f hf => by
    obtain ⟨k, e, f1, H1, env1, he, hf1, hq⟩ := (vc_sound (c := c) h).ends f hf
    exact ⟨k + 1, e, f1, H1, env1, by rw [execO, he], hf1, hq⟩⟩
  | .region id ops draw, env, H, Q, h => ⟨fun f hf => by
    have h : bif noDefer ops then opsK P O N ng ops ops.toList 0 env H [] (endK ops draw Q) else False := h
    cases hd : lastDefer ops.toList with
    | some x => simp only [noDefer, hd, Option.isNone_some, cond_false] at h
    | none =>
      simp only [noDefer, hd, Option.isNone_none, cond_true] at h
      obtain ⟨f', env', H', tr', ⟨k0, hr⟩, hf', hk⟩ := opsK_sound hf h
      refine ⟨k0 + 1, .normal, f', H', env', ?_, hf', ?_⟩
      · rw [execO]
        simp only [hd]
        have := hr k0 (Nat.le_refl _)
        unfold callAO at this
        simp only [this]
        cases draw with
        | false => rfl
        | true =>
          have hk : Need (DrawP ops tr') (Q .normal env' H') := hk
          simp only [cond_true]
          simp only [hk.cond.ok, cond_true]
      · cases draw with
        | false => exact hk
        | true => exact (show Need (DrawP ops tr') (Q .normal env' H') from hk).rest⟩
  | .goto _, _, _, _, h => h.elim
  | .refuse _, _, _, _, h => h.elim
  | .rangeFunc _ _ _ _, _, _, _, h => h.elim

/-- What is listed here is known there. -/
def Sub : Env → Env → Prop
  | [], _ => True
  | (n, v) :: r, env => lk n env = some v ∧ Sub r env
theorem Sub.get : ∀ {l env : Env}, Sub l env → ∀ n v, lk n l = some v → lk n env = some v
  | [], env, _, n, v, h => by simp [lk] at h
  | (m, u) :: r, env, hs, n, v, h => by
    rw [lk_cons] at h
    split at h
    · rename_i he; subst he; exact hs.1.trans h
    · exact Sub.get hs.2 n v h
theorem FOk.less {l env : Env} {f : Fr} (hf : FOk env N ng f) (hs : Sub l env) : FOk l N ng f := ⟨fun n v h => hf.sub n v (hs.get n v h), hf.size, hf.defs, hf.glob⟩
theorem Runs.less {c : Code} {l env : Env} {H : AHeap} {Q : AExit → Env → AHeap → Prop} (hs : Sub l env) (h : Runs P O N ng c l H Q) : Runs P O N ng c env H Q :=
  ⟨fun f hf => h.ends f (hf.less hs)⟩
theorem Runs.mono {c : Code} {env : Env} {H : AHeap} {Q Q' : AExit → Env → AHeap → Prop} (h : Runs P O N ng c env H Q) (hq : ∀ e env' H', Q e env' H' → Q' e env' H') : Runs P O N ng c env H Q' :=
  ⟨fun f hf => by obtain ⟨k, e, f1, H1, env1, he, hf1, hk⟩ := h.ends f hf; exact ⟨k, e, f1, H1, env1, he, hf1, hq _ _ _ hk⟩⟩
theorem Does.mono {g : FuncId} {args : List Value} {H : AHeap} {Q Q' : CRes → AHeap → Prop} (h : Does P O g args H Q) (hq : ∀ r H', Q r H' → Q' r H') : Does P O g args H Q' :=
  ⟨by obtain ⟨k, r, H', he, hk⟩ := h.ends; exact ⟨k, r, H', he, hq _ _ hk⟩⟩

/-- A loop: s tells where it stands. -/
theorem Runs.loop {c : Code} {σ : Type} (E : σ → Env) (J : σ → AHeap → Prop) (m : σ → Nat) (s0 : σ) {env : Env} {H : AHeap} {Q : AExit → Env → AHeap → Prop}
    (hs : Sub (E s0) env) (h0 : J s0 H)
    (step : ∀ s H, J s H → vc P O N ng c (E s) H fun e env' H' => match e with
      | .normal => ∃ s', Sub (E s') env' ∧ J s' H' ∧ m s' < m s
      | e => Q e env' H') : Runs P O N ng (.loop c) env H Q := by
  suffices hh : ∀ n s H, m s < n → J s H → Runs P O N ng (.loop c) (E s) H Q from (hh (m s0 + 1) s0 H (Nat.lt_succ_self _) h0).less hs
  intro n
  induction n with
  | zero => intro s H hm; omega
  | succ n ih =>
    intro s H hm hj
    refine ⟨fun f hf => ?_⟩
    obtain ⟨k, e, f1, H1, env1, he, hf1, hq⟩ := (vc_sound (step s H hj)).ends f hf
    cases e with
    | normal =>
      obtain ⟨s', hsub, hj', hlt⟩ := hq
      obtain ⟨k2, e2, f2, H2, env2, he2, hf2, hq2⟩ := (ih s' H1 (by omega) hj').ends f1 (hf1.less hsub)
      refine ⟨max k k2 + 1, e2, f2, H2, env2, ?_, hf2, hq2⟩
      rw [execO, execO_mono P O (Nat.le_max_left k k2) _ _ _ _ he]
      exact execO_mono P O (Nat.le_max_right k k2) _ _ _ _ he2
    | exit i => exact ⟨k + 1, _, f1, H1, env1, by rw [execO, he], hf1, hq⟩
    | ret => exact ⟨k + 1, _, f1, H1, env1, by rw [execO, he], hf1, hq⟩
    | panic v => exact ⟨k + 1, _, f1, H1, env1, by rw [execO, he], hf1, hq⟩

/-! ### calls -/
def resK (P : Program) (env : Env) (H : AHeap) : List ResultVar → (List Value → Prop) → Prop
  | [], K => K []
  | .tmp t :: r, K => optK (lk t env) fun v => resK P env H r fun l => K (v :: l)
  | .cell a t :: r, K => optK (lk a env) fun a => loadK P H t a fun v _ _ => resK P env H r fun l => K (v :: l)
theorem resK_sound {env : Env} {f : Fr} (hf : FOk env N ng f) {H : AHeap} : ∀ {l : List ResultVar} {K : List Value → Prop}, resK P env H l K → ∃ vs, resA P f H l = some vs ∧ K vs
  | [], K, h => ⟨[], rfl, h⟩
  | .tmp t :: r, K, h => by
    obtain ⟨v, hv, hk⟩ := optK_sound h
    obtain ⟨vs, hvs, hk⟩ := resK_sound hf hk
    exact ⟨v :: vs, by simp only [resA, hvs, lk_ok hf hv], hk⟩
  | .cell a t :: r, K, h => by
    obtain ⟨x, hx, hk⟩ := optK_sound h
    obtain ⟨v, H', e, hl, hk⟩ := loadK_sound hk
    obtain ⟨vs, hvs, hk⟩ := resK_sound hf hk
    exact ⟨v :: vs, by simp only [resA, hvs, lk_ok hf hx, hl], hk⟩

def envOf : Nat → List Value → Env
  | _, [] => []
  | i, v :: r => (i, v) :: envOf (i + 1) r
theorem frOf_ok (args : List Value) (n ng : Nat) : FOk (envOf 0 args) n ng (frOf args n ng) := by
  have hget : ∀ (l : List Value) (t : Tr Value) (i : Nat) (env : Env), (∀ n v, lk n env = some v → n < i ∧ (t.get n) = some v) →
      ∀ n v, (lk n env = some v ∨ lk n (envOf i l) = some v) → ((l.foldl (fun (s : Tr Value × Nat) v => (s.1.set s.2 v, s.2 + 1)) (t, i)).1.get n) = some v := by
    intro l
    induction l with
    | nil => intro t i env he n v h; rcases h with h | h; exact (he n v h).2; simp [envOf, lk] at h
    | cons x r ih =>
      intro t i env he n v h
      simp only [List.foldl_cons]
      refine ih (t.set i x) (i + 1) ((i, x) :: env) (fun m u hm => ?_) n v ?_
      · rw [lk_cons] at hm
        split at hm
        · rename_i h'; subst h'; cases hm; exact ⟨by omega, by rw [Tr.get_set, if_pos rfl]⟩
        · have := he m u hm; exact ⟨by omega, by rw [Tr.get_set, if_neg (by omega)]; exact this.2⟩
      · rw [lk_cons]
        rcases h with h | h
        · have := (he n v h).1; left; rw [if_neg (by omega)]; exact h
        · simp only [envOf, lk_cons] at h
          split at h
          · rename_i h'; left; rw [if_pos h']; exact h
          · exact .inr h
  refine ⟨fun i v h => ?_, rfl, rfl, rfl⟩
  unfold Fr.get
  have := hget args .nil 0 [] (fun n v h => by simp [lk] at h) i v (.inr h)
  simp only [frOf, this, Option.getD_some]

/-- How a body's end ends the call. -/
def bodyK (P : Program) (fn : Func) (Q : CRes → AHeap → Prop) (e : AExit) (env : Env) (H : AHeap) : Prop :=
  match e with
  | .normal | .ret => resK P env H fn.results.toList fun l => Q (.ret (oneOf l)) H
  | _ => False
theorem Does.of {g : FuncId} {fn : Func} {c : Code} (hf : P.funcs[g]? = some fn) (hp : ∀ args H, O g args H = none) (hb : bodyOf fn = some c) {args : List Value} {H : AHeap} {Q : CRes → AHeap → Prop}
    (h : vc P O (max fn.ntmps args.length) H.globN c (envOf 0 args) H (bodyK P fn Q)) : Does P O g args H Q := by
  obtain ⟨k, e, f1, H1, env1, he, hf1, hq⟩ := (vc_sound h).ends _ (frOf_ok args _ _)
  refine ⟨k, ?_⟩
  have hpa := hp args H
  have hd := hf1.defs
  cases e with
  | normal =>
    obtain ⟨vs, hvs, hk⟩ := resK_sound hf1 hq
    exact ⟨_, _, by simp only [callAO, callO, hpa, callB, hf, hb, he, bodyX, hd, leaveX, endX, hvs], hk⟩
  | ret =>
    obtain ⟨vs, hvs, hk⟩ := resK_sound hf1 hq
    exact ⟨_, _, by simp only [callAO, callO, hpa, callB, hf, hb, he, bodyX, hd, leaveX, endX, hvs], hk⟩
  | exit i => exact hq.elim
  | panic v => exact hq.elim
/-- A call that the oracle knows. -/
theorem Does.known {g : FuncId} {args : List Value} {H : AHeap} {r : CRes} {H' : AHeap} {Q : CRes → AHeap → Prop} (h : O g args H = some (r, H')) (hq : Q r H') : Does P O g args H Q :=
  ⟨0, r, H', by simp only [callAO, callO, h], hq⟩
end Go.AX
