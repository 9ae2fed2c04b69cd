/- A machine that runs code in small steps and can be stopped anywhere: runs too long for one evaluation are cut into pieces. -/
import Derived.Test.YtjgbgipeclnmnaaDoorAxSame4
import Derived.Test.YtjgbgipeclnmnaaDoorAxMono
namespace Go.AX
open Go
set_option linter.unusedVariables false

/-- What is still to do. -/
inductive Kt where
  | seq (b : Code)
  | block (id : Nat)
  | loop (c : Code)
  | call (fn : Func) (dst : Option Tmp) (f : Fr) (rest : Code)
inductive MRes where
  | stop (c : Code) (f : Fr) (H : AHeap) (K : List Kt)
  | fin (r : Res)
  | no

def noGuards (l : List Oper) : Bool := l.all fun o => o.guard.isNone
/-- The first call of a function that is gone into: what comes ahead, the call, what comes behind. -/
def deepSplit (D : Nat → Bool) : List Oper → Option (List Oper × Option Tmp × FuncId × List Operand × List Oper)
  | [] => none
  | o :: r =>
    let next := match deepSplit D r with
      | some (p, x) => some (o :: p, x)
      | none => none
    match o.op with
    | .call c => match c.callee with
      | .value (.func g) => bif D g && o.guard.isNone && noGuards r && (lastDefer r).isNone then some ([], o.dst, g, c.args.toList, r) else next
      | _ => next
    | _ => next

/-- A place in a code. -/
def sub : List Nat → Code → Code
  | [], c => c
  | i :: r, .seq a b => sub r (bif Nat.beq i 0 then a else b)
  | i :: r, .cond _ a b => sub r (bif Nat.beq i 0 then a else b)
  | _ :: r, .block _ c => sub r c
  | _ :: r, .loop c => sub r c
  | _ :: r, .scope c => sub r c
  | _ :: _, c => c
/-- What stands behind an operation of a region. -/
def restOf (j : Nat) : Code → Code
  | .region _ ops _ => .region 0 (ops.toList.drop (j + 1)).toArray false
  | c => c

noncomputable section
/-- A callee's frame is left: the value goes into the caller's frame. -/
def fRet (P : Program) (ex : Code → Fr → AHeap → Res) (fn : Func) (d : Option Tmp) (f1 : Fr) (r : Res) : Res :=
  Res.rec (motive := fun _ => Res) (fun f H => fLeave P ex fn .back f H (fRes P fn f H fun v H => putK f1 d v fun f2 => .nrm f2 H) (fun _ _ => .no) fun v H => putK f1 d v fun f2 => .nrm f2 H) (fun _ _ _ => .no)
    (fun f H => fLeave P ex fn .back f H (fRes P fn f H fun v H => putK f1 d v fun f2 => .nrm f2 H) (fun _ _ => .no) fun v H => putK f1 d v fun f2 => .nrm f2 H)
    (fun v f H => fLeave P ex fn (.thrown v) f H .no (fun _ _ => .no) fun v H => putK f1 d v fun f2 => .nrm f2 H) .no r
def onNrm (r : Res) (k : Fr → AHeap → MRes) : MRes :=
  Res.rec (motive := fun _ => MRes) (fun f H => k f H) (fun _ _ _ => .no) (fun _ _ => .no) (fun _ _ _ => .no) .no r
def onNrmOr (r : Res) (k : Fr → AHeap → MRes) (other : Res → MRes) : MRes :=
  Res.rec (motive := fun _ => MRes) (fun f H => k f H) (fun i f H => other (.ext i f H)) (fun f H => other (.ret f H)) (fun v f H => other (.pan v f H)) .no r
abbrev MRun := Code → Fr → AHeap → List Kt → MRes
def mPop (P : Program) (ex : Code → Fr → AHeap → Res) (run : MRun) (K : List Kt) (r : Res) : MRes :=
  List.rec (motive := fun _ => Res → MRes) (fun r => .fin r)
    (fun kt K ih r => Kt.rec (motive := fun _ => MRes)
      (fun b => onNrmOr r (fun f H => run b f H K) ih)
      (fun id => ih (fBlock id r))
      (fun c => onNrmOr r (fun f H => run (.loop c) f H K) ih)
      (fun fn d f1 rest => onNrm (fRet P ex fn d f1 r) fun f2 H2 => run rest f2 H2 K) kt) K r
def mEnter (P : Program) (run : MRun) (d : Option Tmp) (g : FuncId) (args : List Operand) (rest : Code) (K : List Kt) (f1 : Fr) (H1 : AHeap) : MRes :=
  Option.rec (motive := fun _ => MRes) .no (fun fn => Option.rec (motive := fun _ => MRes) .no (fun body =>
    onNrm (fL args f1 fun l => frK l (max fn.ntmps l.length) H1.globN fun f2 => .nrm f2 H1) fun f2 H2 => run body f2 H2 (.call fn d f1 rest :: K)) fn.body) P.funcs[g]?
def mStep (P : Program) (k : Nat) (D : Nat → Bool) (run : MRun) (c : Code) (f : Fr) (H : AHeap) (K : List Kt) : MRes :=
  Code.rec (motive := fun _ => MRes)
    (mPop P (fexec P k) run K (.nrm f H))
    (fun id ops draw => Bool.rec (motive := fun _ => MRes) (Option.rec (motive := fun _ => MRes)
        (mPop P (fexec P k) run K (fexec P (k + 1) (.region id ops false) f H))
        (fun x => Option.rec (motive := fun _ => MRes)
          (onNrm (fRunQ P (fCall P (fexec P k)) ops x.1 f H) fun f1 H1 => mEnter P run x.2.1 x.2.2.1 x.2.2.2.1 (.region 0 x.2.2.2.2.toArray false) K f1 H1)
          (fun _ => .no) (lastDefer ops.toList)) (deepSplit D ops.toList)) (mPop P (fexec P k) run K (fexec P (k + 1) (.region id ops true) f H)) draw)
    (fun a b _ _ => run a f H (.seq b :: K))
    (fun c a b _ _ => onNrmOr (fE c f fun c => asBool c .no fun t => Bool.rec (motive := fun _ => Res) (.ret f H) (.nrm f H) t) (fun f H => run a f H K) fun _ => run b f H K)
    (fun id c _ => run c f H (.block id :: K))
    (fun c _ => run c f H (.loop c :: K))
    (fun _ _ _ _ _ _ => .no)
    (fun id => mPop P (fexec P k) run K (.ext id f H))
    (fun c _ => run c f H K)
    (fun _ => mPop P (fexec P k) run K (.nrm f H))
    (fun _ => .no)
    (mPop P (fexec P k) run K (.ret f H))
    (fun _ => .no)
    c
def mrun (P : Program) (k : Nat) (D : Nat → Bool) (n : Nat) : MRun :=
  Nat.rec (motive := fun _ => MRun) (fun c f H K => .stop c f H K) (fun _ run => mStep P k D run) n
end

/-! ### what the machine's runs mean -/
def Ev' (P : Program) (c : Code) (f : Fr) (H : AHeap) (x : AExit × Fr × AHeap) : Prop := ∃ k, exec P k c f H = some x
def EvK (P : Program) : List Kt → AExit × Fr × AHeap → AExit × Fr × AHeap → Prop
  | [], x, y => x = y
  | .seq b :: K, (.normal, f, H), y => ∃ z, Ev' P b f H z ∧ EvK P K z y
  | .seq _ :: K, x, y => EvK P K x y
  | .block id :: K, (.exit i, f, H), y => EvK P K (bif Nat.beq i id then (.normal, f, H) else (.exit i, f, H)) y
  | .block _ :: K, x, y => EvK P K x y
  | .loop c :: K, (.normal, f, H), y => ∃ z, Ev' P (.loop c) f H z ∧ EvK P K z y
  | .loop _ :: K, x, y => EvK P K x y
  | .call fn d f1 rest :: K, x, y => ∃ k v H2 f2 z, bodyX P (deferX P (exec P k) fun _ _ _ => none) fn (some x) = some (.ret v, H2) ∧ f1.put d v = some f2 ∧ Ev' P rest f2 H2 z ∧ EvK P K z y
def Reach (P : Program) (c : Code) (f : Fr) (H : AHeap) (K : List Kt) (y : AExit × Fr × AHeap) : Prop := ∃ z, Ev' P c f H z ∧ EvK P K z y

/-- What a machine's answer says of what is reached. -/
def MRes.says (P : Program) : MRes → AExit × Fr × AHeap → Prop
  | .stop c f H K, y => Reach P c f H K y
  | .fin r, y => r.toR = some y
  | .no, _ => False

variable {P : Program}

theorem onNrm_says {r : Res} {k : Fr → AHeap → MRes} {y} (h : (onNrm r k).says P y) : ∃ f H, r = .nrm f H ∧ (k f H).says P y := by
  cases r with
  | nrm f H => exact ⟨f, H, rfl, h⟩
  | _ => exact h.elim

theorem fRet_eq (k : Nat) (fn : Func) (d : Option Tmp) (f1 : Fr) (r : Res) {f2 H2} (h : fRet P (fexec P k) fn d f1 r = .nrm f2 H2) :
    ∃ v, bodyX P (deferX P (exec P k) fun _ _ _ => none) fn r.toR = some (.ret v, H2) ∧ f1.put d v = some f2 := by
  have hf : (fun c f H => (fexec P k c f H).toR) = exec P k := by funext c f H; exact fexec_eq P k c f H
  have hres : ∀ (f' : Fr) (H' : AHeap) (kp kr : Value → AHeap → Res), fRes P fn f' H' kr = ofC kp kr (endX P fn f' (some (.back, H'))) := fun f' H' kp kr => by
    unfold fRes; simp only [endX]; cases resA P f' H' fn.results.toList <;> rfl
  have key : fRet P (fexec P k) fn d f1 r = ofC (fun _ _ => .no) (fun v H => putK f1 d v fun f2 => .nrm f2 H) (bodyX P (deferX P (exec P k) fun _ _ _ => none) fn r.toR) := by
    rw [← hf]
    cases r with
    | nrm f' H' => exact fLeave_eq (hres f' H' _ _)
    | ret f' H' => exact fLeave_eq (hres f' H' _ _)
    | pan v f' H' => exact fLeave_eq rfl
    | _ => rfl
  rw [key] at h
  cases hb : bodyX P (deferX P (exec P k) fun _ _ _ => none) fn r.toR with
  | none => rw [hb] at h; cases h
  | some x =>
    obtain ⟨e, H'⟩ := x
    rw [hb] at h
    cases e with
    | panic v => cases h
    | ret v =>
      simp only [ofC] at h
      rw [putK_eq] at h
      cases hp : f1.put d v with
      | none => rw [hp] at h; cases h
      | some f' => rw [hp] at h; cases h; exact ⟨v, rfl, hp⟩

/-- What a run that is handed on owes. -/
def Sound (P : Program) (run : MRun) : Prop := ∀ c f H K y, (run c f H K).says P y → Reach P c f H K y

theorem mPop_says {run : MRun} (hr : Sound P run) (k : Nat) : ∀ (K : List Kt) (r : Res) (y : AExit × Fr × AHeap), (mPop P (fexec P k) run K r).says P y → ∃ z, r.toR = some z ∧ EvK P K z y
  | [], r, y, h => ⟨y, h, rfl⟩
  | .seq b :: K, r, y, h => by
    cases r with
    | nrm f H => exact ⟨_, rfl, hr b f H K y h⟩
    | no => exact h.elim
    | ext i f H => obtain ⟨z, hz, hk⟩ := mPop_says hr k K (.ext i f H) y h; exact ⟨z, hz, by cases hz; exact hk⟩
    | ret f H => obtain ⟨z, hz, hk⟩ := mPop_says hr k K (.ret f H) y h; exact ⟨z, hz, by cases hz; exact hk⟩
    | pan v f H => obtain ⟨z, hz, hk⟩ := mPop_says hr k K (.pan v f H) y h; exact ⟨z, hz, by cases hz; exact hk⟩
  | .block id :: K, r, y, h => by
    obtain ⟨z, hz, hk⟩ := mPop_says hr k K (fBlock id r) y h
    cases r with
    | nrm f H => exact ⟨z, hz, by cases hz; exact hk⟩
    | no => cases hz
    | ext i f H =>
      refine ⟨(.exit i, f, H), rfl, ?_⟩
      show EvK P K (bif Nat.beq i id then (.normal, f, H) else (.exit i, f, H)) y
      have : (fBlock id (.ext i f H)) = (Bool.rec (motive := fun _ => Res) (.ext i f H) (.nrm f H) (Nat.beq i id)) := rfl
      rw [this] at hz
      cases hb : Nat.beq i id <;> rw [hb] at hz <;> cases hz <;> exact hk
    | ret f H => exact ⟨z, hz, by cases hz; exact hk⟩
    | pan v f H => exact ⟨z, hz, by cases hz; exact hk⟩
  | .loop c :: K, r, y, h => by
    cases r with
    | nrm f H => exact ⟨_, rfl, hr (.loop c) f H K y h⟩
    | no => exact h.elim
    | ext i f H => obtain ⟨z, hz, hk⟩ := mPop_says hr k K (.ext i f H) y h; exact ⟨z, hz, by cases hz; exact hk⟩
    | ret f H => obtain ⟨z, hz, hk⟩ := mPop_says hr k K (.ret f H) y h; exact ⟨z, hz, by cases hz; exact hk⟩
    | pan v f H => obtain ⟨z, hz, hk⟩ := mPop_says hr k K (.pan v f H) y h; exact ⟨z, hz, by cases hz; exact hk⟩
  | .call fn d f1 rest :: K, r, y, h => by
    obtain ⟨f2, H2, he, hs⟩ := onNrm_says (P := P) h
    obtain ⟨v, hb, hp⟩ := fRet_eq k fn d f1 r he
    obtain ⟨z, hz, hk⟩ := hr _ _ _ _ _ hs
    cases hrr : r.toR with
    | none => rw [hrr] at hb; simp only [bodyX] at hb; cases hb
    | some x => rw [hrr] at hb; exact ⟨x, rfl, k, v, H2, f2, z, hb, hp, hz, hk⟩
end Go.AX
