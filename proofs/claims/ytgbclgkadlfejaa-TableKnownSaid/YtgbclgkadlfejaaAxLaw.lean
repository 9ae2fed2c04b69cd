/- What a law owes: a closed call, by the abstract executor. -/
import Derived.Test.YtgbclgkadlfejaaAxExec
namespace Go.AX
open Go Go.RowKit
set_option linter.unusedVariables false

variable {P : Program}

theorem progOk_name (h : progOk P = true) : ∀ (g : FuncId) fn, P.funcs[g]? = some fn → fn.name ≠ "runtime.NumGoroutine" := fun g fn hf => by
  have := List.all_eq_true.1 h fn (by simpa using Array.mem_of_getElem? hf)
  simp only [Bool.and_eq_true, Bool.not_eq_true', beq_eq_false_iff_ne] at this
  exact this.2
theorem progOk_code (h : progOk P = true) : ∀ (g : FuncId) fn c, P.funcs[g]? = some fn → fn.body = some c → codeOk P c = true := fun g fn c hf hb => by
  have := List.all_eq_true.1 h fn (by simpa using Array.mem_of_getElem? hf)
  simp only [Bool.and_eq_true, hb] at this
  exact this.1

/-- The executor tells the truth of calls. -/
theorem callOk (hp : progOk P = true) (hmix : P.follows .mixedOrders = true) (k : Nat) : CallOk P (callA P k) :=
  call_sound (progOk_name hp) fun g fn c h1 h2 f H ex f' H' h => (exec_sound hmix (progOk_name hp) (progOk_code hp) k).1 c f H ex f' H' (progOk_code hp g fn c h1 h2) h

def noRho : Rho := fun _ => .no
theorem sim_none (w : World) : Sim noRho w.heap.size H0 w where
  alive b x h := by cases h
  bsz := Nat.le_refl _
  inb b c k x h := by cases h
  obj b o h := by simp [H0, AHeap.get, Tr.get_nil] at h
  apart b b' c k x k' x' _ h := by cases h

/-- A closed call that the executor brings to true. -/
theorem closed_true (hp : progOk P = true) (hmix : P.follows .mixedOrders = true) {k : Nat} {g : FuncId} (h : isTrue (callA P k g [] H0) = true) (w : World) :
    Calls P g #[] w fun e w' => e = .returned (.bool true) ∧ Below w.heap.size w w' := by
  have hc := callOk hp hmix k
  cases hr : callA P k g [] H0 with
  | none => rw [hr] at h; cases h
  | some x =>
    obtain ⟨r, H'⟩ := x
    rw [hr] at h
    obtain ⟨-, -, h3⟩ := hc g [] H0 r H' hr
    refine (h3 (fun b _ => Tr.get_nil _) noRho w.heap.size w #[] (sim_none w) trivial (fun _ _ _ => rfl)).mono fun e w' he => ?_
    obtain ⟨ρ', ok, hm⟩ := he
    have hb : Below w.heap.size w w' := ⟨ok.step.os, ok.step.tape, ok.step.output, ok.step.size, fun k hk => ok.step.block k hk fun b c x _ hl => by cases hl⟩
    cases r with
    | ret v =>
      cases v <;> simp only [isTrue, Bool.false_eq_true] at h
      subst h
      cases e with
      | returned v' => cases hm; exact ⟨rfl, hb⟩
      | panicked c => exact hm.elim
      | outgrown => exact hm.elim
    | panic v => simp [isTrue] at h
end Go.AX
