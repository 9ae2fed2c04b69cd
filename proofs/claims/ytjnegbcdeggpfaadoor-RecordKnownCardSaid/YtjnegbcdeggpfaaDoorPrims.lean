/- The functions that are known by their answers, of this seat. -/
import Derived.Test.YtjnegbcdeggpfaaDoorLNumF
set_option linter.unusedVariables false
set_option maxRecDepth 100000
namespace Go.Proofs.YtjnegbcdeggpfaaDoor
open Go.Shelf Go.Proofs
def primNo : AX.Prim → Nat
  | .join => 1000000
  | .rep => 1000000
  | .count => 64
  | .index => 62
  | .check _ => 35
  | .atoi => 37
  | .add64 => 1000000
  | .num _ => 33
theorem primAll : ((List.range Tryd.prog.funcs.size).all fun g => match AX.primAt Tryd.prog g with | none => true | some p => Nat.beq g (primNo p)) = true := by kernel_rfl
theorem primGo (g : FuncId) (p : AX.Prim) (h : AX.primAt Tryd.prog g = some p) : g = primNo p := by
  have hg : g < Tryd.prog.funcs.size := by
    unfold AX.primAt at h
    split at h
    · rename_i fn hf; exact (Array.getElem?_eq_some_iff.1 hf).1
    · cases h
  have := List.all_eq_true.1 primAll g (List.mem_range.2 hg)
  rw [h] at this
  exact Nat.eq_of_beq_eq_true this
theorem prims : AX.PrimOk Tryd.prog := by
  intro g p args H v H' hp hv
  have e := primGo g p hp
  subst e
  cases p with
  | join =>
    have hp' : AX.primAt Tryd.prog 1000000 = some _ := hp
    rw [show AX.primAt Tryd.prog 1000000 = none by kernel_rfl] at hp'
    cases hp'
  | rep =>
    have hp' : AX.primAt Tryd.prog 1000000 = some _ := hp
    rw [show AX.primAt Tryd.prog 1000000 = none by kernel_rfl] at hp'
    cases hp'
  | count => exact .inl ⟨⟨Tryd.f64, (Option.isSome_iff_exists.1 (by kernel_rfl : Tryd.f64.body.isSome = true)).imp fun _ h => ⟨Tryd.func64, h⟩⟩, AX.count_for countLays args H v H' hv⟩
  | index => exact .inl ⟨⟨Tryd.f62, (Option.isSome_iff_exists.1 (by kernel_rfl : Tryd.f62.body.isSome = true)).imp fun _ h => ⟨Tryd.func62, h⟩⟩, AX.index_for indexLays args H v H' hv⟩
  | check t =>
    have ht : Tryd.f35.params[0]? = some t := by
      have hq : AX.primAt Tryd.prog 35 = Tryd.f35.params[0]?.map .check := by kernel_rfl
      have hp' : AX.primAt Tryd.prog 35 = some (.check t) := hp
      rw [hq, Option.map_eq_some_iff] at hp'
      obtain ⟨u, h1, h2⟩ := hp'
      cases h2; exact h1
    rw [Tryd.params35] at ht
    cases ht
    exact .inl ⟨⟨Tryd.f35, (Option.isSome_iff_exists.1 (by kernel_rfl : Tryd.f35.body.isSome = true)).imp fun _ h => ⟨Tryd.func35, h⟩⟩, AX.check_for checkLays checkX Tryd.underlying52 args H v H' hv⟩
  | atoi => exact .inl ⟨⟨Tryd.f37, (Option.isSome_iff_exists.1 (by kernel_rfl : Tryd.f37.body.isSome = true)).imp fun _ h => ⟨Tryd.func37, h⟩⟩, AX.atoi_for atoiLays args H v H' hv⟩
  | add64 =>
    have hp' : AX.primAt Tryd.prog 1000000 = some _ := hp
    rw [show AX.primAt Tryd.prog 1000000 = none by kernel_rfl] at hp'
    cases hp'
  | num t =>
    have ht : Tryd.f33.params[0]? = some t := by
      have hq : AX.primAt Tryd.prog 33 = Tryd.f33.params[0]?.map .num := by kernel_rfl
      have hp' : AX.primAt Tryd.prog 33 = some (.num t) := hp
      rw [hq, Option.map_eq_some_iff] at hp'
      obtain ⟨u, h1, h2⟩ := hp'
      cases h2; exact h1
    rw [Tryd.params33] at ht
    cases ht
    exact .inl ⟨⟨Tryd.f33, (Option.isSome_iff_exists.1 (by kernel_rfl : Tryd.f33.body.isSome = true)).imp fun _ h => ⟨Tryd.func33, h⟩⟩, num_for args H v H' hv⟩
end Go.Proofs.YtjnegbcdeggpfaaDoor
