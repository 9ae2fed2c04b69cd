/- The law SessionNone answers true for every text, where the listed variables hold what the program's text lays. The abstract executor (the texts YthmoppbejboeeaaGreatDoorAx..), which is proved sound for every tape, is run over the law in the kernel. -/
import Derived.Test.YthmoppbejboeeaaGreatDoorCards
import Derived.Test.YthmoppbejboeeaaGreatDoorTie
import Derived.Test.YthmoppbejboeeaaGreatDoorLSesD
import Derived.WalkKit
import Derived.ProofKit
import Derived.OpenShut
import Derived.ShutString
import Derived.ChangeOld
import Derived.Below
import Derived.Deep.DeepHandedRow
import Derived.Lib.LaidTab
import Derived.Deep.DeepWitnessRowRef
namespace Go.Proofs.YthmoppbejboeeaaGreatDoor.sessionNone
open Go.ChangeShapes Go.WideShapes Go.ChangeAt Go.RowKit
open Go.ChangeMaps (open_string shut_string)
set_option linter.unusedVariables false
set_option linter.unusedSimpArgs false
set_option maxRecDepth 100000
theorem plain (f : FuncId) (fn : Func) (hf : Tryz.pinned.checked.prog.funcNamed "rejoinder/rejoinderlaw30.SessionNone" = some f) (hfn : Tryz.pinned.checked.prog.funcs[f]? = some fn) :
    true = Tryz.pinned.checked.prog.looks [] ∧ ∀ (j : Nat) t, fn.params[j]? = some t → Tryz.pinned.checked.prog.wantsStandIn t = false := by
  obtain rfl : f = 3 := Option.some.inj ((show Tryz.prog.funcNamed "rejoinder/rejoinderlaw30.SessionNone" = some 3 by kernel_rfl).symm.trans hf) |>.symm
  obtain rfl : fn = Tryz.f3 := (Option.some.inj (Tryz.func3.symm.trans hfn)).symm
  refine ⟨by kernel_rfl, fun j t ht => ?_⟩
  rw [Tryz.params3] at ht
  have hm := Array.mem_of_getElem? ht
  simp only [List.mem_toArray, List.mem_cons, List.mem_nil_iff, or_false] at hm
  rcases hm with rfl
  · exact (show Tryz.prog.wantsStandIn 9 = false by kernel_rfl)
theorem card : Rows.SessionNoneCardSaid :=
  Claim7.holds_tied_plain_at .later [] _ _ _ _ said (fun _ h => by cases h) (by kernel_rfl) (fun _ h => by cases h) sessionNone_row_tie rfl ⟨rfl, rfl⟩ (by kernel_rfl) rfl plain (by kernel_rfl)
end Go.Proofs.YthmoppbejboeeaaGreatDoor.sessionNone
namespace Go.Proofs.YthmoppbejboeeaaGreatDoor
theorem sessionNone_card : Rows.SessionNoneCardSaid := sessionNone.card
#print axioms sessionNone_card
end Go.Proofs.YthmoppbejboeeaaGreatDoor
