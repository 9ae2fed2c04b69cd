/- SessionNone: a fact of the row. -/
import Derived.Test.YthmoppbejboeeaaGreatDoorRows
import Derived.Test.YthmoppbejboeeaaGreatDoorChecked
import Derived.JoinedCond
namespace Go.Proofs.YthmoppbejboeeaaGreatDoor.sessionNone
open Go
set_option linter.unusedVariables false
set_option maxRecDepth 100000
theorem k11 : (fun (P : Program) (f : FuncId) (fn : Func) (s : ChangeSpec) (c : OpenClaim) => (c.recurses == P.recurses f)) Tryz.prog 3 Tryz.f3 Rows.sessionNoneSpec Rows.sessionNoneRow = true := by kernel_rfl
end Go.Proofs.YthmoppbejboeeaaGreatDoor.sessionNone
