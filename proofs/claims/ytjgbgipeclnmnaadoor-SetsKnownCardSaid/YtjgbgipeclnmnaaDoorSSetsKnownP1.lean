/- The law SetsKnown, piece 1: what the executor makes of some statements, worked out by the kernel. -/
import Derived.Test.YtjgbgipeclnmnaaDoorSSetsKnown0
import Derived.WalkKit
import Derived.ProofKit
namespace Go.Proofs.YtjgbgipeclnmnaaDoor.setsKnown
open Go
set_option linter.unusedVariables false
set_option maxRecDepth 1000000
theorem piece1 : AX.endT Tryd.prog Tryd.f3 (AX.fexec Tryd.prog 100000 (AX.rightN 7 body) fr1 heap1) = true := by kernel_rfl
end Go.Proofs.YtjgbgipeclnmnaaDoor.setsKnown
