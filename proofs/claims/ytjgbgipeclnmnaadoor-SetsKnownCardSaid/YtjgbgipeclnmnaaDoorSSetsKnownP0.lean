/- The law SetsKnown, piece 0: what the executor makes of some statements, worked out by the kernel. -/
import Derived.Test.YtjgbgipeclnmnaaDoorSSetsKnown0
import Derived.WalkKit
import Derived.ProofKit
namespace Go.Proofs.YtjgbgipeclnmnaaDoor.setsKnown
open Go
set_option linter.unusedVariables false
set_option maxRecDepth 1000000
theorem piece0 : AX.fastN Tryd.prog 100000 7 body fr0 heap0 = .nrm fr1 heap1 := by kernel_rfl
end Go.Proofs.YtjgbgipeclnmnaaDoor.setsKnown
