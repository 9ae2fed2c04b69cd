/- The law DetKnown, piece 1: what the machine makes of some steps, worked out by the kernel. -/
import Derived.Test.YtjgbgipeclnmnaaDoorSDetKnown0a
import Derived.WalkKit
import Derived.ProofKit
namespace Go.Proofs.YtjgbgipeclnmnaaDoor.detKnown
open Go
set_option linter.unusedVariables false
set_option maxRecDepth 1000000
theorem piece1 : AX.mrun Tryd.prog 100000 deep 1653 code1 fr1 heap1 konts1 = .stop code2 fr2 heap2 konts2 := by kernel_rfl
end Go.Proofs.YtjgbgipeclnmnaaDoor.detKnown
