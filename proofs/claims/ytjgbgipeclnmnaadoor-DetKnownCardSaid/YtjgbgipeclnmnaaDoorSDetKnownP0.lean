/- The law DetKnown, piece 0: what the machine makes of some steps, worked out by the kernel. -/
import Derived.Test.YtjgbgipeclnmnaaDoorSDetKnown0a
import Derived.WalkKit
import Derived.ProofKit
namespace Go.Proofs.YtjgbgipeclnmnaaDoor.detKnown
open Go
set_option linter.unusedVariables false
set_option maxRecDepth 1000000
theorem piece0 : AX.mrun Tryd.prog 100000 deep 10605 code0 fr0 heap0 konts0 = .stop code1 fr1 heap1 konts1 := by kernel_rfl
end Go.Proofs.YtjgbgipeclnmnaaDoor.detKnown
