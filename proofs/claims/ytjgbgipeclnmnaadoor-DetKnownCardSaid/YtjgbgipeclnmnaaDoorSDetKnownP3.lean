/- The law DetKnown, piece 3: what the machine makes of some steps, worked out by the kernel. -/
import Derived.Test.YtjgbgipeclnmnaaDoorSDetKnown0a
import Derived.WalkKit
import Derived.ProofKit
namespace Go.Proofs.YtjgbgipeclnmnaaDoor.detKnown
open Go
set_option linter.unusedVariables false
set_option maxRecDepth 1000000
theorem piece3 : AX.endM Tryd.prog Tryd.f7 (AX.mrun Tryd.prog 100000 deep 1309 code3 fr3 heap3 konts3) = true := by kernel_rfl
end Go.Proofs.YtjgbgipeclnmnaaDoor.detKnown
