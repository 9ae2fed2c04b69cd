/- awake answers true, by the abstract executor in the kernel. -/
import Derived.Test.YthmoppbejboeeaaGreatDoorLTabs
import Derived.Test.YthmoppbejboeeaaGreatDoorAxSame
namespace Go.AX.Tryz
open Go Go.AX Go.Proofs
set_option maxRecDepth 100000
theorem awake_fast : AX.callTH Tryz.prog 100000 6 [] (AX.laidH ng tables) = true := by kernel_rfl
theorem awake_runs : AX.isTrue (AX.callA Tryz.prog 100000 6 [] (AX.laidH ng tables)) = true := AX.callTH_true awake_fast
end Go.AX.Tryz
