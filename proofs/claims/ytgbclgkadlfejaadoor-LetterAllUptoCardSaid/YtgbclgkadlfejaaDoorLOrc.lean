/- The oracle of this seat: awake answers true. -/
import Derived.Test.YtgbclgkadlfejaaDoorPrims
import Derived.Test.YtgbclgkadlfejaaDoorLRow
import Derived.Test.YtgbclgkadlfejaaDoorAxArg
import Derived.Test.YtgbclgkadlfejaaDoorAxSame
namespace Go.AX.Tryd
open Go Go.AX Go.AX.Lw Go.Proofs
set_option maxRecDepth 100000
noncomputable def orc : Orc := fun g args H => match g, args with
  | 7, [] => some (.ret (.bool true), H)
  | _, _ => none
theorem sound : AX.progOk Tryd.prog = true := by kernel_rfl
theorem awake_fast : AX.callT Tryd.prog 100000 7 = true := by kernel_rfl
theorem orc_wf : CallWf orc := fun g args H r H' h hw => by
  unfold orc at h
  split at h
  · cases h; exact hw
  · cases h
theorem orc_ok : CallOk Tryd.prog orc := fun g args H r H' h => by
  unfold orc at h
  split at h
  · cases h; exact yes_call sound (Checked.mixed Tryd.checked) Go.Proofs.YtgbclgkadlfejaaDoor.prims (AX.callT_true awake_fast) H
  · cases h
theorem _root_.Go.AX.Does.wf {g : FuncId} {args : List Value} {H : AHeap} {Q : CRes → AHeap → Prop} (h : Does Tryd.prog orc g args H Q) (hw : Wf H) : Does Tryd.prog orc g args H fun r H' => Q r H' ∧ Wf H' := Does.wf_of orc_wf h hw
theorem awake_any (H : AHeap) : Does Tryd.prog orc 7 [] H fun r H' => r = .ret (.bool true) ∧ H = H' := Does.known rfl ⟨rfl, rfl⟩
end Go.AX.Tryd
