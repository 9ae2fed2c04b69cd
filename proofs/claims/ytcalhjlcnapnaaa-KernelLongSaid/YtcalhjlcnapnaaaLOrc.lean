/- The oracle of this seat: awake answers true. -/
import Derived.Test.YtcalhjlcnapnaaaProg
import Derived.Test.YtcalhjlcnapnaaaChecked
import Derived.Test.YtcalhjlcnapnaaaLRow
import Derived.Test.YtcalhjlcnapnaaaAxArg
import Derived.Test.YtcalhjlcnapnaaaAxSame
namespace Go.AX.Try
open Go Go.AX Go.AX.Lw Go.Proofs
set_option maxRecDepth 100000
noncomputable def orc : Orc := fun g args H => match g with
  | 13 => (match args with | [] => some (.ret (.bool true), H) | _ => none)
  | 32 => (match args with | [] => some (.ret (.bool true), H) | _ => none)
  | _ => none
theorem sound : AX.progOk Try.prog = true := by kernel_rfl
theorem prims : AX.PrimOk Try.prog := AX.PrimOk.none (by kernel_rfl)
theorem awake_fast7 : AX.callT Try.prog 100000 13 = true := by kernel_rfl
theorem awake_fast8 : AX.callT Try.prog 100000 32 = true := by kernel_rfl
theorem orc_wf : CallWf orc := fun g args H r H' h hw => by
  unfold orc at h
  split at h
  · split at h
    · cases h; exact hw
    · cases h
  · split at h
    · cases h; exact hw
    · cases h
  · cases h
theorem orc_ok : CallOk Try.prog orc := fun g args H r H' h => by
  unfold orc at h
  split at h
  · split at h
    · cases h; exact yes_call sound (Checked.mixed Try.checked) prims (AX.callT_true awake_fast7) H
    · cases h
  · split at h
    · cases h; exact yes_call sound (Checked.mixed Try.checked) prims (AX.callT_true awake_fast8) H
    · cases h
  · cases h
theorem _root_.Go.AX.Does.wf {g : FuncId} {args : List Value} {H : AHeap} {Q : CRes → AHeap → Prop} (h : Does Try.prog orc g args H Q) (hw : Wf H) : Does Try.prog orc g args H fun r H' => Q r H' ∧ Wf H' := Does.wf_of orc_wf h hw
theorem awake7_any (H : AHeap) : Does Try.prog orc 13 [] H fun r H' => r = .ret (.bool true) ∧ H = H' := Does.known rfl ⟨rfl, rfl⟩
theorem awake8_any (H : AHeap) : Does Try.prog orc 32 [] H fun r H' => r = .ret (.bool true) ∧ H = H' := Does.known rfl ⟨rfl, rfl⟩
end Go.AX.Try
