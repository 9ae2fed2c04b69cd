/- The oracle tells the truth. -/
import Derived.Test.YthmoppbejboeeaaGreatDoorLAwake
namespace Go.AX.Tryz
open Go Go.AX Go.AX.Lw Go.Proofs
set_option linter.unusedVariables false
set_option maxRecDepth 100000
theorem sound : AX.progOk Tryz.prog = true := by kernel_rfl
theorem orc_ok : CallOk Tryz.prog orc := fun g args H r H' h => by
  unfold orc at h
  split at h
  · split at h
    · split at h
      · rename_i hl
        cases h
        exact ⟨Nat.le_refl _, laid_call sound (Checked.mixed Tryz.checked) Go.Proofs.YthmoppbejboeeaaGreatDoor.prims awake_runs tab_lt tab_int tab_in tab_ng tab_one hl.1 hl.2⟩
      · cases h
    · cases h
  · split at h
    · rename_i x hx
      cases h
      have hn : H.next ≤ x.2.next := by
        rcases primA_wf hx with e | ⟨b, o, o', hg, e⟩
        · rw [e]; exact Nat.le_refl _
        · rw [e]; exact Nat.le_refl _
      exact ⟨hn, (Go.Proofs.YthmoppbejboeeaaGreatDoor.prims _ .index _ H x.1 x.2 (by kernel_rfl) hx).imp (fun ⟨h1, h2⟩ => ⟨h1, fun hw ρ base w args' hs ha _ => h2 hw ρ base w args' hs ha⟩) id⟩
    · cases h
  · cases h
end Go.AX.Tryz
