/- The oracle of this seat: strings.Join and a Builder's copyCheck answer as the library's contracts say. -/
import Derived.Test.YtkngijdjkcdcjaaDoorPrims
import Derived.Test.YtkngijdjkcdcjaaDoorLRow
import Derived.Test.YtkngijdjkcdcjaaDoorAxArg
namespace Go.AX.Tryd
open Go Go.AX Go.AX.Lw Go.Proofs
set_option linter.unusedVariables false
set_option maxRecDepth 100000
noncomputable def primO (p : Prim) (args : List Value) (H : AHeap) : Option (CRes × AHeap) :=
  match primA Tryd.prog p args H with
  | some x => some (.ret x.1, x.2)
  | none => none
noncomputable def orc : Orc := fun g args H => match g with
  | 33 => primO .join args H
  | 36 => primO (.check 47) args H
  | _ => none
theorem sound : AX.progOk Tryd.prog = true := by kernel_rfl
theorem primO_some {p : Prim} {args : List Value} {H H' : AHeap} {r : CRes} (h : primO p args H = some (r, H')) : ∃ v, primA Tryd.prog p args H = some (v, H') ∧ r = .ret v := by
  unfold primO at h
  split at h
  · rename_i x hx; cases h; exact ⟨_, hx, rfl⟩
  · cases h
theorem primO_wf {p : Prim} {args : List Value} {H H' : AHeap} {r : CRes} (h : primO p args H = some (r, H')) (hw : Wf H) : Wf H' := by
  obtain ⟨v, hx, -⟩ := primO_some h
  rcases primA_wf hx with e | ⟨b, o, o', hg, e⟩
  · rw [show H' = H from e]; exact hw
  · rw [show H' = H.set b o' from e]; exact hw.set hg _
theorem orc_wf : CallWf orc := fun g args H r H' h hw => by
  unfold orc at h
  split at h
  · exact primO_wf h hw
  · exact primO_wf h hw
  · cases h
theorem prim_call {g : FuncId} {p : Prim} (hp : primAt Tryd.prog g = some p) {args : List Value} {H H' : AHeap} {r : CRes} (h : primO p args H = some (r, H')) : H.next ≤ H'.next ∧ CallHow Tryd.prog g args H r H' := by
  obtain ⟨v, hx, rfl⟩ := primO_some h
  have hn : H.next ≤ H'.next := by
    rcases primA_wf hx with e | ⟨b, o, o', hg, e⟩
    · rw [show H' = H from e]; exact Nat.le_refl _
    · rw [show H' = H.set b o' from e]; exact Nat.le_refl _
  exact ⟨hn, (Go.Proofs.YtkngijdjkcdcjaaDoor.prims _ p _ H v H' hp hx).imp (fun ⟨h1, h2⟩ => ⟨h1, fun hw ρ base w args' hs ha _ => h2 hw ρ base w args' hs ha⟩) id⟩
theorem orc_ok : CallOk Tryd.prog orc := fun g args H r H' h => by
  unfold orc at h
  split at h
  · exact prim_call (by kernel_rfl) h
  · exact prim_call (by kernel_rfl) h
  · cases h
theorem _root_.Go.AX.Does.wf {g : FuncId} {args : List Value} {H : AHeap} {Q : CRes → AHeap → Prop} (h : Does Tryd.prog orc g args H Q) (hw : Wf H) : Does Tryd.prog orc g args H fun r H' => Q r H' ∧ Wf H' := Does.wf_of orc_wf h hw
theorem join_any (H : AHeap) (a : Option Addr) (n c : Nat) (xs : List ByteArray) (sep : ByteArray) (hr : Row H a n c (xs.map .string)) (hn : n ≤ 2 ^ 40) (hl : (Lib.join (xs.map (·.data.toList)) sep.data.toList).length ≤ 2 ^ 40) :
    Does Tryd.prog orc 33 [.slice a n c, .string sep] H fun r H' => r = .ret (.string ⟨(Lib.join (xs.map (·.data.toList)) sep.data.toList).toArray⟩) ∧ H = H' := by
  refine Does.known (r := .ret (.string ⟨(Lib.join (xs.map (·.data.toList)) sep.data.toList).toArray⟩)) (H' := H) ?_ ⟨rfl, rfl⟩
  have hp : primA Tryd.prog .join [.slice a n c, .string sep] H = some (.string ⟨(Lib.join (xs.map (·.data.toList)) sep.data.toList).toArray⟩, H) := by
    have hlen := hr.len; simp at hlen
    by_cases h0 : n = 0
    · subst h0
      obtain rfl := List.length_eq_zero_iff.1 hlen.symm
      rfl
    · obtain ⟨b, o, st, rfl, hcs⟩ := hr.cells h0
      have htx : ∀ (l : List ByteArray), textsL (l.map .string) = some l := by
        intro l
        induction l with
        | nil => rfl
        | cons x r ih => simp only [List.map_cons, textsL, ih]
      have b1 : (Nat.ble n c && Nat.ble n 140737488355328) = true := by
        simp only [Bool.and_eq_true]; exact ⟨nble hr.cap, nble (by omega)⟩
      unfold primA
      simp only [nbeq_no h0, cond_false, b1, cond_true, hcs, htx]
      rw [nble (by omega : (Lib.join (xs.map (·.data.toList)) sep.data.toList).length ≤ 140737488355328)]
      rfl
  show primO .join _ H = _
  unfold primO
  rw [hp]
end Go.AX.Tryd
