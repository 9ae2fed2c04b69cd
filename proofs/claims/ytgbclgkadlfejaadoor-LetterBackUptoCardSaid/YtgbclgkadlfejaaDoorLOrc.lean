/- The oracle of this seat: awake answers true; strings.Join, Count, Index answer as the library's contracts say. -/
import Derived.Test.YtgbclgkadlfejaaDoorPrims
import Derived.Test.YtgbclgkadlfejaaDoorLRow
import Derived.Test.YtgbclgkadlfejaaDoorAxArg
import Derived.Test.YtgbclgkadlfejaaDoorAxSame
namespace Go.AX.Tryd
open Go Go.AX Go.AX.Lw Go.Proofs
set_option maxRecDepth 100000
noncomputable def primO (p : Prim) (args : List Value) (H : AHeap) : Option (CRes × AHeap) :=
  match primA p args H with
  | some v => some (.ret v, H)
  | none => none
noncomputable def orc : Orc := fun g args H => match g with
  | 7 => (match args with | [] => some (.ret (.bool true), H) | _ => none)
  | 40 => primO .join args H
  | 62 => primO .count args H
  | 69 => primO .index args H
  | _ => none
theorem sound : AX.progOk Tryd.prog = true := by kernel_rfl
theorem awake_fast : AX.callT Tryd.prog 100000 7 = true := by kernel_rfl
theorem primO_some {p : Prim} {args : List Value} {H H' : AHeap} {r : CRes} (h : primO p args H = some (r, H')) : ∃ v, primA p args H = some v ∧ r = .ret v ∧ H' = H := by
  unfold primO at h
  split at h
  · rename_i v hv; cases h; exact ⟨v, hv, rfl, rfl⟩
  · cases h
theorem orc_wf : CallWf orc := fun g args H r H' h hw => by
  unfold orc at h
  split at h
  · split at h
    · cases h; exact hw
    · cases h
  · obtain ⟨v, -, -, rfl⟩ := primO_some h; exact hw
  · obtain ⟨v, -, -, rfl⟩ := primO_some h; exact hw
  · obtain ⟨v, -, -, rfl⟩ := primO_some h; exact hw
  · cases h
theorem prim_call {g : FuncId} {p : Prim} (hp : primAt Tryd.prog g = some p) {args : List Value} {H : AHeap} {v : Value} (hv : primA p args H = some v) :
    H.next ≤ H.next ∧ (∃ fn c, Tryd.prog.funcs[g]? = some fn ∧ fn.body = some c) ∧
    (Wf H → ∀ ρ base w (args' : Array Value), Sim ρ base H w → VsRel ρ args args'.toList → Fresh ρ H.next H.next → Calls Tryd.prog g args' w (Ends ρ base H w H (.ret v))) := by
  obtain ⟨h1, h2⟩ := Go.Proofs.YtgbclgkadlfejaaDoor.prims g p args H v hp hv
  refine ⟨Nat.le_refl _, h1, fun hw ρ base w args' hs ha _ => (h2 ρ base w args' hs ha).mono ?_⟩
  rintro e w' ⟨v', rfl, hr, hb⟩
  exact ⟨ρ, below_ok hs hb, hr⟩
theorem orc_ok : CallOk Tryd.prog orc := fun g args H r H' h => by
  unfold orc at h
  split at h
  · split at h
    · cases h; exact yes_call sound (Checked.mixed Tryd.checked) Go.Proofs.YtgbclgkadlfejaaDoor.prims (AX.callT_true awake_fast) H
    · cases h
  · obtain ⟨v, hv, rfl, rfl⟩ := primO_some h; exact prim_call (by kernel_rfl) hv
  · obtain ⟨v, hv, rfl, rfl⟩ := primO_some h; exact prim_call (by kernel_rfl) hv
  · obtain ⟨v, hv, rfl, rfl⟩ := primO_some h; exact prim_call (by kernel_rfl) hv
  · cases h
theorem _root_.Go.AX.Does.wf {g : FuncId} {args : List Value} {H : AHeap} {Q : CRes → AHeap → Prop} (h : Does Tryd.prog orc g args H Q) (hw : Wf H) : Does Tryd.prog orc g args H fun r H' => Q r H' ∧ Wf H' := Does.wf_of orc_wf h hw
theorem awake_any (H : AHeap) : Does Tryd.prog orc 7 [] H fun r H' => r = .ret (.bool true) ∧ H = H' := Does.known rfl ⟨rfl, rfl⟩
theorem join_any (H : AHeap) (a : Option Addr) (n c : Nat) (xs : List ByteArray) (sep : ByteArray) (hr : Row H a n c (xs.map .string)) (hn : n ≤ 2 ^ 40) (hl : (Lib.join (xs.map (·.data.toList)) sep.data.toList).length ≤ 2 ^ 40) :
    Does Tryd.prog orc 40 [.slice a n c, .string sep] H fun r H' => r = .ret (.string ⟨(Lib.join (xs.map (·.data.toList)) sep.data.toList).toArray⟩) ∧ H = H' := by
  refine Does.known (r := .ret (.string ⟨(Lib.join (xs.map (·.data.toList)) sep.data.toList).toArray⟩)) (H' := H) ?_ ⟨rfl, rfl⟩
  have hp : primA .join [.slice a n c, .string sep] H = some (.string ⟨(Lib.join (xs.map (·.data.toList)) sep.data.toList).toArray⟩) := by
    have hlen := hr.len; simp at hlen
    by_cases h0 : n = 0
    · subst h0
      obtain rfl := List.length_eq_zero_iff.1 hlen.symm
      rfl
    · obtain ⟨b, o, st, rfl, hcs⟩ := hr.cells h0
      have htx : ∀ (l : List ByteArray), textsL (l.map .string) = some l := by
        intro l
        induction l with
        | nil => rfl
        | cons x r ih => simp only [List.map_cons, textsL, ih]
      have b1 : (Nat.ble n c && Nat.ble n 140737488355328) = true := by
        simp only [Bool.and_eq_true]; exact ⟨nble hr.cap, nble (by omega)⟩
      unfold primA
      simp only [nbeq_no h0, cond_false, b1, cond_true, hcs, htx]
      rw [nble (by omega : (Lib.join (xs.map (·.data.toList)) sep.data.toList).length ≤ 140737488355328)]
      rfl
  show primO .join _ H = _
  unfold primO
  rw [hp]
theorem count_any (H : AHeap) (s t : ByteArray) (c : UInt8) (ht : t.data.toList = [c]) : Does Tryd.prog orc 62 [.string s, .string t] H fun r H' => r = .ret (.int .i64 (Lib.countByte s.data.toList c)) ∧ H = H' := by
  refine Does.known (r := .ret (.int .i64 (Lib.countByte s.data.toList c))) (H' := H) ?_ ⟨rfl, rfl⟩
  show primO .count [.string s, .string t] H = _
  simp only [primO, primA, ht]
theorem index_any' (H : AHeap) (s t : ByteArray) (c : UInt8) (ht : t.data.toList = [c]) : Does Tryd.prog orc 63 [.string s, .string t] H fun r H' => r = .ret (.int .i64 (Lib.indexByte s.data.toList c)) ∧ H = H' := by
  refine Does.of Tryd.func63 (fun _ _ => rfl) rfl ?_
  conv => whnf
  refine Does.known (r := .ret (.int .i64 (Lib.indexByte s.data.toList c))) (H' := H) ?_ ?_
  · show primO .index [.string s, .string t] H = _
    simp only [primO, primA, ht]
  · conv => whnf
    exact ⟨rfl, rfl⟩
end Go.AX.Tryd
