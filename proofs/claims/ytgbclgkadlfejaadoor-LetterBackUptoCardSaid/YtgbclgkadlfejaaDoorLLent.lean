/- Contracts: texts that are lent, and kept. -/
import Derived.Test.YtgbclgkadlfejaaDoorLKit
namespace Go.AX.Tryd
open Go Go.AX Go.AX.Lw Go.Proofs
set_option linter.unusedVariables false
set_option maxRecDepth 100000

abbrev strs (ss : List ByteArray) : List Value := ss.map .string
def lentC (ss : List ByteArray) : List Value := strs ss ++ List.replicate 3 (.string ⟨#[]⟩)
/-- A list that is lent: n of a block's n + 3 texts. -/
structure Lent (H0 H : AHeap) (v : Value) (ss : List ByteArray) : Prop where
  lent : ∃ b, v = .slice (some ⟨b, 0, none⟩) ss.length (ss.length + 3) ∧ H0.next ≤ b ∧ H.get b = some (.cells (lentC ss) 0 true)
theorem Lent.ext {H0 H H' : AHeap} {v : Value} {ss : List ByteArray} (hw : Wf H) (e : Ext H H') (h : Lent H0 H v ss) : Lent H0 H' v ss := by
  obtain ⟨b, hv, hb, hg⟩ := h.lent
  exact ⟨b, hv, hb, by rw [e.get b (hw.lt hg)]; exact hg⟩
theorem Lent.row {H0 H : AHeap} {v : Value} {ss : List ByteArray} (h : Lent H0 H v ss) : ∃ a, v = .slice a ss.length (ss.length + 3) ∧ Row H a ss.length (ss.length + 3) (strs ss) := by
  obtain ⟨b, hv, hb, hg⟩ := h.lent
  exact ⟨_, hv, Row.of_block hg (by simp) (by omega) (List.prefix_append _ _)⟩
theorem lentTexts_any (H : AHeap) (hw : Wf H) (a : Option Addr) (n c : Nat) (ss : List ByteArray) (hr : Row H a n c (strs ss)) (hn : n ≤ 2 ^ 30) :
    Does Tryd.prog orc 13 [.slice a n c] H fun r H' => ∃ v, r = .ret v ∧ Ext H H' ∧ Wf H' ∧ Lent H H' v ss := by
  have hlen := hr.len; simp at hlen
  have hcap := hr.cap
  refine (Does.wf (Q := fun r H' => ∃ v, r = .ret v ∧ Ext H H' ∧ Lent H H' v ss) ?_ hw).mono fun r H' ⟨⟨v, h1, h2, h3⟩, h4⟩ => ⟨v, h1, h2, h4, h3⟩
  refine Does.of Tryd.func13 (fun _ _ => rfl) rfl ?_
  repeat' ((conv => whnf); first
    | (refine Both.intro ?_ ?_ <;> intro _ <;> try (exfalso; omega))
    | (refine Need.intro (by omega) ?_)
    | fail)
  all_goals (conv => whnf)
  refine ⟨_, _, _, makeSlice_ok Tryd.underlying22 (z := .string ⟨#[]⟩) (by kernel_rfl) rfl (by_ := 16) (by kernel_rfl) (by kernel_rfl) (by omega), ?_⟩
  rw [Int.toNat_natCast, show ((n : Int) + 3).toNat = n + 3 by omega]
  conv => whnf
  have hg := get_new H (.cells (List.replicate (n + 3) (.string ⟨#[]⟩)) 0 true)
  obtain ⟨H1, ev, hc, hb, hg1⟩ := copy_ok (P := Tryd.prog) (ts := #[22, 22]) (e := 9) (by kernel_rfl) (by kernel_rfl) (hr.ext hw (Ext.push H (.cells (List.replicate (n + 3) (.string ⟨#[]⟩)) 0 true))) (st := none) (dl := n) (dc := n + 3) hg (Nat.le_refl _) (by omega) (by simp) (by simp [allOne, oneV])
  refine Outs.intro ⟨_, H1, ev, hc, ?_⟩
  repeat' ((conv => whnf); first
    | (refine Both.intro ?_ ?_ <;> intro _ <;> try (exfalso; omega))
    | (refine Need.intro (by omega) ?_)
    | fail)
  all_goals (conv => whnf)
  refine ⟨_, rfl, ⟨by rw [hb.next]; simp, fun b hb' => by rw [hb.get b (by omega), AHeap.get_push, if_neg (by omega)]⟩, ⟨H.next, by rw [hlen]; rfl, Nat.le_refl _, ?_⟩⟩
  rw [hg1, List.drop_replicate, show n + 3 - n = 3 by omega]
  rfl
theorem keptTexts_any (H0 H : AHeap) (v : Value) (a : Option Addr) (n c : Nat) (ss : List ByteArray) (hr : Row H a n c (strs ss)) (hl : Lent H0 H v ss) (hn : n ≤ 2 ^ 30) :
    Does Tryd.prog orc 26 [v, .slice a n c] H fun r H' => r = .ret (.bool true) ∧ H = H' := by
  have hlen := hr.len; simp at hlen
  have hcap := hr.cap
  obtain ⟨av, hav, hrv⟩ := hl.row
  obtain ⟨b, rfl, hb, hg⟩ := hl.lent
  cases hav
  refine Does.of Tryd.func26 (fun _ _ => rfl) rfl ?_
  repeat' ((conv => whnf); first
    | (refine Both.intro ?_ ?_ <;> intro _ <;> try (exfalso; omega))
    | (refine Need.intro (by omega) ?_)
    | (refine Gives.intro ⟨_, slice_toN Tryd.underlying22 (n := 1) (by kernel_rfl) (Nat.le_refl _), ?_⟩)
    | fail)
  all_goals (conv => whnf)
  refine Runs.loop (fun k : Nat => [(6, .int .i64 k), (5, .slice (some ⟨b, 0, none⟩) (ss.length + 3) (ss.length + 3)), (0, .slice (some ⟨b, 0, none⟩) ss.length (ss.length + 3)), (1, .slice a n c)]) (fun k H' => n ≤ k ∧ k ≤ n + 3 ∧ H = H') (fun k => n + 3 - k) n ⟨rfl, rfl, rfl, rfl, trivial⟩ ⟨by omega, by omega, rfl⟩ ?_
  rintro k _ ⟨hk, hk3, rfl⟩
  by_cases hlt : k < n + 3
  · have hcell : cellAt H b (0 + k) = some (.string ⟨#[]⟩) := by
      unfold cellAt
      simp only [hg, lentC, Nat.zero_add]
      rw [List.getElem?_append_right (by simp; omega), List.getElem?_replicate, if_pos (by simp; omega)]
    repeat' ((conv => whnf); first
      | (refine Both.intro ?_ ?_ <;> intro _ <;> try (exfalso; omega))
      | (refine Need.intro (by omega) ?_)
      | (refine ⟨_, hcell, ?_⟩)
      | fail)
    all_goals (conv => whnf)
    · rename_i h; exact absurd rfl h
    · exact ⟨k + 1, ⟨rfl, rfl, rfl, rfl, trivial⟩, ⟨by omega, by omega, rfl⟩, by omega⟩
  · skip
    repeat' ((conv => whnf); first
      | (refine Both.intro ?_ ?_ <;> intro _ <;> try (exfalso; omega))
      | (refine Need.intro (by omega) ?_)
      | (refine Does.mono (sameTexts_any H _ _ _ _ _ _ ss ss hrv hr (by omega) (by omega)) ?_; rintro _ _ ⟨b, rfl, hb, rfl⟩; cases (hb.2 rfl))
      | fail)
    all_goals (conv => whnf)
    exact ⟨rfl, rfl⟩
end Go.AX.Tryd
