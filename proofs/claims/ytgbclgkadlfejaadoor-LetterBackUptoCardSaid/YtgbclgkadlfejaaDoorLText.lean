/- Contracts: texts cut at a byte, letters as texts, and read. -/
import Derived.Test.YtgbclgkadlfejaaDoorLLAll2
import Derived.Test.YtgbclgkadlfejaaDoorLSplit
namespace Go.AX.Tryd
open Go Go.AX Go.AX.Lw Go.Proofs
set_option linter.unusedVariables false
set_option maxRecDepth 100000

def bytes (s : ByteArray) : List UInt8 := s.data.toList
theorem str_to {P : Program} {t : TypeId} (ht : P.underlying t = some .string) {s : ByteArray} {k : IntKind} {h : Int} (hh : 0 ≤ h ∧ h ≤ s.size) : aSlice P t (.string s) none (some (.int k h)) none = some (.string (s.extract 0 h.toNat)) := by
  unfold aSlice
  simp only [ht, aBound]
  rw [if_pos (by omega)]
theorem str_from {P : Program} {t : TypeId} (ht : P.underlying t = some .string) {s : ByteArray} {k : IntKind} {l : Int} (hh : 0 ≤ l ∧ l ≤ s.size) : aSlice P t (.string s) (some (.int k l)) none none = some (.string (s.extract l.toNat s.size)) := by
  unfold aSlice
  simp only [ht, aBound]
  rw [if_pos (by omega)]
theorem genSplit_any (H : AHeap) (hw : Wf H) (s sep : ByteArray) (c : UInt8) (hc : sep.data.toList = [c]) (hs : s.size ≤ 2 ^ 30) :
    Does Tryd.prog orc 54 [.string s, .string sep, .int .i64 0, .int .i64 (-1)] H fun r H' => ∃ (a : Option Addr) (n : Nat) (ps : List ByteArray), r = .ret (.slice a n n) ∧ Ext H H' ∧ Wf H' ∧ Row H' a n n (strs ps) ∧ ps.map bytes = splitL c (bytes s) := by
  have hsz : s.size = s.data.toList.length := by simp
  have hcs : Lib.countByte s.data.toList c ≤ s.size := by rw [hsz]; exact List.count_le_length
  refine Does.of Tryd.func54 (fun _ _ => rfl) rfl ?_
  repeat' ((conv => whnf); first
    | (refine Both.intro ?_ ?_ <;> intro _ <;> try (exfalso; omega))
    | (refine Need.intro (by omega) ?_)
    | (refine Does.mono (count_any _ _ _ c hc) ?_; rintro _ _ ⟨rfl, rfl⟩)
    | fail)
  all_goals (conv => whnf)
  · rename_i h; rw [hc] at h; cases h
  obtain ⟨N, hN⟩ : ∃ N : Nat, N = Lib.countByte s.data.toList c := ⟨_, rfl⟩
  rw [← hN] at hcs
  rw [← hN]
  refine ⟨_, _, _, makeSlice_ok Tryd.underlying22 (z := .string ⟨#[]⟩) (by kernel_rfl) rfl (by_ := 16) (by kernel_rfl) (by kernel_rfl) (by omega), ?_⟩
  rw [show ((N : Int) + 1).toNat = N + 1 by omega]
  repeat' ((conv => whnf); first
    | (refine Both.intro ?_ ?_ <;> intro _ <;> try (exfalso; omega))
    | (refine Need.intro (by omega) ?_)
    | fail)
  all_goals (conv => whnf)
  have hseps : sep.size = 1 := by have : sep.size = sep.data.toList.length := by simp
                                  rw [this, hc]; rfl
  refine Runs.loop (fun x : Nat × ByteArray × List ByteArray => [(10, .int .i64 x.1), (9, .slice (some ⟨H.next, 0, none⟩) (N + 1) (N + 1)), (3, .int .i64 (N : Int)), (2, .int .i64 0), (1, .string sep), (0, .string x.2.1)])
    (fun x H' => x.1 ≤ N ∧ Ext H H' ∧ Wf H' ∧ x.2.2.length = x.1 ∧ H'.get H.next = some (.cells (strs x.2.2 ++ List.replicate (N + 1 - x.1) (.string ⟨#[]⟩)) 0 true) ∧ x.2.2.map bytes ++ splitL c (bytes x.2.1) = splitL c (bytes s) ∧ Lib.countByte (bytes x.2.1) c + x.1 = N ∧ x.2.1.size ≤ s.size)
    (fun x => N - x.1) (0, s, []) ⟨rfl, by rfl, ?_, rfl, rfl, rfl, trivial⟩ ⟨by omega, Ext.push _ _, hw.push _, rfl, by rw [get_new]; simp, by simp, by simp [bytes, hN], Nat.le_refl _⟩ ?_
  · show some (Value.int .i64 ((N : Int) + 1 - 1)) = _
    rw [show (N : Int) + 1 - 1 = N by omega]
  rintro ⟨k, rest, done⟩ H1 ⟨hk, he, hw1, hdl, hg, hsp, hcn, hrs⟩
  dsimp only at hk hdl hg hsp hcn hrs
  have hrz : rest.size = rest.data.toList.length := by simp
  show vc _ _ _ _ _ [(10, .int .i64 k), (9, .slice (some ⟨H.next, 0, none⟩) (N + 1) (N + 1)), (3, .int .i64 (N : Int)), (2, .int .i64 0), (1, .string sep), (0, .string rest)] _ _
  by_cases hlt : k < N
  · obtain ⟨m, hm⟩ := index_of_count (c := c) (l := rest.data.toList) (by show 0 < Lib.countByte (bytes rest) c; omega)
    have hmlt := (split_at hm).1
    have hst : 0 + ((k : Int)).toNat < (strs done ++ List.replicate (N + 1 - k) (Value.string ⟨#[]⟩)).length := by
      simp only [List.length_append, List.length_map, List.length_replicate]; omega
    repeat' ((conv => whnf); first
      | (refine Both.intro ?_ ?_ <;> intro _ <;> try (exfalso; omega))
      | (refine Need.intro (by omega) ?_)
      | (refine Does.mono (index_any' _ _ _ c hc) ?_; rintro _ _ ⟨rfl, rfl⟩; rw [hm])
      | (refine Gives.intro ⟨_, str_to Tryd.underlying9 (by omega), ?_⟩)
      | (refine Gives.intro ⟨_, str_from Tryd.underlying9 (by omega), ?_⟩)
      | (refine Outs.intro ⟨_, _, _, store_ok (by kernel_rfl) rfl rfl hg hst, ?_⟩)
      | fail)
    all_goals (conv => whnf)
    have e1 : (rest.extract 0 ((m : Int) + 0).toNat).data.toList = rest.data.toList.take m := by rw [Lib.extract_data]; simp
    have e2 : (rest.extract ((m : Int) + (sep.size : Int)).toNat rest.size).data.toList = rest.data.toList.drop (m + 1) := by
      rw [Lib.extract_data, hseps, show ((m : Int) + ((1 : Nat) : Int)).toNat = m + 1 by omega, List.take_of_length_le (by simp)]
    have hset : (strs done ++ List.replicate (N + 1 - k) (Value.string ⟨#[]⟩)).set (0 + ((k : Int)).toNat) (.string (rest.extract 0 ((m : Int) + 0).toNat)) = strs (done ++ [rest.extract 0 ((m : Int) + 0).toNat]) ++ List.replicate (N + 1 - (k + 1)) (Value.string ⟨#[]⟩) := by
      rw [Nat.zero_add, Int.toNat_natCast, List.set_append, if_neg (by simp; omega), show k - (strs done).length = 0 by simp; omega, show N + 1 - k = (N + 1 - (k + 1)) + 1 by omega, List.replicate_succ]
      simp
    refine ⟨(k + 1, rest.extract ((m : Int) + (sep.size : Int)).toNat rest.size, done ++ [rest.extract 0 ((m : Int) + 0).toNat]), ⟨rfl, rfl, rfl, rfl, rfl, rfl, trivial⟩, ⟨by show k + 1 ≤ N; omega, he.set (Nat.le_refl _) _, hw1.set hg _, by simp [hdl], ?_, ?_, ?_, ?_⟩, by dsimp only; omega⟩
    · rw [AHeap.get_set, if_pos rfl, hset]
    · show (done ++ [_]).map bytes ++ splitL c (bytes _) = _
      rw [List.map_append, List.map_cons, List.map_nil]
      unfold bytes at hsp ⊢
      rw [e1, e2, ← hsp, split_cut hm]
      simp
    · show Lib.countByte (bytes _) c + (k + 1) = N
      unfold bytes at hcn ⊢
      rw [e2]
      have := count_cut hm
      omega
    · have : (rest.extract ((m : Int) + (sep.size : Int)).toNat rest.size).size = (rest.extract ((m : Int) + (sep.size : Int)).toNat rest.size).data.toList.length := by simp
      show (rest.extract ((m : Int) + (sep.size : Int)).toNat rest.size).size ≤ _
      rw [this, e2]; simp; omega
  · obtain rfl : k = N := by omega
    have hst : 0 + ((k : Int)).toNat < (strs done ++ List.replicate (k + 1 - k) (Value.string ⟨#[]⟩)).length := by
      simp only [List.length_append, List.length_map, List.length_replicate]; omega
    repeat' ((conv => whnf); first
      | (refine Both.intro ?_ ?_ <;> intro _ <;> try (exfalso; omega))
      | (refine Need.intro (by omega) ?_)
      | (refine Outs.intro ⟨_, _, _, store_ok (by kernel_rfl) rfl rfl hg hst, ?_⟩)
      | (refine Gives.intro ⟨_, slice_to Tryd.underlying22 (n := 1) (by kernel_rfl) (by omega), ?_⟩)
      | fail)
    all_goals (conv => whnf)
    have hset : (strs done ++ List.replicate (k + 1 - k) (Value.string ⟨#[]⟩)).set (0 + ((k : Int)).toNat) (.string rest) = strs (done ++ [rest]) := by
      rw [Nat.zero_add, Int.toNat_natCast, List.set_append, if_neg (by simp; omega), show k - (strs done).length = 0 by simp; omega, show k + 1 - k = 1 by omega]
      simp
    refine ⟨some ⟨H.next, 0, none⟩, k + 1, done ++ [rest], by rw [show ((k : Int) + 1).toNat = k + 1 by omega]; rfl, he.set (Nat.le_refl _) _, hw1.set hg _, ?_, ?_⟩
    · exact Row.of_block (by rw [AHeap.get_set, if_pos rfl, hset]) (by simp; omega) (Nat.le_refl _) (List.prefix_refl _)
    · rw [List.map_append, List.map_cons, List.map_nil, ← hsp, split_zero (by omega)]
theorem split_any (H : AHeap) (hw : Wf H) (s sep : ByteArray) (c : UInt8) (hc : sep.data.toList = [c]) (hs : s.size ≤ 2 ^ 30) :
    Does Tryd.prog orc 41 [.string s, .string sep] H fun r H' => ∃ (a : Option Addr) (n : Nat) (ps : List ByteArray), r = .ret (.slice a n n) ∧ Ext H H' ∧ Wf H' ∧ Row H' a n n (strs ps) ∧ ps.map bytes = splitL c (bytes s) := by
  refine Does.of Tryd.func41 (fun _ _ => rfl) rfl ?_
  repeat' ((conv => whnf); first
    | (refine Both.intro ?_ ?_ <;> intro _ <;> try (exfalso; omega))
    | (refine Need.intro (by omega) ?_)
    | (refine Does.mono (genSplit_any H hw s sep c hc hs) ?_; rintro _ H1 ⟨a, n, ps, rfl, he, hw1, hr, hp⟩)
    | fail)
  all_goals (conv => whnf)
  exact ⟨a, n, ps, rfl, he, hw1, hr, hp⟩
end Go.AX.Tryd
