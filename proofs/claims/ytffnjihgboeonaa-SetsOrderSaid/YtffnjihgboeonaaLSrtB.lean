/- slices.Sort at uint64: siftDownOrdered, heapSortOrdered, reverseRangeOrdered. -/
import Derived.Test.YtffnjihgboeonaaLSrt
namespace Go.AX.Try
open Go Go.AX Go.AX.Lw Go.Proofs
set_option linter.unusedVariables false
set_option linter.unusedSimpArgs false
set_option maxRecDepth 100000
theorem sift_any (H : AHeap) (hw : Wf H) (blk e c : Nat) (st : Option Nat) (d : Array Nat) (n : Nat) (hn : n = d.size) (hd : Arr H blk e d) (hc : n ≤ c) (hsz : n ≤ 2 ^ 40) (lo hi first : Nat) (hlo : lo ≤ hi) (hb : first + hi ≤ n) :
    Does Try.prog orc 41 [DV blk n c st, .int .i64 lo, .int .i64 hi, .int .i64 first] H fun r H' => r = .ret (.tuple #[]) ∧ Upd blk e H H' (Go.Sort.siftDown ltN hi first lo d) := by
  refine Does.of Try.func41 (fun _ _ => rfl) rfl ?_
  repeat' ((conv => whnf); first
    | (refine Both.intro ?_ ?_ <;> intro _ <;> try (exfalso; omega))
    | (refine Need.intro (by omega) ?_)
    | fail)
  all_goals (conv => whnf)
  refine Runs.loop (fun s : Nat × Array Nat => [(8, .int .i64 s.1), (0, DV blk n c st), (2, .int .i64 hi), (3, .int .i64 first)])
    (fun s H' => Upd blk e H H' s.2 ∧ s.2.size = n ∧ s.1 ≤ hi ∧ Go.Sort.siftDown ltN hi first s.1 s.2 = Go.Sort.siftDown ltN hi first lo d) (fun s => hi - s.1) (lo, d) ⟨rfl, rfl, rfl, rfl, trivial⟩ ⟨Upd.refl hd hw, hn.symm, hlo, rfl⟩ ?_
  rintro ⟨r, d2⟩ H2 ⟨up, hs, hr, hT⟩
  dsimp only at up hs hr hT
  show vc _ _ _ _ _ [(8, .int .i64 r), (0, DV blk n c st), (2, .int .i64 hi), (3, .int .i64 first)] _ _
  rw [Go.Sort.siftDown] at hT
  by_cases h1 : 2 * r + 1 ≥ hi
  · rw [dif_pos h1] at hT
    repeat' ((conv => whnf); first
      | (refine Both.intro ?_ ?_ <;> intro _ <;> try (exfalso; omega))
      | (refine Need.intro (by omega) ?_)
      | (refine Gives.intro ⟨_, mulN 2 r rfl rfl (by omega), ?_⟩)
      | (refine Need.intro (DrawP.intro (by kernel_rfl)) ?_)
      | fail)
    all_goals (conv => whnf)
    exact ⟨rfl, hT ▸ up⟩
  · rw [dif_neg h1] at hT
    by_cases h2 : 2 * r + 1 + 1 < hi ∧ ltN d2[first + (2 * r + 1)]! d2[first + (2 * r + 1) + 1]! = true
    · obtain ⟨h2, l1⟩ := h2
      rw [if_pos (by rw [l1, Bool.and_true]; exact decide_eq_true h2)] at hT
      by_cases l2 : ltN d2[first + r]! d2[first + (2 * r + 2)]! = true
      · rw [if_neg (by rw [l2]; decide), dif_pos (by omega)] at hT
        have l2x : ltN d2[first + r]! d2[first + (2 * r + 1) + 1]! = true := l2
        repeat' ((conv => whnf); first
          | (refine Both.intro ?_ ?_ <;> intro _ <;> try (exfalso; omega))
          | (refine Need.intro (by omega) ?_)
          | (refine Gives.intro ⟨_, mulN 2 r rfl rfl (by omega), ?_⟩)
          | (refine ⟨_, up.arr.cellI (i := first + (2 * r + 1)) (by omega) (by omega), ?_⟩)
          | (refine ⟨_, up.arr.cellI (i := first + (2 * r + 1) + 1) (by omega) (by omega), ?_⟩)
          | (refine ⟨_, up.arr.cellI (i := first + r) (by omega) (by omega), ?_⟩)
          | (refine ⟨_, up.arr.cellI (i := first + (2 * r + 2)) (by omega) (by omega), ?_⟩)
          | (refine Does.mono (less_any _ _ _) ?_ ; rintro _ _ ⟨rfl, rfl⟩ ; first | rw [l1] | rw [l2x])
          | (refine Need.intro (draw_mix ⟨lookMix_same, True.intro⟩) ?_)
          | (refine Need.intro (DrawP.intro (by kernel_rfl)) ?_)
          | (refine ⟨_, up.arr.cellI (i := first + r) (by omega) (by omega), ?_⟩)
          | (refine ⟨_, up.arr.cellI (i := first + (2 * r + 2)) (by omega) (by omega), ?_⟩)
          | (refine Outs.intro ⟨_, _, _, up.arr.store (i := first + r) _ (by omega) (by omega), ?_⟩)
          | (refine Outs.intro ⟨_, _, _, (up.set _).arr.store (i := first + (2 * r + 2)) _ (by omega) (by rw [Array.size_setIfInBounds]; omega), ?_⟩)
          | (refine Need.intro (draw_mix ⟨⟨.inl (by kernel_rfl), .inl (by kernel_rfl), True.intro⟩, ⟨.inl (by kernel_rfl), .inl (by kernel_rfl), True.intro⟩, True.intro⟩) ?_)
          | fail)
        all_goals (conv => whnf)
        exact ⟨(2 * r + 2, Go.Sort.swp d2 (first + r) (first + (2 * r + 2))), ⟨rfl, rfl, rfl, rfl, trivial⟩, ⟨((up.set (d2.setIfInBounds (first + r) d2[first + (2 * r + 2)]!)).set (Go.Sort.swp d2 (first + r) (first + (2 * r + 2)))), by dsimp only; rw [swp_size]; exact hs, by dsimp only; omega, hT⟩, by dsimp only; omega⟩
      · have l2' : ltN d2[first + r]! d2[first + (2 * r + 2)]! = false := by simpa using l2
        rw [if_pos (by rw [l2']; decide)] at hT
        have l2x : ltN d2[first + r]! d2[first + (2 * r + 1) + 1]! = false := l2'
        repeat' ((conv => whnf); first
          | (refine Both.intro ?_ ?_ <;> intro _ <;> try (exfalso; omega))
          | (refine Need.intro (by omega) ?_)
          | (refine Gives.intro ⟨_, mulN 2 r rfl rfl (by omega), ?_⟩)
          | (refine ⟨_, up.arr.cellI (i := first + (2 * r + 1)) (by omega) (by omega), ?_⟩)
          | (refine ⟨_, up.arr.cellI (i := first + (2 * r + 1) + 1) (by omega) (by omega), ?_⟩)
          | (refine ⟨_, up.arr.cellI (i := first + r) (by omega) (by omega), ?_⟩)
          | (refine ⟨_, up.arr.cellI (i := first + (2 * r + 2)) (by omega) (by omega), ?_⟩)
          | (refine Does.mono (less_any _ _ _) ?_ ; rintro _ _ ⟨rfl, rfl⟩ ; first | rw [l1] | rw [l2x])
          | (refine Need.intro (draw_mix ⟨lookMix_same, True.intro⟩) ?_)
          | (refine Need.intro (DrawP.intro (by kernel_rfl)) ?_)
          | fail)
        all_goals (conv => whnf)
        exact ⟨rfl, hT ▸ up⟩
    · rw [if_neg (by intro h; rw [Bool.and_eq_true] at h; exact h2 ⟨of_decide_eq_true h.1, h.2⟩)] at hT
      by_cases h3 : 2 * r + 1 + 1 < hi
      · have l1 : ltN d2[first + (2 * r + 1)]! d2[first + (2 * r + 1) + 1]! = false := by
          cases hb : ltN d2[first + (2 * r + 1)]! d2[first + (2 * r + 1) + 1]! with
          | false => rfl
          | true => exact absurd ⟨h3, hb⟩ h2
        by_cases l2 : ltN d2[first + r]! d2[first + (2 * r + 1)]! = true
        · rw [if_neg (by rw [l2]; decide)] at hT
          repeat' ((conv => whnf); first
            | (refine Both.intro ?_ ?_ <;> intro _ <;> try (exfalso; omega))
            | (refine Need.intro (by omega) ?_)
            | (refine Gives.intro ⟨_, mulN 2 r rfl rfl (by omega), ?_⟩)
            | (refine ⟨_, up.arr.cellI (i := first + (2 * r + 1)) (by omega) (by omega), ?_⟩)
            | (refine ⟨_, up.arr.cellI (i := first + (2 * r + 1) + 1) (by omega) (by omega), ?_⟩)
            | (refine ⟨_, up.arr.cellI (i := first + r) (by omega) (by omega), ?_⟩)
            | (refine ⟨_, up.arr.cellI (i := first + (2 * r + 2)) (by omega) (by omega), ?_⟩)
            | (refine Does.mono (less_any _ _ _) ?_ ; rintro _ _ ⟨rfl, rfl⟩ ; first | rw [l1] | rw [l2])
            | (refine Need.intro (draw_mix ⟨lookMix_same, True.intro⟩) ?_)
            | (refine Need.intro (DrawP.intro (by kernel_rfl)) ?_)
            | (refine ⟨_, up.arr.cellI (i := first + r) (by omega) (by omega), ?_⟩)
            | (refine ⟨_, up.arr.cellI (i := first + (2 * r + 1)) (by omega) (by omega), ?_⟩)
            | (refine Outs.intro ⟨_, _, _, up.arr.store (i := first + r) _ (by omega) (by omega), ?_⟩)
            | (refine Outs.intro ⟨_, _, _, (up.set _).arr.store (i := first + (2 * r + 1)) _ (by omega) (by rw [Array.size_setIfInBounds]; omega), ?_⟩)
            | (refine Need.intro (draw_mix ⟨⟨.inl (by kernel_rfl), .inl (by kernel_rfl), True.intro⟩, ⟨.inl (by kernel_rfl), .inl (by kernel_rfl), True.intro⟩, True.intro⟩) ?_)
            | fail)
          all_goals (conv => whnf)
          exact ⟨(2 * r + 1, Go.Sort.swp d2 (first + r) (first + (2 * r + 1))), ⟨rfl, rfl, rfl, rfl, trivial⟩, ⟨((up.set (d2.setIfInBounds (first + r) d2[first + (2 * r + 1)]!)).set (Go.Sort.swp d2 (first + r) (first + (2 * r + 1)))), by dsimp only; rw [swp_size]; exact hs, by dsimp only; omega, hT⟩, by dsimp only; omega⟩
        · have l2' : ltN d2[first + r]! d2[first + (2 * r + 1)]! = false := by simpa using l2
          rw [if_pos (by rw [l2']; decide)] at hT
          repeat' ((conv => whnf); first
            | (refine Both.intro ?_ ?_ <;> intro _ <;> try (exfalso; omega))
            | (refine Need.intro (by omega) ?_)
            | (refine Gives.intro ⟨_, mulN 2 r rfl rfl (by omega), ?_⟩)
            | (refine ⟨_, up.arr.cellI (i := first + (2 * r + 1)) (by omega) (by omega), ?_⟩)
            | (refine ⟨_, up.arr.cellI (i := first + (2 * r + 1) + 1) (by omega) (by omega), ?_⟩)
            | (refine ⟨_, up.arr.cellI (i := first + r) (by omega) (by omega), ?_⟩)
            | (refine ⟨_, up.arr.cellI (i := first + (2 * r + 2)) (by omega) (by omega), ?_⟩)
            | (refine Does.mono (less_any _ _ _) ?_ ; rintro _ _ ⟨rfl, rfl⟩ ; first | rw [l1] | rw [l2'])
            | (refine Need.intro (draw_mix ⟨lookMix_same, True.intro⟩) ?_)
            | (refine Need.intro (DrawP.intro (by kernel_rfl)) ?_)
            | fail)
          all_goals (conv => whnf)
          exact ⟨rfl, hT ▸ up⟩
      · by_cases l2 : ltN d2[first + r]! d2[first + (2 * r + 1)]! = true
        · rw [if_neg (by rw [l2]; decide)] at hT
          repeat' ((conv => whnf); first
            | (refine Both.intro ?_ ?_ <;> intro _ <;> try (exfalso; omega))
            | (refine Need.intro (by omega) ?_)
            | (refine Gives.intro ⟨_, mulN 2 r rfl rfl (by omega), ?_⟩)
            | (refine ⟨_, up.arr.cellI (i := first + (2 * r + 1)) (by omega) (by omega), ?_⟩)
            | (refine ⟨_, up.arr.cellI (i := first + (2 * r + 1) + 1) (by omega) (by omega), ?_⟩)
            | (refine ⟨_, up.arr.cellI (i := first + r) (by omega) (by omega), ?_⟩)
            | (refine ⟨_, up.arr.cellI (i := first + (2 * r + 2)) (by omega) (by omega), ?_⟩)
            | (refine Does.mono (less_any _ _ _) ?_ ; rintro _ _ ⟨rfl, rfl⟩ ; first | rw [l2])
            | (refine Need.intro (draw_mix ⟨lookMix_same, True.intro⟩) ?_)
            | (refine Need.intro (DrawP.intro (by kernel_rfl)) ?_)
            | (refine ⟨_, up.arr.cellI (i := first + r) (by omega) (by omega), ?_⟩)
            | (refine ⟨_, up.arr.cellI (i := first + (2 * r + 1)) (by omega) (by omega), ?_⟩)
            | (refine Outs.intro ⟨_, _, _, up.arr.store (i := first + r) _ (by omega) (by omega), ?_⟩)
            | (refine Outs.intro ⟨_, _, _, (up.set _).arr.store (i := first + (2 * r + 1)) _ (by omega) (by rw [Array.size_setIfInBounds]; omega), ?_⟩)
            | (refine Need.intro (draw_mix ⟨⟨.inl (by kernel_rfl), .inl (by kernel_rfl), True.intro⟩, ⟨.inl (by kernel_rfl), .inl (by kernel_rfl), True.intro⟩, True.intro⟩) ?_)
            | fail)
          all_goals (conv => whnf)
          exact ⟨(2 * r + 1, Go.Sort.swp d2 (first + r) (first + (2 * r + 1))), ⟨rfl, rfl, rfl, rfl, trivial⟩, ⟨((up.set (d2.setIfInBounds (first + r) d2[first + (2 * r + 1)]!)).set (Go.Sort.swp d2 (first + r) (first + (2 * r + 1)))), by dsimp only; rw [swp_size]; exact hs, by dsimp only; omega, hT⟩, by dsimp only; omega⟩
        · have l2' : ltN d2[first + r]! d2[first + (2 * r + 1)]! = false := by simpa using l2
          rw [if_pos (by rw [l2']; decide)] at hT
          repeat' ((conv => whnf); first
            | (refine Both.intro ?_ ?_ <;> intro _ <;> try (exfalso; omega))
            | (refine Need.intro (by omega) ?_)
            | (refine Gives.intro ⟨_, mulN 2 r rfl rfl (by omega), ?_⟩)
            | (refine ⟨_, up.arr.cellI (i := first + (2 * r + 1)) (by omega) (by omega), ?_⟩)
            | (refine ⟨_, up.arr.cellI (i := first + (2 * r + 1) + 1) (by omega) (by omega), ?_⟩)
            | (refine ⟨_, up.arr.cellI (i := first + r) (by omega) (by omega), ?_⟩)
            | (refine ⟨_, up.arr.cellI (i := first + (2 * r + 2)) (by omega) (by omega), ?_⟩)
            | (refine Does.mono (less_any _ _ _) ?_ ; rintro _ _ ⟨rfl, rfl⟩ ; first | rw [l2'])
            | (refine Need.intro (draw_mix ⟨lookMix_same, True.intro⟩) ?_)
            | (refine Need.intro (DrawP.intro (by kernel_rfl)) ?_)
            | fail)
          all_goals (conv => whnf)
          exact ⟨rfl, hT ▸ up⟩
theorem sift_size (hi first : Nat) : ∀ (k root : Nat) (d : Array Nat), hi - root ≤ k → (Go.Sort.siftDown ltN hi first root d).size = d.size := by
  intro k
  induction k with
  | zero => intro root d hk; rw [Go.Sort.siftDown, dif_pos (by omega)]
  | succ k ih =>
    intro root d hk
    rw [Go.Sort.siftDown]
    split
    · rfl
    · split
      · split
        · rfl
        · split
          · rw [ih _ _ (by omega), swp_size]
          · rfl
      · split
        · rfl
        · rw [ih _ _ (by omega), swp_size]
theorem heap_any (H : AHeap) (hw : Wf H) (blk e c : Nat) (st : Option Nat) (d : Array Nat) (n : Nat) (hn : n = d.size) (hd : Arr H blk e d) (hc : n ≤ c) (hsz : n ≤ 2 ^ 40) (a b : Nat) (ha : a < b) (hb : b ≤ n) :
    Does Try.prog orc 31 [DV blk n c st, .int .i64 a, .int .i64 b] H fun r H' => r = .ret (.tuple #[]) ∧ Upd blk e H H' (Go.Sort.heapSort ltN d a b) := by
  refine Does.of Try.func31 (fun _ _ => rfl) rfl ?_
  repeat' ((conv => whnf); first
    | (refine Both.intro ?_ ?_ <;> intro _ <;> try (exfalso; omega))
    | (refine Need.intro (by omega) ?_)
    | (refine Gives.intro ⟨_, quoN (x := b - a - 1) (y := 2) (by omega) (by omega) (by omega), ?_⟩)
    | fail)
  all_goals (conv => whnf)
  obtain ⟨m, hm⟩ : ∃ m, m = b - a := ⟨_, rfl⟩
  have hmi : (b : Int) - (a : Int) = (m : Int) := by omega
  rw [← hm, hmi]
  have hT0 : Go.Sort.heapSort ltN d a b = Go.Sort.heapPop ltN a m (Go.Sort.heapBuild ltN m a ((m - 1) / 2 + 1) d) := by rw [hm]; rfl
  rw [hT0]
  refine Runs.loop (fun s : Nat × Array Nat => [(9, .int .i64 ((s.1 : Int) - 1)), (0, DV blk n c st), (6, .int .i64 a), (7, .int .i64 0), (8, .int .i64 m)])
    (fun s H' => Upd blk e H H' s.2 ∧ s.2.size = n ∧ s.1 ≤ (m - 1) / 2 + 1 ∧ Go.Sort.heapBuild ltN m a s.1 s.2 = Go.Sort.heapBuild ltN m a ((m - 1) / 2 + 1) d) (fun s => s.1) ((m - 1) / 2 + 1, d) ⟨by rw [show (((m - 1) / 2 + 1 : Nat) : Int) - 1 = (((m - 1) / 2 : Nat) : Int) by omega]; rfl, rfl, rfl, rfl, rfl, trivial⟩ ⟨Upd.refl hd hw, hn.symm, Nat.le_refl _, rfl⟩ ?_
  rintro ⟨k, d2⟩ H2 ⟨up, hs, hk, hT⟩
  dsimp only at up hs hk hT
  show vc _ _ _ _ _ [(9, .int .i64 ((k : Int) - 1)), (0, DV blk n c st), (6, .int .i64 a), (7, .int .i64 0), (8, .int .i64 m)] _ _
  cases k with
  | zero =>
    rw [Go.Sort.heapBuild] at hT
    rw [← hT]
    repeat' ((conv => whnf); first
      | (refine Both.intro ?_ ?_ <;> intro _ <;> try (exfalso; omega))
      | (refine Need.intro (by omega) ?_)
      | fail)
    all_goals (conv => whnf)
    refine Runs.loop (fun s : Nat × Array Nat => [(10, .int .i64 ((s.1 : Int) - 1)), (0, DV blk n c st), (6, .int .i64 a), (7, .int .i64 0), (8, .int .i64 m)])
      (fun s H' => Upd blk e H H' s.2 ∧ s.2.size = n ∧ s.1 ≤ m ∧ Go.Sort.heapPop ltN a s.1 s.2 = Go.Sort.heapPop ltN a m d2) (fun s => s.1) (m, d2) ⟨rfl, rfl, rfl, rfl, rfl, trivial⟩ ⟨up, hs, Nat.le_refl _, rfl⟩ ?_
    rintro ⟨k, d3⟩ H3 ⟨up3, hs3, hk3, hT3⟩
    dsimp only at up3 hs3 hk3 hT3
    show vc _ _ _ _ _ [(10, .int .i64 ((k : Int) - 1)), (0, DV blk n c st), (6, .int .i64 a), (7, .int .i64 0), (8, .int .i64 m)] _ _
    cases k with
    | zero =>
      rw [Go.Sort.heapPop] at hT3
      rw [← hT3]
      repeat' ((conv => whnf); first
        | (refine Both.intro ?_ ?_ <;> intro _ <;> try (exfalso; omega))
        | (refine Need.intro (by omega) ?_)
        | fail)
      all_goals (conv => whnf)
      exact ⟨rfl, up3⟩
    | succ k =>
      rw [Go.Sort.heapPop] at hT3
      rw [show ((k + 1 : Nat) : Int) - 1 = (k : Int) by omega]
      have u4 := ((up3.set (d3.setIfInBounds (a) d3[a + k]!)).set (Go.Sort.swp d3 (a) (a + k)))
      repeat' ((conv => whnf); first
        | (refine Both.intro ?_ ?_ <;> intro _ <;> try (exfalso; omega))
        | (refine Need.intro (by omega) ?_)
        | (refine ⟨_, up3.arr.cellI (i := a) (by omega) (by omega), ?_⟩)
        | (refine ⟨_, up3.arr.cellI (i := a + k) (by omega) (by omega), ?_⟩)
        | (refine Outs.intro ⟨_, _, _, up3.arr.store (i := a) _ (by omega) (by omega), ?_⟩)
        | (refine Outs.intro ⟨_, _, _, (up3.set _).arr.store (i := a + k) _ (by omega) (by rw [Array.size_setIfInBounds]; omega), ?_⟩)
        | (refine Need.intro (draw_mix ⟨⟨.inl (by kernel_rfl), .inl (by kernel_rfl), True.intro⟩, ⟨.inl (by kernel_rfl), .inl (by kernel_rfl), True.intro⟩, True.intro⟩) ?_)
        | (refine Does.mono (sift_any _ u4.wf blk e c st (Go.Sort.swp d3 a (a + k)) n (by rw [swp_size]; exact hs3.symm) u4.arr hc hsz 0 k a (Nat.zero_le _) (by omega)) ?_ ; rintro _ H5 ⟨rfl, u5⟩)
        | fail)
      all_goals (conv => whnf)
      exact ⟨(k, _), ⟨rfl, rfl, rfl, rfl, rfl, trivial⟩, ⟨u4.trans u5, by dsimp only; rw [sift_size _ _ _ _ _ (Nat.le_refl _), swp_size]; exact hs3, by dsimp only; omega, hT3⟩, by dsimp only; omega⟩
  | succ k =>
    rw [Go.Sort.heapBuild] at hT
    rw [show ((k + 1 : Nat) : Int) - 1 = (k : Int) by omega]
    repeat' ((conv => whnf); first
      | (refine Both.intro ?_ ?_ <;> intro _ <;> try (exfalso; omega))
      | (refine Need.intro (by omega) ?_)
      | (refine Does.mono (sift_any _ up.wf blk e c st d2 n hs.symm up.arr hc hsz k m a (by omega) (by omega)) ?_ ; rintro _ H3 ⟨rfl, u3⟩)
      | fail)
    all_goals (conv => whnf)
    exact ⟨(k, _), ⟨rfl, rfl, rfl, rfl, rfl, trivial⟩, ⟨up.trans u3, by dsimp only; rw [sift_size _ _ _ _ _ (Nat.le_refl _)]; exact hs, by dsimp only; omega, hT⟩, by dsimp only; omega⟩
theorem reverse_any (H : AHeap) (hw : Wf H) (blk e c : Nat) (st : Option Nat) (d : Array Nat) (n : Nat) (hn : n = d.size) (hd : Arr H blk e d) (hc : n ≤ c) (hsz : n ≤ 2 ^ 40) (a b : Nat) (ha : a < b) (hb : b ≤ n) :
    Does Try.prog orc 34 [DV blk n c st, .int .i64 a, .int .i64 b] H fun r H' => r = .ret (.tuple #[]) ∧ Upd blk e H H' (Go.Sort.reverseRange d a b) := by
  refine Does.of Try.func34 (fun _ _ => rfl) rfl ?_
  repeat' ((conv => whnf); first
    | (refine Both.intro ?_ ?_ <;> intro _ <;> try (exfalso; omega))
    | (refine Need.intro (by omega) ?_)
    | fail)
  all_goals (conv => whnf)
  refine Runs.loop (fun s : Nat × Nat × Array Nat => [(6, .int .i64 s.1), (7, .int .i64 s.2.1), (0, DV blk n c st)])
    (fun s H' => Upd blk e H H' s.2.2 ∧ s.2.2.size = n ∧ s.2.1 < n ∧ s.1 ≤ n ∧ Go.Sort.reverseLoop s.1 s.2.1 s.2.2 = Go.Sort.reverseRange d a b) (fun s => s.2.1 + 1 - s.1) (a, b - 1, d) ⟨rfl, by rw [show ((b - 1 : Nat) : Int) = (b : Int) - 1 by omega]; rfl, rfl, trivial⟩ ⟨Upd.refl hd hw, hn.symm, by dsimp only; omega, by dsimp only; omega, rfl⟩ ?_
  rintro ⟨i, j, d2⟩ H2 ⟨up, hs, hj, hi, hT⟩
  dsimp only at up hs hj hi hT
  show vc _ _ _ _ _ [(6, .int .i64 i), (7, .int .i64 j), (0, DV blk n c st)] _ _
  rw [Go.Sort.reverseLoop] at hT
  by_cases h : i < j
  · rw [if_pos h] at hT
    repeat' ((conv => whnf); first
      | (refine Both.intro ?_ ?_ <;> intro _ <;> try (exfalso; omega))
      | (refine Need.intro (by omega) ?_)
      | (refine ⟨_, up.arr.cellI (i := i) (by omega) (by omega), ?_⟩)
      | (refine ⟨_, up.arr.cellI (i := j) (by omega) (by omega), ?_⟩)
      | (refine Outs.intro ⟨_, _, _, up.arr.store (i := i) _ (by omega) (by omega), ?_⟩)
      | (refine Outs.intro ⟨_, _, _, (up.set _).arr.store (i := j) _ (by omega) (by rw [Array.size_setIfInBounds]; omega), ?_⟩)
      | (refine Need.intro (draw_mix ⟨⟨.inl (by kernel_rfl), .inl (by kernel_rfl), True.intro⟩, ⟨.inl (by kernel_rfl), .inl (by kernel_rfl), True.intro⟩, True.intro⟩) ?_)
      | fail)
    all_goals (conv => whnf)
    exact ⟨(i + 1, j - 1, Go.Sort.swp d2 i j), ⟨rfl, by dsimp only; rw [show ((j - 1 : Nat) : Int) = (j : Int) - 1 by omega]; rfl, rfl, trivial⟩, ⟨((up.set (d2.setIfInBounds (i) d2[j]!)).set (Go.Sort.swp d2 (i) (j))), by dsimp only; rw [swp_size]; exact hs, by dsimp only; omega, by dsimp only; omega, hT⟩, by dsimp only; omega⟩
  · rw [if_neg h] at hT
    repeat' ((conv => whnf); first
      | (refine Both.intro ?_ ?_ <;> intro _ <;> try (exfalso; omega))
      | (refine Need.intro (by omega) ?_)
      | fail)
    all_goals (conv => whnf)
    exact ⟨rfl, hT ▸ up⟩
end Go.AX.Try
