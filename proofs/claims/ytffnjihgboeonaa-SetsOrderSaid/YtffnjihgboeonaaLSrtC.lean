/- slices.Sort at uint64: partitionOrdered, partitionEqualOrdered, partialInsertionSortOrdered. -/
import Derived.Test.YtffnjihgboeonaaLSrtB
namespace Go.AX.Try
open Go Go.AX Go.AX.Lw Go.Proofs
set_option linter.unusedVariables false
set_option linter.unusedSimpArgs false
set_option maxRecDepth 100000
theorem part_any (H : AHeap) (hw : Wf H) (blk e c : Nat) (st : Option Nat) (d : Array Nat) (n : Nat) (hn : n = d.size) (hd : Arr H blk e d) (hc : n ≤ c) (hsz : n ≤ 2 ^ 40) (a b pivot : Nat) (ha : a ≤ pivot) (hp : pivot < b) (hb : b ≤ n) :
    Does Try.prog orc 38 [DV blk n c st, .int .i64 a, .int .i64 b, .int .i64 pivot] H fun r H' => r = .ret (.tuple #[.int .i64 (Go.Sort.partition ltN d a b pivot).1, .bool (Go.Sort.partition ltN d a b pivot).2.1]) ∧ Upd blk e H H' (Go.Sort.partition ltN d a b pivot).2.2 := by
  refine Does.of Try.func38 (fun _ _ => rfl) rfl ?_
  have u0 := Upd.refl hd hw
  have u1 := ((u0.set (d.setIfInBounds (a) d[pivot]!)).set (Go.Sort.swp d (a) (pivot)))
  obtain ⟨d1, hd1⟩ : ∃ d1, d1 = Go.Sort.swp d a pivot := ⟨_, rfl⟩
  repeat' ((conv => whnf); first
    | (refine Both.intro ?_ ?_ <;> intro _ <;> try (exfalso; omega))
    | (refine Need.intro (by omega) ?_)
    | (refine ⟨_, u0.arr.cellI (i := a) (by omega) (by omega), ?_⟩)
    | (refine ⟨_, u0.arr.cellI (i := pivot) (by omega) (by omega), ?_⟩)
    | (refine Outs.intro ⟨_, _, _, u0.arr.store (i := a) _ (by omega) (by omega), ?_⟩)
    | (refine Outs.intro ⟨_, _, _, (u0.set _).arr.store (i := pivot) _ (by omega) (by rw [Array.size_setIfInBounds]; omega), ?_⟩)
    | (refine Need.intro (draw_mix ⟨⟨.inl (by kernel_rfl), .inl (by kernel_rfl), True.intro⟩, ⟨.inl (by kernel_rfl), .inl (by kernel_rfl), True.intro⟩, True.intro⟩) ?_)
    | fail)
  all_goals (conv => whnf)
  rw [← hd1] at u1
  obtain ⟨H1, hH1⟩ : ∃ H1, H1 = (H.set blk (.cells (u64s (d.setIfInBounds a d[pivot]!)) e true)).set blk (.cells (u64s d1) e true) := ⟨_, rfl⟩
  rw [← hH1] at u1
  have hs1 : d1.size = n := by rw [hd1, swp_size]; exact hn.symm
  refine Runs.cut (.exit 0) (fun s : Nat => [(10, .int .i64 (s : Nat)), (11, .int .i64 ((b - 1) : Nat)), (0, DV blk n c st), (1, .int .i64 a)]) (fun s H' => s = Go.Sort.scanUp (fun x => ltN x d1[a]!) d1 (b - 1) (a + 1) ∧ ((a + 1) ≤ s ∧ s ≤ max (a + 1) ((b - 1) + 1)) ∧ H1 = H') ?_ ?_
  · refine Runs.loop (fun s : Nat => [(10, .int .i64 (s : Nat)), (11, .int .i64 ((b - 1) : Nat)), (0, DV blk n c st), (1, .int .i64 a)]) (fun s H' => H1 = H' ∧ ((a + 1) ≤ s ∧ s ≤ max (a + 1) ((b - 1) + 1)) ∧ Go.Sort.scanUp (fun x => ltN x d1[a]!) d1 (b - 1) s = Go.Sort.scanUp (fun x => ltN x d1[a]!) d1 (b - 1) (a + 1)) (fun s => max (a + 1) ((b - 1) + 1) - s) ((a + 1)) ⟨rfl, by rw [show ((b - 1 : Nat) : Int) = (b : Int) - 1 by omega]; rfl, rfl, rfl, trivial⟩ ⟨by first | rfl | (rw [hH1, hd1]; rfl), by omega, rfl⟩ ?_
    rintro s _ ⟨rfl, hrg, hT⟩
    show vc _ _ _ _ _ [(10, .int .i64 (s : Nat)), (11, .int .i64 ((b - 1) : Nat)), (0, DV blk n c st), (1, .int .i64 a)] _ _
    rw [Go.Sort.scanUp] at hT
    by_cases h1 : s ≤ (b - 1)
    · by_cases l : ltN d1[s]! d1[a]! = true
      · rw [if_pos (by rw [l]; simpa using h1)] at hT
        repeat' ((conv => whnf); first
          | (refine Both.intro ?_ ?_ <;> intro _ <;> try (exfalso; omega))
          | (refine Need.intro (by omega) ?_)
          | (refine ⟨_, u1.arr.cellI (i := s) (by omega) (by omega), ?_⟩)
          | (refine ⟨_, u1.arr.cellI (i := a) (by omega) (by omega), ?_⟩)
          | (refine Does.mono (less_any _ _ _) ?_ ; rintro _ _ ⟨rfl, rfl⟩ ; first | rw [l])
          | (refine Need.intro (draw_mix ⟨lookMix_same, True.intro⟩) ?_)
          | fail)
        all_goals (conv => whnf)
        exact ⟨s + 1, ⟨rfl, rfl, rfl, rfl, trivial⟩, ⟨rfl, by omega, hT⟩, by omega⟩
      · have l' : ltN d1[s]! d1[a]! = false := by simpa using l
        rw [if_neg (by rw [l']; simp)] at hT
        repeat' ((conv => whnf); first
          | (refine Both.intro ?_ ?_ <;> intro _ <;> try (exfalso; omega))
          | (refine Need.intro (by omega) ?_)
          | (refine ⟨_, u1.arr.cellI (i := s) (by omega) (by omega), ?_⟩)
          | (refine ⟨_, u1.arr.cellI (i := a) (by omega) (by omega), ?_⟩)
          | (refine Does.mono (less_any _ _ _) ?_ ; rintro _ _ ⟨rfl, rfl⟩ ; first | rw [l'])
          | (refine Need.intro (draw_mix ⟨lookMix_same, True.intro⟩) ?_)
          | fail)
        all_goals (conv => whnf)
        exact ⟨rfl, s, ⟨rfl, rfl, rfl, rfl, trivial⟩, hT, by omega, rfl⟩
    · rw [if_neg (by simp [h1])] at hT
      repeat' ((conv => whnf); first
        | (refine Both.intro ?_ ?_ <;> intro _ <;> try (exfalso; omega))
        | (refine Need.intro (by omega) ?_)
        | (refine Need.intro (DrawP.intro (by kernel_rfl)) ?_)
        | fail)
      all_goals (conv => whnf)
      exact ⟨rfl, s, ⟨rfl, rfl, rfl, rfl, trivial⟩, hT, by omega, rfl⟩
  rintro i1 _ ⟨hi1, hr1, rfl⟩
  conv => whnf
  refine Runs.cut (.exit 2) (fun s : Nat => [(11, .int .i64 (s : Nat)), (10, .int .i64 ((i1) : Nat)), (0, DV blk n c st), (1, .int .i64 a)]) (fun s H' => s = Go.Sort.scanDown (fun x => !ltN x d1[a]!) d1 (i1) (b - 1) ∧ (s ≤ (b - 1)) ∧ H1 = H') ?_ ?_
  · refine Runs.loop (fun s : Nat => [(11, .int .i64 (s : Nat)), (10, .int .i64 ((i1) : Nat)), (0, DV blk n c st), (1, .int .i64 a)]) (fun s H' => H1 = H' ∧ (s ≤ (b - 1)) ∧ Go.Sort.scanDown (fun x => !ltN x d1[a]!) d1 (i1) s = Go.Sort.scanDown (fun x => !ltN x d1[a]!) d1 (i1) (b - 1)) (fun s => s) ((b - 1)) ⟨rfl, rfl, rfl, rfl, trivial⟩ ⟨by first | rfl | (rw [hH1, hd1]; rfl), by omega, rfl⟩ ?_
    rintro s _ ⟨rfl, hrg, hT⟩
    show vc _ _ _ _ _ [(11, .int .i64 (s : Nat)), (10, .int .i64 ((i1) : Nat)), (0, DV blk n c st), (1, .int .i64 a)] _ _
    by_cases h1 : (i1) ≤ s
    · obtain ⟨s, rfl⟩ : ∃ t, s = t + 1 := ⟨s - 1, by omega⟩
      rw [Go.Sort.scanDown] at hT
      by_cases l : ltN d1[s + 1]! d1[a]! = false
      · rw [if_pos (by rw [l]; simpa using h1)] at hT
        repeat' ((conv => whnf); first
          | (refine Both.intro ?_ ?_ <;> intro _ <;> try (exfalso; omega))
          | (refine Need.intro (by omega) ?_)
          | (refine ⟨_, u1.arr.cellI (i := s + 1) (by omega) (by omega), ?_⟩)
          | (refine ⟨_, u1.arr.cellI (i := a) (by omega) (by omega), ?_⟩)
          | (refine Does.mono (less_any _ _ _) ?_ ; rintro _ _ ⟨rfl, rfl⟩ ; first | rw [l])
          | (refine Need.intro (draw_mix ⟨lookMix_same, True.intro⟩) ?_)
          | fail)
        all_goals (conv => whnf)
        exact ⟨s, ⟨by rw [show ((s : Nat) : Int) = ((s + 1 : Nat) : Int) - 1 by omega]; rfl, rfl, rfl, rfl, trivial⟩, ⟨rfl, by omega, hT⟩, by omega⟩
      · have l' : ltN d1[s + 1]! d1[a]! = true := by simpa using l
        rw [if_neg (by rw [l']; simp)] at hT
        repeat' ((conv => whnf); first
          | (refine Both.intro ?_ ?_ <;> intro _ <;> try (exfalso; omega))
          | (refine Need.intro (by omega) ?_)
          | (refine ⟨_, u1.arr.cellI (i := s + 1) (by omega) (by omega), ?_⟩)
          | (refine ⟨_, u1.arr.cellI (i := a) (by omega) (by omega), ?_⟩)
          | (refine Does.mono (less_any _ _ _) ?_ ; rintro _ _ ⟨rfl, rfl⟩ ; first | rw [l'])
          | (refine Need.intro (draw_mix ⟨lookMix_same, True.intro⟩) ?_)
          | fail)
        all_goals (conv => whnf)
        exact ⟨rfl, s + 1, ⟨rfl, rfl, rfl, rfl, trivial⟩, hT, by omega, rfl⟩
    · have hT' : s = Go.Sort.scanDown (fun x => !ltN x d1[a]!) d1 (i1) (b - 1) := by
        rw [← hT]
        cases s with
        | zero => rfl
        | succ s => rw [Go.Sort.scanDown, if_neg (by simp [h1])]
      repeat' ((conv => whnf); first
        | (refine Both.intro ?_ ?_ <;> intro _ <;> try (exfalso; omega))
        | (refine Need.intro (by omega) ?_)
        | (refine Need.intro (DrawP.intro (by kernel_rfl)) ?_)
        | fail)
      all_goals (conv => whnf)
      exact ⟨rfl, s, ⟨rfl, rfl, rfl, rfl, trivial⟩, hT', by omega, rfl⟩
  rintro j1 _ ⟨hj1, hr2, rfl⟩
  have hP : Go.Sort.partition ltN d a b pivot = if i1 > j1 then (j1, true, Go.Sort.swp d1 j1 a) else ((Go.Sort.partLoop ltN a (i1 + 1) (j1 - 1) (Go.Sort.swp d1 i1 j1)).1, false, Go.Sort.swp (Go.Sort.partLoop ltN a (i1 + 1) (j1 - 1) (Go.Sort.swp d1 i1 j1)).2 (Go.Sort.partLoop ltN a (i1 + 1) (j1 - 1) (Go.Sort.swp d1 i1 j1)).1 a) := by
    unfold Go.Sort.partition
    dsimp only
    rw [← hd1, ← hi1, ← hj1]
  rw [hP]
  by_cases hij : i1 > j1
  · rw [if_pos hij]
    repeat' ((conv => whnf); first
      | (refine Both.intro ?_ ?_ <;> intro _ <;> try (exfalso; omega))
      | (refine Need.intro (by omega) ?_)
      | (refine ⟨_, u1.arr.cellI (i := j1) (by omega) (by omega), ?_⟩)
      | (refine ⟨_, u1.arr.cellI (i := a) (by omega) (by omega), ?_⟩)
      | (refine Outs.intro ⟨_, _, _, u1.arr.store (i := j1) _ (by omega) (by omega), ?_⟩)
      | (refine Outs.intro ⟨_, _, _, (u1.set _).arr.store (i := a) _ (by omega) (by rw [Array.size_setIfInBounds]; omega), ?_⟩)
      | (refine Need.intro (draw_mix ⟨⟨.inl (by kernel_rfl), .inl (by kernel_rfl), True.intro⟩, ⟨.inl (by kernel_rfl), .inl (by kernel_rfl), True.intro⟩, True.intro⟩) ?_)
      | fail)
    all_goals (conv => whnf)
    exact ⟨rfl, ((u1.set (d1.setIfInBounds (j1) d1[a]!)).set (Go.Sort.swp d1 (j1) (a)))⟩
  · rw [if_neg hij]
    have u2 := ((u1.set (d1.setIfInBounds (i1) d1[j1]!)).set (Go.Sort.swp d1 (i1) (j1)))
    repeat' ((conv => whnf); first
      | (refine Both.intro ?_ ?_ <;> intro _ <;> try (exfalso; omega))
      | (refine Need.intro (by omega) ?_)
      | (refine ⟨_, u1.arr.cellI (i := i1) (by omega) (by omega), ?_⟩)
      | (refine ⟨_, u1.arr.cellI (i := j1) (by omega) (by omega), ?_⟩)
      | (refine Outs.intro ⟨_, _, _, u1.arr.store (i := i1) _ (by omega) (by omega), ?_⟩)
      | (refine Outs.intro ⟨_, _, _, (u1.set _).arr.store (i := j1) _ (by omega) (by rw [Array.size_setIfInBounds]; omega), ?_⟩)
      | (refine Need.intro (draw_mix ⟨⟨.inl (by kernel_rfl), .inl (by kernel_rfl), True.intro⟩, ⟨.inl (by kernel_rfl), .inl (by kernel_rfl), True.intro⟩, True.intro⟩) ?_)
      | fail)
    all_goals (conv => whnf)
    obtain ⟨T, hT0⟩ : ∃ T, T = Go.Sort.partLoop ltN a (i1 + 1) (j1 - 1) (Go.Sort.swp d1 i1 j1) := ⟨_, rfl⟩
    rw [← hT0]
    refine Runs.loop (fun s : Nat × Nat × Array Nat => [(10, .int .i64 s.1), (11, .int .i64 s.2.1), (0, DV blk n c st), (1, .int .i64 a)])
      (fun s H' => Upd blk e H H' s.2.2 ∧ s.2.2.size = n ∧ a + 1 ≤ s.1 ∧ s.1 ≤ n + 1 ∧ s.2.1 < n ∧ T = Go.Sort.partLoop ltN a s.1 s.2.1 s.2.2) (fun s => s.2.1 + 1 - s.1) (i1 + 1, j1 - 1, Go.Sort.swp d1 i1 j1) ⟨rfl, by rw [show ((j1 - 1 : Nat) : Int) = (j1 : Int) - 1 by omega]; rfl, rfl, rfl, trivial⟩ ⟨u2, by dsimp only; rw [swp_size]; exact hs1, by dsimp only; omega, by dsimp only; omega, by dsimp only; omega, hT0⟩ ?_
    rintro ⟨i, j, d2⟩ H2 ⟨up, hs, hi, hin, hj, hT⟩
    dsimp only at up hs hi hin hj hT
    show vc _ _ _ _ _ [(10, .int .i64 (i : Nat)), (11, .int .i64 (j : Nat)), (0, DV blk n c st), (1, .int .i64 a)] _ _
    conv => whnf
    refine Runs.cut (.exit 6) (fun s : Nat => [(10, .int .i64 (s : Nat)), (11, .int .i64 ((j) : Nat)), (0, DV blk n c st), (1, .int .i64 a)]) (fun s H' => s = Go.Sort.scanUp (fun x => ltN x d2[a]!) d2 (j) (i) ∧ ((i) ≤ s ∧ s ≤ max (i) ((j) + 1)) ∧ H2 = H') ?_ ?_
    · refine Runs.loop (fun s : Nat => [(10, .int .i64 (s : Nat)), (11, .int .i64 ((j) : Nat)), (0, DV blk n c st), (1, .int .i64 a)]) (fun s H' => H2 = H' ∧ ((i) ≤ s ∧ s ≤ max (i) ((j) + 1)) ∧ Go.Sort.scanUp (fun x => ltN x d2[a]!) d2 (j) s = Go.Sort.scanUp (fun x => ltN x d2[a]!) d2 (j) (i)) (fun s => max (i) ((j) + 1) - s) ((i)) ⟨rfl, rfl, rfl, rfl, trivial⟩ ⟨by first | rfl | (rw [hH1, hd1]; rfl), by omega, rfl⟩ ?_
      rintro s _ ⟨rfl, hrg, hT⟩
      show vc _ _ _ _ _ [(10, .int .i64 (s : Nat)), (11, .int .i64 ((j) : Nat)), (0, DV blk n c st), (1, .int .i64 a)] _ _
      rw [Go.Sort.scanUp] at hT
      by_cases h1 : s ≤ (j)
      · by_cases l : ltN d2[s]! d2[a]! = true
        · rw [if_pos (by rw [l]; simpa using h1)] at hT
          repeat' ((conv => whnf); first
            | (refine Both.intro ?_ ?_ <;> intro _ <;> try (exfalso; omega))
            | (refine Need.intro (by omega) ?_)
            | (refine ⟨_, up.arr.cellI (i := s) (by omega) (by omega), ?_⟩)
            | (refine ⟨_, up.arr.cellI (i := a) (by omega) (by omega), ?_⟩)
            | (refine Does.mono (less_any _ _ _) ?_ ; rintro _ _ ⟨rfl, rfl⟩ ; first | rw [l])
            | (refine Need.intro (draw_mix ⟨lookMix_same, True.intro⟩) ?_)
            | fail)
          all_goals (conv => whnf)
          exact ⟨s + 1, ⟨rfl, rfl, rfl, rfl, trivial⟩, ⟨rfl, by omega, hT⟩, by omega⟩
        · have l' : ltN d2[s]! d2[a]! = false := by simpa using l
          rw [if_neg (by rw [l']; simp)] at hT
          repeat' ((conv => whnf); first
            | (refine Both.intro ?_ ?_ <;> intro _ <;> try (exfalso; omega))
            | (refine Need.intro (by omega) ?_)
            | (refine ⟨_, up.arr.cellI (i := s) (by omega) (by omega), ?_⟩)
            | (refine ⟨_, up.arr.cellI (i := a) (by omega) (by omega), ?_⟩)
            | (refine Does.mono (less_any _ _ _) ?_ ; rintro _ _ ⟨rfl, rfl⟩ ; first | rw [l'])
            | (refine Need.intro (draw_mix ⟨lookMix_same, True.intro⟩) ?_)
            | fail)
          all_goals (conv => whnf)
          exact ⟨rfl, s, ⟨rfl, rfl, rfl, rfl, trivial⟩, hT, by omega, rfl⟩
      · rw [if_neg (by simp [h1])] at hT
        repeat' ((conv => whnf); first
          | (refine Both.intro ?_ ?_ <;> intro _ <;> try (exfalso; omega))
          | (refine Need.intro (by omega) ?_)
          | (refine Need.intro (DrawP.intro (by kernel_rfl)) ?_)
          | fail)
        all_goals (conv => whnf)
        exact ⟨rfl, s, ⟨rfl, rfl, rfl, rfl, trivial⟩, hT, by omega, rfl⟩
    rintro i2 _ ⟨hi2, hr3, rfl⟩
    conv => whnf
    refine Runs.cut (.exit 8) (fun s : Nat => [(11, .int .i64 (s : Nat)), (10, .int .i64 ((i2) : Nat)), (0, DV blk n c st), (1, .int .i64 a)]) (fun s H' => s = Go.Sort.scanDown (fun x => !ltN x d2[a]!) d2 (i2) (j) ∧ (s ≤ (j)) ∧ H2 = H') ?_ ?_
    · refine Runs.loop (fun s : Nat => [(11, .int .i64 (s : Nat)), (10, .int .i64 ((i2) : Nat)), (0, DV blk n c st), (1, .int .i64 a)]) (fun s H' => H2 = H' ∧ (s ≤ (j)) ∧ Go.Sort.scanDown (fun x => !ltN x d2[a]!) d2 (i2) s = Go.Sort.scanDown (fun x => !ltN x d2[a]!) d2 (i2) (j)) (fun s => s) ((j)) ⟨rfl, rfl, rfl, rfl, trivial⟩ ⟨by first | rfl | (rw [hH1, hd1]; rfl), by omega, rfl⟩ ?_
      rintro s _ ⟨rfl, hrg, hT⟩
      show vc _ _ _ _ _ [(11, .int .i64 (s : Nat)), (10, .int .i64 ((i2) : Nat)), (0, DV blk n c st), (1, .int .i64 a)] _ _
      by_cases h1 : (i2) ≤ s
      · obtain ⟨s, rfl⟩ : ∃ t, s = t + 1 := ⟨s - 1, by omega⟩
        rw [Go.Sort.scanDown] at hT
        by_cases l : ltN d2[s + 1]! d2[a]! = false
        · rw [if_pos (by rw [l]; simpa using h1)] at hT
          repeat' ((conv => whnf); first
            | (refine Both.intro ?_ ?_ <;> intro _ <;> try (exfalso; omega))
            | (refine Need.intro (by omega) ?_)
            | (refine ⟨_, up.arr.cellI (i := s + 1) (by omega) (by omega), ?_⟩)
            | (refine ⟨_, up.arr.cellI (i := a) (by omega) (by omega), ?_⟩)
            | (refine Does.mono (less_any _ _ _) ?_ ; rintro _ _ ⟨rfl, rfl⟩ ; first | rw [l])
            | (refine Need.intro (draw_mix ⟨lookMix_same, True.intro⟩) ?_)
            | fail)
          all_goals (conv => whnf)
          exact ⟨s, ⟨by rw [show ((s : Nat) : Int) = ((s + 1 : Nat) : Int) - 1 by omega]; rfl, rfl, rfl, rfl, trivial⟩, ⟨rfl, by omega, hT⟩, by omega⟩
        · have l' : ltN d2[s + 1]! d2[a]! = true := by simpa using l
          rw [if_neg (by rw [l']; simp)] at hT
          repeat' ((conv => whnf); first
            | (refine Both.intro ?_ ?_ <;> intro _ <;> try (exfalso; omega))
            | (refine Need.intro (by omega) ?_)
            | (refine ⟨_, up.arr.cellI (i := s + 1) (by omega) (by omega), ?_⟩)
            | (refine ⟨_, up.arr.cellI (i := a) (by omega) (by omega), ?_⟩)
            | (refine Does.mono (less_any _ _ _) ?_ ; rintro _ _ ⟨rfl, rfl⟩ ; first | rw [l'])
            | (refine Need.intro (draw_mix ⟨lookMix_same, True.intro⟩) ?_)
            | fail)
          all_goals (conv => whnf)
          exact ⟨rfl, s + 1, ⟨rfl, rfl, rfl, rfl, trivial⟩, hT, by omega, rfl⟩
      · have hT' : s = Go.Sort.scanDown (fun x => !ltN x d2[a]!) d2 (i2) (j) := by
          rw [← hT]
          cases s with
          | zero => rfl
          | succ s => rw [Go.Sort.scanDown, if_neg (by simp [h1])]
        repeat' ((conv => whnf); first
          | (refine Both.intro ?_ ?_ <;> intro _ <;> try (exfalso; omega))
          | (refine Need.intro (by omega) ?_)
          | (refine Need.intro (DrawP.intro (by kernel_rfl)) ?_)
          | fail)
        all_goals (conv => whnf)
        exact ⟨rfl, s, ⟨rfl, rfl, rfl, rfl, trivial⟩, hT', by omega, rfl⟩
    rintro j2 _ ⟨hj2, hr4, rfl⟩
    rw [Go.Sort.partLoop_eq, ← hi2, ← hj2] at hT
    by_cases h2 : i2 > j2
    · rw [if_pos h2] at hT
      have u3 := ((up.set (d2.setIfInBounds (j2) d2[a]!)).set (Go.Sort.swp d2 (j2) (a)))
      repeat' ((conv => whnf); first
        | (refine Both.intro ?_ ?_ <;> intro _ <;> try (exfalso; omega))
        | (refine Need.intro (by omega) ?_)
        | (refine ⟨_, up.arr.cellI (i := j2) (by omega) (by omega), ?_⟩)
        | (refine ⟨_, up.arr.cellI (i := a) (by omega) (by omega), ?_⟩)
        | (refine Outs.intro ⟨_, _, _, up.arr.store (i := j2) _ (by omega) (by omega), ?_⟩)
        | (refine Outs.intro ⟨_, _, _, (up.set _).arr.store (i := a) _ (by omega) (by rw [Array.size_setIfInBounds]; omega), ?_⟩)
        | (refine Need.intro (draw_mix ⟨⟨.inl (by kernel_rfl), .inl (by kernel_rfl), True.intro⟩, ⟨.inl (by kernel_rfl), .inl (by kernel_rfl), True.intro⟩, True.intro⟩) ?_)
        | fail)
      all_goals (conv => whnf)
      subst hT
      exact ⟨rfl, u3⟩
    · rw [if_neg h2] at hT
      repeat' ((conv => whnf); first
        | (refine Both.intro ?_ ?_ <;> intro _ <;> try (exfalso; omega))
        | (refine Need.intro (by omega) ?_)
        | (refine ⟨_, up.arr.cellI (i := i2) (by omega) (by omega), ?_⟩)
        | (refine ⟨_, up.arr.cellI (i := j2) (by omega) (by omega), ?_⟩)
        | (refine Outs.intro ⟨_, _, _, up.arr.store (i := i2) _ (by omega) (by omega), ?_⟩)
        | (refine Outs.intro ⟨_, _, _, (up.set _).arr.store (i := j2) _ (by omega) (by rw [Array.size_setIfInBounds]; omega), ?_⟩)
        | (refine Need.intro (draw_mix ⟨⟨.inl (by kernel_rfl), .inl (by kernel_rfl), True.intro⟩, ⟨.inl (by kernel_rfl), .inl (by kernel_rfl), True.intro⟩, True.intro⟩) ?_)
        | fail)
      all_goals (conv => whnf)
      exact ⟨(i2 + 1, j2 - 1, Go.Sort.swp d2 i2 j2), ⟨rfl, by dsimp only; rw [show ((j2 - 1 : Nat) : Int) = (j2 : Int) - 1 by omega]; rfl, rfl, rfl, trivial⟩, ⟨((up.set (d2.setIfInBounds (i2) d2[j2]!)).set (Go.Sort.swp d2 (i2) (j2))), by dsimp only; rw [swp_size]; exact hs, by dsimp only; omega, by dsimp only; omega, by dsimp only; omega, hT⟩, by dsimp only; omega⟩
theorem parteq_any (H : AHeap) (hw : Wf H) (blk e c : Nat) (st : Option Nat) (d : Array Nat) (n : Nat) (hn : n = d.size) (hd : Arr H blk e d) (hc : n ≤ c) (hsz : n ≤ 2 ^ 40) (a b pivot : Nat) (ha : a ≤ pivot) (hp : pivot < b) (hb : b ≤ n) :
    Does Try.prog orc 37 [DV blk n c st, .int .i64 a, .int .i64 b, .int .i64 pivot] H fun r H' => r = .ret (.int .i64 (Go.Sort.partitionEqual ltN d a b pivot).1) ∧ Upd blk e H H' (Go.Sort.partitionEqual ltN d a b pivot).2 := by
  refine Does.of Try.func37 (fun _ _ => rfl) rfl ?_
  have u0 := Upd.refl hd hw
  have u1 := ((u0.set (d.setIfInBounds (a) d[pivot]!)).set (Go.Sort.swp d (a) (pivot)))
  obtain ⟨T, hT0⟩ : ∃ T, T = Go.Sort.partitionEqual ltN d a b pivot := ⟨_, rfl⟩
  rw [← hT0]
  repeat' ((conv => whnf); first
    | (refine Both.intro ?_ ?_ <;> intro _ <;> try (exfalso; omega))
    | (refine Need.intro (by omega) ?_)
    | (refine ⟨_, u0.arr.cellI (i := a) (by omega) (by omega), ?_⟩)
    | (refine ⟨_, u0.arr.cellI (i := pivot) (by omega) (by omega), ?_⟩)
    | (refine Outs.intro ⟨_, _, _, u0.arr.store (i := a) _ (by omega) (by omega), ?_⟩)
    | (refine Outs.intro ⟨_, _, _, (u0.set _).arr.store (i := pivot) _ (by omega) (by rw [Array.size_setIfInBounds]; omega), ?_⟩)
    | (refine Need.intro (draw_mix ⟨⟨.inl (by kernel_rfl), .inl (by kernel_rfl), True.intro⟩, ⟨.inl (by kernel_rfl), .inl (by kernel_rfl), True.intro⟩, True.intro⟩) ?_)
    | fail)
  all_goals (conv => whnf)
  refine Runs.loop (fun s : Nat × Nat × Array Nat => [(9, .int .i64 s.1), (10, .int .i64 s.2.1), (0, DV blk n c st), (1, .int .i64 a)])
    (fun s H' => Upd blk e H H' s.2.2 ∧ s.2.2.size = n ∧ a + 1 ≤ s.1 ∧ s.1 ≤ n + 1 ∧ s.2.1 < n ∧ T = Go.Sort.partEqLoop ltN a s.1 s.2.1 s.2.2) (fun s => s.2.1 + 1 - s.1) (a + 1, b - 1, Go.Sort.swp d a pivot) ⟨rfl, by rw [show ((b - 1 : Nat) : Int) = (b : Int) - 1 by omega]; rfl, rfl, rfl, trivial⟩ ⟨u1, by dsimp only; rw [swp_size]; exact hn.symm, by dsimp only; omega, by dsimp only; omega, by dsimp only; omega, hT0⟩ ?_
  rintro ⟨i, j, d2⟩ H2 ⟨up, hs, hi, hin, hj, hT⟩
  dsimp only at up hs hi hin hj hT
  show vc _ _ _ _ _ [(9, .int .i64 (i : Nat)), (10, .int .i64 (j : Nat)), (0, DV blk n c st), (1, .int .i64 a)] _ _
  conv => whnf
  refine Runs.cut (.exit 2) (fun s : Nat => [(9, .int .i64 (s : Nat)), (10, .int .i64 ((j) : Nat)), (0, DV blk n c st), (1, .int .i64 a)]) (fun s H' => s = Go.Sort.scanUp (fun x => !ltN d2[a]! x) d2 (j) (i) ∧ ((i) ≤ s ∧ s ≤ max (i) ((j) + 1)) ∧ H2 = H') ?_ ?_
  · refine Runs.loop (fun s : Nat => [(9, .int .i64 (s : Nat)), (10, .int .i64 ((j) : Nat)), (0, DV blk n c st), (1, .int .i64 a)]) (fun s H' => H2 = H' ∧ ((i) ≤ s ∧ s ≤ max (i) ((j) + 1)) ∧ Go.Sort.scanUp (fun x => !ltN d2[a]! x) d2 (j) s = Go.Sort.scanUp (fun x => !ltN d2[a]! x) d2 (j) (i)) (fun s => max (i) ((j) + 1) - s) ((i)) ⟨rfl, rfl, rfl, rfl, trivial⟩ ⟨by first | rfl | (rw [hH1, hd1]; rfl), by omega, rfl⟩ ?_
    rintro s _ ⟨rfl, hrg, hT⟩
    show vc _ _ _ _ _ [(9, .int .i64 (s : Nat)), (10, .int .i64 ((j) : Nat)), (0, DV blk n c st), (1, .int .i64 a)] _ _
    rw [Go.Sort.scanUp] at hT
    by_cases h1 : s ≤ (j)
    · by_cases l : ltN d2[a]! d2[s]! = false
      · rw [if_pos (by rw [l]; simpa using h1)] at hT
        repeat' ((conv => whnf); first
          | (refine Both.intro ?_ ?_ <;> intro _ <;> try (exfalso; omega))
          | (refine Need.intro (by omega) ?_)
          | (refine ⟨_, up.arr.cellI (i := a) (by omega) (by omega), ?_⟩)
          | (refine ⟨_, up.arr.cellI (i := s) (by omega) (by omega), ?_⟩)
          | (refine Does.mono (less_any _ _ _) ?_ ; rintro _ _ ⟨rfl, rfl⟩ ; first | rw [l])
          | (refine Need.intro (draw_mix ⟨lookMix_same, True.intro⟩) ?_)
          | fail)
        all_goals (conv => whnf)
        exact ⟨s + 1, ⟨rfl, rfl, rfl, rfl, trivial⟩, ⟨rfl, by omega, hT⟩, by omega⟩
      · have l' : ltN d2[a]! d2[s]! = true := by simpa using l
        rw [if_neg (by rw [l']; simp)] at hT
        repeat' ((conv => whnf); first
          | (refine Both.intro ?_ ?_ <;> intro _ <;> try (exfalso; omega))
          | (refine Need.intro (by omega) ?_)
          | (refine ⟨_, up.arr.cellI (i := a) (by omega) (by omega), ?_⟩)
          | (refine ⟨_, up.arr.cellI (i := s) (by omega) (by omega), ?_⟩)
          | (refine Does.mono (less_any _ _ _) ?_ ; rintro _ _ ⟨rfl, rfl⟩ ; first | rw [l'])
          | (refine Need.intro (draw_mix ⟨lookMix_same, True.intro⟩) ?_)
          | fail)
        all_goals (conv => whnf)
        exact ⟨rfl, s, ⟨rfl, rfl, rfl, rfl, trivial⟩, hT, by omega, rfl⟩
    · rw [if_neg (by simp [h1])] at hT
      repeat' ((conv => whnf); first
        | (refine Both.intro ?_ ?_ <;> intro _ <;> try (exfalso; omega))
        | (refine Need.intro (by omega) ?_)
        | (refine Need.intro (DrawP.intro (by kernel_rfl)) ?_)
        | fail)
      all_goals (conv => whnf)
      exact ⟨rfl, s, ⟨rfl, rfl, rfl, rfl, trivial⟩, hT, by omega, rfl⟩
  rintro i2 _ ⟨hi2, hr3, rfl⟩
  conv => whnf
  refine Runs.cut (.exit 4) (fun s : Nat => [(10, .int .i64 (s : Nat)), (9, .int .i64 ((i2) : Nat)), (0, DV blk n c st), (1, .int .i64 a)]) (fun s H' => s = Go.Sort.scanDown (fun x => ltN d2[a]! x) d2 (i2) (j) ∧ (s ≤ (j)) ∧ H2 = H') ?_ ?_
  · refine Runs.loop (fun s : Nat => [(10, .int .i64 (s : Nat)), (9, .int .i64 ((i2) : Nat)), (0, DV blk n c st), (1, .int .i64 a)]) (fun s H' => H2 = H' ∧ (s ≤ (j)) ∧ Go.Sort.scanDown (fun x => ltN d2[a]! x) d2 (i2) s = Go.Sort.scanDown (fun x => ltN d2[a]! x) d2 (i2) (j)) (fun s => s) ((j)) ⟨rfl, rfl, rfl, rfl, trivial⟩ ⟨by first | rfl | (rw [hH1, hd1]; rfl), by omega, rfl⟩ ?_
    rintro s _ ⟨rfl, hrg, hT⟩
    show vc _ _ _ _ _ [(10, .int .i64 (s : Nat)), (9, .int .i64 ((i2) : Nat)), (0, DV blk n c st), (1, .int .i64 a)] _ _
    by_cases h1 : (i2) ≤ s
    · obtain ⟨s, rfl⟩ : ∃ t, s = t + 1 := ⟨s - 1, by omega⟩
      rw [Go.Sort.scanDown] at hT
      by_cases l : ltN d2[a]! d2[s + 1]! = true
      · rw [if_pos (by rw [l]; simpa using h1)] at hT
        repeat' ((conv => whnf); first
          | (refine Both.intro ?_ ?_ <;> intro _ <;> try (exfalso; omega))
          | (refine Need.intro (by omega) ?_)
          | (refine ⟨_, up.arr.cellI (i := a) (by omega) (by omega), ?_⟩)
          | (refine ⟨_, up.arr.cellI (i := s + 1) (by omega) (by omega), ?_⟩)
          | (refine Does.mono (less_any _ _ _) ?_ ; rintro _ _ ⟨rfl, rfl⟩ ; first | rw [l])
          | (refine Need.intro (draw_mix ⟨lookMix_same, True.intro⟩) ?_)
          | fail)
        all_goals (conv => whnf)
        exact ⟨s, ⟨by rw [show ((s : Nat) : Int) = ((s + 1 : Nat) : Int) - 1 by omega]; rfl, rfl, rfl, rfl, trivial⟩, ⟨rfl, by omega, hT⟩, by omega⟩
      · have l' : ltN d2[a]! d2[s + 1]! = false := by simpa using l
        rw [if_neg (by rw [l']; simp)] at hT
        repeat' ((conv => whnf); first
          | (refine Both.intro ?_ ?_ <;> intro _ <;> try (exfalso; omega))
          | (refine Need.intro (by omega) ?_)
          | (refine ⟨_, up.arr.cellI (i := a) (by omega) (by omega), ?_⟩)
          | (refine ⟨_, up.arr.cellI (i := s + 1) (by omega) (by omega), ?_⟩)
          | (refine Does.mono (less_any _ _ _) ?_ ; rintro _ _ ⟨rfl, rfl⟩ ; first | rw [l'])
          | (refine Need.intro (draw_mix ⟨lookMix_same, True.intro⟩) ?_)
          | fail)
        all_goals (conv => whnf)
        exact ⟨rfl, s + 1, ⟨rfl, rfl, rfl, rfl, trivial⟩, hT, by omega, rfl⟩
    · have hT' : s = Go.Sort.scanDown (fun x => ltN d2[a]! x) d2 (i2) (j) := by
        rw [← hT]
        cases s with
        | zero => rfl
        | succ s => rw [Go.Sort.scanDown, if_neg (by simp [h1])]
      repeat' ((conv => whnf); first
        | (refine Both.intro ?_ ?_ <;> intro _ <;> try (exfalso; omega))
        | (refine Need.intro (by omega) ?_)
        | (refine Need.intro (DrawP.intro (by kernel_rfl)) ?_)
        | fail)
      all_goals (conv => whnf)
      exact ⟨rfl, s, ⟨rfl, rfl, rfl, rfl, trivial⟩, hT', by omega, rfl⟩
  rintro j2 _ ⟨hj2, hr4, rfl⟩
  rw [Go.Sort.partEqLoop_eq, ← hi2, ← hj2] at hT
  by_cases h2 : i2 > j2
  · rw [if_pos h2] at hT
    repeat' ((conv => whnf); first
      | (refine Both.intro ?_ ?_ <;> intro _ <;> try (exfalso; omega))
      | (refine Need.intro (by omega) ?_)
      | fail)
    all_goals (conv => whnf)
    subst hT
    exact ⟨rfl, up⟩
  · rw [if_neg h2] at hT
    repeat' ((conv => whnf); first
      | (refine Both.intro ?_ ?_ <;> intro _ <;> try (exfalso; omega))
      | (refine Need.intro (by omega) ?_)
      | (refine ⟨_, up.arr.cellI (i := i2) (by omega) (by omega), ?_⟩)
      | (refine ⟨_, up.arr.cellI (i := j2) (by omega) (by omega), ?_⟩)
      | (refine Outs.intro ⟨_, _, _, up.arr.store (i := i2) _ (by omega) (by omega), ?_⟩)
      | (refine Outs.intro ⟨_, _, _, (up.set _).arr.store (i := j2) _ (by omega) (by rw [Array.size_setIfInBounds]; omega), ?_⟩)
      | (refine Need.intro (draw_mix ⟨⟨.inl (by kernel_rfl), .inl (by kernel_rfl), True.intro⟩, ⟨.inl (by kernel_rfl), .inl (by kernel_rfl), True.intro⟩, True.intro⟩) ?_)
      | fail)
    all_goals (conv => whnf)
    exact ⟨(i2 + 1, j2 - 1, Go.Sort.swp d2 i2 j2), ⟨rfl, by dsimp only; rw [show ((j2 - 1 : Nat) : Int) = (j2 : Int) - 1 by omega]; rfl, rfl, rfl, trivial⟩, ⟨((up.set (d2.setIfInBounds (i2) d2[j2]!)).set (Go.Sort.swp d2 (i2) (j2))), by dsimp only; rw [swp_size]; exact hs, by dsimp only; omega, by dsimp only; omega, by dsimp only; omega, hT⟩, by dsimp only; omega⟩
theorem pins_any (H : AHeap) (hw : Wf H) (blk e c : Nat) (st : Option Nat) (d : Array Nat) (n : Nat) (hn : n = d.size) (hd : Arr H blk e d) (hc : n ≤ c) (hsz : n ≤ 2 ^ 40) (a b : Nat) (ha : a < b) (hb : b ≤ n) :
    Does Try.prog orc 35 [DV blk n c st, .int .i64 a, .int .i64 b] H fun r H' => r = .ret (.bool (Go.Sort.partialInsertionSort ltN d a b).2) ∧ Upd blk e H H' (Go.Sort.partialInsertionSort ltN d a b).1 := by
  refine Does.of Try.func35 (fun _ _ => rfl) rfl ?_
  obtain ⟨T, hT0⟩ : ∃ T, T = Go.Sort.partialInsertionSort ltN d a b := ⟨_, rfl⟩
  rw [← hT0]
  repeat' ((conv => whnf); first
    | (refine Both.intro ?_ ?_ <;> intro _ <;> try (exfalso; omega))
    | (refine Need.intro (by omega) ?_)
    | fail)
  all_goals (conv => whnf)
  refine Runs.loop (fun s : Nat × Nat × Array Nat => [(8, .int .i64 (5 - s.1 : Nat)), (7, .int .i64 s.2.1), (0, DV blk n c st), (1, .int .i64 a), (2, .int .i64 b)])
    (fun s H' => Upd blk e H H' s.2.2 ∧ s.2.2.size = n ∧ a + 1 ≤ s.2.1 ∧ s.2.1 ≤ b ∧ s.1 ≤ 5 ∧ T = Go.Sort.partialIns ltN a b s.1 s.2.1 s.2.2) (fun s => s.1) (5, a + 1, d) ⟨rfl, rfl, rfl, rfl, rfl, trivial⟩ ⟨Upd.refl hd hw, hn.symm, Nat.le_refl _, by dsimp only; omega, by dsimp only; omega, hT0⟩ ?_
  rintro ⟨k, i, d1⟩ H1 ⟨up, hs, hi, hib, hk, hT⟩
  dsimp only at up hs hi hib hk hT
  show vc _ _ _ _ _ [(8, .int .i64 (5 - k : Nat)), (7, .int .i64 i), (0, DV blk n c st), (1, .int .i64 a), (2, .int .i64 b)] _ _
  cases k with
  | zero =>
    rw [Go.Sort.partialIns] at hT
    repeat' ((conv => whnf); first
      | (refine Both.intro ?_ ?_ <;> intro _ <;> try (exfalso; omega))
      | (refine Need.intro (by omega) ?_)
      | fail)
    all_goals (conv => whnf)
    subst hT
    exact ⟨rfl, up⟩
  | succ k =>
    rw [Go.Sort.partialIns_succ] at hT
    repeat' ((conv => whnf); first
      | (refine Both.intro ?_ ?_ <;> intro _ <;> try (exfalso; omega))
      | (refine Need.intro (by omega) ?_)
      | fail)
    all_goals (conv => whnf)
    refine Runs.cut (.exit 2) (fun s : Nat => [(7, .int .i64 s), (8, .int .i64 (5 - (k + 1) : Nat)), (0, DV blk n c st), (1, .int .i64 a), (2, .int .i64 b)]) (fun s H' => s = Go.Sort.scanSorted ltN d1 b i ∧ (i ≤ s ∧ s ≤ b) ∧ H1 = H') ?_ ?_
    · refine Runs.loop (fun s : Nat => [(7, .int .i64 s), (8, .int .i64 (5 - (k + 1) : Nat)), (0, DV blk n c st), (1, .int .i64 a), (2, .int .i64 b)]) (fun s H' => H1 = H' ∧ (i ≤ s ∧ s ≤ b) ∧ Go.Sort.scanSorted ltN d1 b s = Go.Sort.scanSorted ltN d1 b i) (fun s => b - s) i ⟨rfl, rfl, rfl, rfl, rfl, trivial⟩ ⟨rfl, by omega, rfl⟩ ?_
      rintro s _ ⟨rfl, hrg, hS⟩
      show vc _ _ _ _ _ [(7, .int .i64 s), (8, .int .i64 (5 - (k + 1) : Nat)), (0, DV blk n c st), (1, .int .i64 a), (2, .int .i64 b)] _ _
      rw [Go.Sort.scanSorted] at hS
      by_cases h1 : s < b
      · by_cases l : ltN d1[s]! d1[s - 1]! = false
        · rw [if_pos (by rw [l]; simpa using h1)] at hS
          repeat' ((conv => whnf); first
            | (refine Both.intro ?_ ?_ <;> intro _ <;> try (exfalso; omega))
            | (refine Need.intro (by omega) ?_)
            | (refine ⟨_, up.arr.cellI (i := s) (by omega) (by omega), ?_⟩)
            | (refine ⟨_, up.arr.cellI (i := s - 1) (by omega) (by omega), ?_⟩)
            | (refine Does.mono (less_any _ _ _) ?_ ; rintro _ _ ⟨rfl, rfl⟩ ; first | rw [l])
            | (refine Need.intro (draw_mix ⟨lookMix_same, True.intro⟩) ?_)
            | fail)
          all_goals (conv => whnf)
          exact ⟨s + 1, ⟨rfl, rfl, rfl, rfl, rfl, trivial⟩, ⟨rfl, by omega, hS⟩, by omega⟩
        · have l' : ltN d1[s]! d1[s - 1]! = true := by simpa using l
          rw [if_neg (by rw [l']; simp)] at hS
          repeat' ((conv => whnf); first
            | (refine Both.intro ?_ ?_ <;> intro _ <;> try (exfalso; omega))
            | (refine Need.intro (by omega) ?_)
            | (refine ⟨_, up.arr.cellI (i := s) (by omega) (by omega), ?_⟩)
            | (refine ⟨_, up.arr.cellI (i := s - 1) (by omega) (by omega), ?_⟩)
            | (refine Does.mono (less_any _ _ _) ?_ ; rintro _ _ ⟨rfl, rfl⟩ ; first | rw [l'])
            | (refine Need.intro (draw_mix ⟨lookMix_same, True.intro⟩) ?_)
            | fail)
          all_goals (conv => whnf)
          exact ⟨rfl, s, ⟨rfl, rfl, rfl, rfl, rfl, trivial⟩, hS, by omega, rfl⟩
      · rw [if_neg (by simp [h1])] at hS
        repeat' ((conv => whnf); first
          | (refine Both.intro ?_ ?_ <;> intro _ <;> try (exfalso; omega))
          | (refine Need.intro (by omega) ?_)
          | (refine Need.intro (DrawP.intro (by kernel_rfl)) ?_)
          | fail)
        all_goals (conv => whnf)
        exact ⟨rfl, s, ⟨rfl, rfl, rfl, rfl, rfl, trivial⟩, hS, by omega, rfl⟩
    · rintro i1 _ ⟨hi1, hr1, rfl⟩
      rw [← hi1] at hT
      by_cases h2 : i1 = b
      · rw [if_pos h2] at hT
        repeat' ((conv => whnf); first
          | (refine Both.intro ?_ ?_ <;> intro _ <;> try (exfalso; omega))
          | (refine Need.intro (by omega) ?_)
          | fail)
        all_goals (conv => whnf)
        subst hT
        exact ⟨rfl, up⟩
      · rw [if_neg h2] at hT
        by_cases h3 : b - a < 50
        · rw [if_pos h3] at hT
          repeat' ((conv => whnf); first
            | (refine Both.intro ?_ ?_ <;> intro _ <;> try (exfalso; omega))
            | (refine Need.intro (by omega) ?_)
            | fail)
          all_goals (conv => whnf)
          subst hT
          exact ⟨rfl, up⟩
        · rw [if_neg h3] at hT
          obtain ⟨d2, hd2⟩ : ∃ d2, d2 = Go.Sort.swp d1 i1 (i1 - 1) := ⟨_, rfl⟩
          have u2 : Upd blk e H ((H1.set blk (.cells (u64s (d1.setIfInBounds i1 d1[i1 - 1]!)) e true)).set blk (.cells (u64s ((d1.setIfInBounds i1 d1[i1 - 1]!).setIfInBounds (i1 - 1) d1[i1]!)) e true)) d2 := by rw [hd2]; exact ((up.set (d1.setIfInBounds (i1) d1[i1 - 1]!)).set (Go.Sort.swp d1 (i1) (i1 - 1)))
          have hs2 : d2.size = n := by rw [hd2, swp_size]; exact hs
          rw [← hd2] at hT
          have hfd : ∀ x, (b - i1 ≥ 2 → Go.Sort.shiftUp ltN b (i1 + 1) (Go.Sort.fixDown ltN a i1 d2) = x) → (¬ b - i1 ≥ 2 → Go.Sort.fixDown ltN a i1 d2 = x) → T = Go.Sort.partialIns ltN a b k i1 x := fun x h1 h2 => by
            rw [hT]
            unfold Go.Sort.fixUp
            by_cases hc : b - i1 ≥ 2
            · rw [if_pos hc, h1 hc]
            · rw [if_neg hc, h2 hc]
          by_cases hA : i1 - a ≥ 2
          · have hfx : Go.Sort.fixDown ltN a i1 d2 = Go.Sort.shiftDown ltN (i1 - 1) d2 := by unfold Go.Sort.fixDown; rw [if_pos hA]
            by_cases hB : b - i1 ≥ 2
            · skip
              repeat' ((conv => whnf); first
                | (refine Both.intro ?_ ?_ <;> intro _ <;> try (exfalso; omega))
                | (refine Need.intro (by omega) ?_)
                | (refine ⟨_, up.arr.cellI (i := i1) (by omega) (by omega), ?_⟩)
                | (refine ⟨_, up.arr.cellI (i := i1 - 1) (by omega) (by omega), ?_⟩)
                | (refine Outs.intro ⟨_, _, _, up.arr.store (i := i1) _ (by omega) (by omega), ?_⟩)
                | (refine Outs.intro ⟨_, _, _, (up.set _).arr.store (i := i1 - 1) _ (by omega) (by rw [Array.size_setIfInBounds]; omega), ?_⟩)
                | (refine Need.intro (draw_mix ⟨⟨.inl (by kernel_rfl), .inl (by kernel_rfl), True.intro⟩, ⟨.inl (by kernel_rfl), .inl (by kernel_rfl), True.intro⟩, True.intro⟩) ?_)
                | fail)
              all_goals (conv => whnf)
              refine Runs.cut (.exit 4) (fun s : Array Nat => [(8, .int .i64 (5 - (k + 1) : Nat)), (7, .int .i64 (i1 : Nat)), (0, DV blk n c st), (1, .int .i64 a), (2, .int .i64 b)]) (fun s H' => s = Go.Sort.shiftDown ltN (i1 - 1) d2 ∧ s.size = n ∧ Upd blk e H H' s) ?_ ?_
              · refine Runs.loop (fun s : Nat × Array Nat => [(9, .int .i64 (s.1 : Nat)), (8, .int .i64 (5 - (k + 1) : Nat)), (7, .int .i64 (i1 : Nat)), (0, DV blk n c st), (1, .int .i64 a), (2, .int .i64 b)]) (fun s H' => Upd blk e H H' s.2 ∧ s.2.size = n ∧ s.1 < i1 ∧ Go.Sort.shiftDown ltN s.1 s.2 = Go.Sort.shiftDown ltN (i1 - 1) d2) (fun s => s.1) (i1 - 1, d2) ⟨by dsimp only; rw [show ((i1 - 1 : Nat) : Int) = (i1 : Int) - 1 by omega]; rfl, rfl, rfl, rfl, rfl, rfl, trivial⟩ ⟨u2, hs2, by dsimp only; omega, rfl⟩ ?_
                rintro ⟨j, d3⟩ H3 ⟨u3, hs3, hj, hS⟩
                dsimp only at u3 hs3 hj hS
                show vc _ _ _ _ _ [(9, .int .i64 (j : Nat)), (8, .int .i64 (5 - (k + 1) : Nat)), (7, .int .i64 (i1 : Nat)), (0, DV blk n c st), (1, .int .i64 a), (2, .int .i64 b)] _ _
                cases j with
                | zero =>
                  rw [Go.Sort.shiftDown] at hS
                  repeat' ((conv => whnf); first
                    | (refine Both.intro ?_ ?_ <;> intro _ <;> try (exfalso; omega))
                    | (refine Need.intro (by omega) ?_)
                    | (refine Need.intro (DrawP.intro (by kernel_rfl)) ?_)
                    | fail)
                  all_goals (conv => whnf)
                  exact ⟨rfl, d3, ⟨rfl, rfl, rfl, rfl, rfl, trivial⟩, hS, hs3, u3⟩
                | succ j =>
                  rw [Go.Sort.shiftDown] at hS
                  by_cases l : ltN d3[j + 1]! d3[j]! = true
                  · rw [if_neg (by rw [l]; decide)] at hS
                    repeat' ((conv => whnf); first
                      | (refine Both.intro ?_ ?_ <;> intro _ <;> try (exfalso; omega))
                      | (refine Need.intro (by omega) ?_)
                      | (refine ⟨_, u3.arr.cellI (i := j + 1) (by omega) (by omega), ?_⟩)
                      | (refine ⟨_, u3.arr.cellI (i := j) (by omega) (by omega), ?_⟩)
                      | (refine Does.mono (less_any _ _ _) ?_ ; rintro _ _ ⟨rfl, rfl⟩ ; first | rw [l])
                      | (refine Need.intro (draw_mix ⟨lookMix_same, True.intro⟩) ?_)
                      | (refine ⟨_, u3.arr.cellI (i := j + 1) (by omega) (by omega), ?_⟩)
                      | (refine ⟨_, u3.arr.cellI (i := j) (by omega) (by omega), ?_⟩)
                      | (refine Outs.intro ⟨_, _, _, u3.arr.store (i := j + 1) _ (by omega) (by omega), ?_⟩)
                      | (refine Outs.intro ⟨_, _, _, (u3.set _).arr.store (i := j) _ (by omega) (by rw [Array.size_setIfInBounds]; omega), ?_⟩)
                      | (refine Need.intro (draw_mix ⟨⟨.inl (by kernel_rfl), .inl (by kernel_rfl), True.intro⟩, ⟨.inl (by kernel_rfl), .inl (by kernel_rfl), True.intro⟩, True.intro⟩) ?_)
                      | fail)
                    all_goals (conv => whnf)
                    exact ⟨(j, Go.Sort.swp d3 (j + 1) j), ⟨by dsimp only; rw [show ((j : Nat) : Int) = ((j + 1 : Nat) : Int) - 1 by omega]; rfl, rfl, rfl, rfl, rfl, rfl, trivial⟩, ⟨((u3.set (d3.setIfInBounds (j + 1) d3[j]!)).set (Go.Sort.swp d3 (j + 1) (j))), by dsimp only; rw [swp_size]; exact hs3, by dsimp only; omega, hS⟩, by dsimp only; omega⟩
                  · have l' : ltN d3[j + 1]! d3[j]! = false := by simpa using l
                    rw [if_pos (by rw [l']; decide)] at hS
                    repeat' ((conv => whnf); first
                      | (refine Both.intro ?_ ?_ <;> intro _ <;> try (exfalso; omega))
                      | (refine Need.intro (by omega) ?_)
                      | (refine ⟨_, u3.arr.cellI (i := j + 1) (by omega) (by omega), ?_⟩)
                      | (refine ⟨_, u3.arr.cellI (i := j) (by omega) (by omega), ?_⟩)
                      | (refine Does.mono (less_any _ _ _) ?_ ; rintro _ _ ⟨rfl, rfl⟩ ; first | rw [l'])
                      | (refine Need.intro (draw_mix ⟨lookMix_same, True.intro⟩) ?_)
                      | fail)
                    all_goals (conv => whnf)
                    exact ⟨rfl, d3, ⟨rfl, rfl, rfl, rfl, rfl, trivial⟩, hS, hs3, u3⟩
              · rintro d4 H4 ⟨hd4, hs4, u4⟩
                conv => whnf
                have hT := hfd (Go.Sort.shiftUp ltN b (i1 + 1) d4) (fun _ => by rw [hfx, hd4]) (fun h => absurd hB h)
                repeat' ((conv => whnf); first
                  | (refine Both.intro ?_ ?_ <;> intro _ <;> try (exfalso; omega))
                  | (refine Need.intro (by omega) ?_)
                  | fail)
                all_goals (conv => whnf)
                refine Runs.cut (.exit 6) (fun s : Array Nat => [(8, .int .i64 (5 - (k + 1) : Nat)), (7, .int .i64 (i1 : Nat)), (0, DV blk n c st), (1, .int .i64 a), (2, .int .i64 b)]) (fun s H' => s = Go.Sort.shiftUp ltN b (i1 + 1) d4 ∧ s.size = n ∧ Upd blk e H H' s) ?_ ?_
                · refine Runs.loop (fun s : Nat × Array Nat => [(10, .int .i64 (s.1 : Nat)), (8, .int .i64 (5 - (k + 1) : Nat)), (7, .int .i64 (i1 : Nat)), (0, DV blk n c st), (1, .int .i64 a), (2, .int .i64 b)]) (fun s H' => Upd blk e H H' s.2 ∧ s.2.size = n ∧ i1 + 1 ≤ s.1 ∧ s.1 ≤ b ∧ Go.Sort.shiftUp ltN b s.1 s.2 = Go.Sort.shiftUp ltN b (i1 + 1) d4) (fun s => b - s.1) (i1 + 1, d4) ⟨rfl, rfl, rfl, rfl, rfl, rfl, trivial⟩ ⟨u4, hs4, by dsimp only; omega, by dsimp only; omega, rfl⟩ ?_
                  rintro ⟨j, d5⟩ H5 ⟨u5, hs5, hj1, hj2, hS⟩
                  dsimp only at u5 hs5 hj1 hj2 hS
                  show vc _ _ _ _ _ [(10, .int .i64 (j : Nat)), (8, .int .i64 (5 - (k + 1) : Nat)), (7, .int .i64 (i1 : Nat)), (0, DV blk n c st), (1, .int .i64 a), (2, .int .i64 b)] _ _
                  rw [Go.Sort.shiftUp] at hS
                  by_cases h6 : j < b
                  · rw [if_pos h6] at hS
                    by_cases l : ltN d5[j]! d5[j - 1]! = true
                    · rw [if_neg (by rw [l]; decide)] at hS
                      repeat' ((conv => whnf); first
                        | (refine Both.intro ?_ ?_ <;> intro _ <;> try (exfalso; omega))
                        | (refine Need.intro (by omega) ?_)
                        | (refine ⟨_, u5.arr.cellI (i := j) (by omega) (by omega), ?_⟩)
                        | (refine ⟨_, u5.arr.cellI (i := j - 1) (by omega) (by omega), ?_⟩)
                        | (refine Does.mono (less_any _ _ _) ?_ ; rintro _ _ ⟨rfl, rfl⟩ ; first | rw [l])
                        | (refine Need.intro (draw_mix ⟨lookMix_same, True.intro⟩) ?_)
                        | (refine ⟨_, u5.arr.cellI (i := j) (by omega) (by omega), ?_⟩)
                        | (refine ⟨_, u5.arr.cellI (i := j - 1) (by omega) (by omega), ?_⟩)
                        | (refine Outs.intro ⟨_, _, _, u5.arr.store (i := j) _ (by omega) (by omega), ?_⟩)
                        | (refine Outs.intro ⟨_, _, _, (u5.set _).arr.store (i := j - 1) _ (by omega) (by rw [Array.size_setIfInBounds]; omega), ?_⟩)
                        | (refine Need.intro (draw_mix ⟨⟨.inl (by kernel_rfl), .inl (by kernel_rfl), True.intro⟩, ⟨.inl (by kernel_rfl), .inl (by kernel_rfl), True.intro⟩, True.intro⟩) ?_)
                        | fail)
                      all_goals (conv => whnf)
                      exact ⟨(j + 1, Go.Sort.swp d5 j (j - 1)), ⟨rfl, rfl, rfl, rfl, rfl, rfl, trivial⟩, ⟨((u5.set (d5.setIfInBounds (j) d5[j - 1]!)).set (Go.Sort.swp d5 (j) (j - 1))), by dsimp only; rw [swp_size]; exact hs5, by dsimp only; omega, by dsimp only; omega, hS⟩, by dsimp only; omega⟩
                    · have l' : ltN d5[j]! d5[j - 1]! = false := by simpa using l
                      rw [if_pos (by rw [l']; decide)] at hS
                      repeat' ((conv => whnf); first
                        | (refine Both.intro ?_ ?_ <;> intro _ <;> try (exfalso; omega))
                        | (refine Need.intro (by omega) ?_)
                        | (refine ⟨_, u5.arr.cellI (i := j) (by omega) (by omega), ?_⟩)
                        | (refine ⟨_, u5.arr.cellI (i := j - 1) (by omega) (by omega), ?_⟩)
                        | (refine Does.mono (less_any _ _ _) ?_ ; rintro _ _ ⟨rfl, rfl⟩ ; first | rw [l'])
                        | (refine Need.intro (draw_mix ⟨lookMix_same, True.intro⟩) ?_)
                        | fail)
                      all_goals (conv => whnf)
                      exact ⟨rfl, d5, ⟨rfl, rfl, rfl, rfl, rfl, trivial⟩, hS, hs5, u5⟩
                  · rw [if_neg h6] at hS
                    repeat' ((conv => whnf); first
                      | (refine Both.intro ?_ ?_ <;> intro _ <;> try (exfalso; omega))
                      | (refine Need.intro (by omega) ?_)
                      | (refine Need.intro (DrawP.intro (by kernel_rfl)) ?_)
                      | fail)
                    all_goals (conv => whnf)
                    exact ⟨rfl, d5, ⟨rfl, rfl, rfl, rfl, rfl, trivial⟩, hS, hs5, u5⟩
                · rintro d6 H6 ⟨hd6, hs6, u6⟩
                  conv => whnf
                  repeat' ((conv => whnf); first
                    | (refine Both.intro ?_ ?_ <;> intro _ <;> try (exfalso; omega))
                    | (refine Need.intro (by omega) ?_)
                    | fail)
                  all_goals (conv => whnf)
                  subst hd6
                  exact ⟨(k, i1, _), ⟨by dsimp only; rw [show ((5 - k : Nat) : Int) = ((5 - (k + 1) : Nat) : Int) + 1 by omega]; rfl, rfl, rfl, rfl, rfl, trivial⟩, ⟨u6, hs6, by dsimp only; omega, by dsimp only; omega, by dsimp only; omega, hT⟩, by dsimp only; omega⟩
            · skip
              repeat' ((conv => whnf); first
                | (refine Both.intro ?_ ?_ <;> intro _ <;> try (exfalso; omega))
                | (refine Need.intro (by omega) ?_)
                | (refine ⟨_, up.arr.cellI (i := i1) (by omega) (by omega), ?_⟩)
                | (refine ⟨_, up.arr.cellI (i := i1 - 1) (by omega) (by omega), ?_⟩)
                | (refine Outs.intro ⟨_, _, _, up.arr.store (i := i1) _ (by omega) (by omega), ?_⟩)
                | (refine Outs.intro ⟨_, _, _, (up.set _).arr.store (i := i1 - 1) _ (by omega) (by rw [Array.size_setIfInBounds]; omega), ?_⟩)
                | (refine Need.intro (draw_mix ⟨⟨.inl (by kernel_rfl), .inl (by kernel_rfl), True.intro⟩, ⟨.inl (by kernel_rfl), .inl (by kernel_rfl), True.intro⟩, True.intro⟩) ?_)
                | fail)
              all_goals (conv => whnf)
              refine Runs.cut (.exit 4) (fun s : Array Nat => [(8, .int .i64 (5 - (k + 1) : Nat)), (7, .int .i64 (i1 : Nat)), (0, DV blk n c st), (1, .int .i64 a), (2, .int .i64 b)]) (fun s H' => s = Go.Sort.shiftDown ltN (i1 - 1) d2 ∧ s.size = n ∧ Upd blk e H H' s) ?_ ?_
              · refine Runs.loop (fun s : Nat × Array Nat => [(9, .int .i64 (s.1 : Nat)), (8, .int .i64 (5 - (k + 1) : Nat)), (7, .int .i64 (i1 : Nat)), (0, DV blk n c st), (1, .int .i64 a), (2, .int .i64 b)]) (fun s H' => Upd blk e H H' s.2 ∧ s.2.size = n ∧ s.1 < i1 ∧ Go.Sort.shiftDown ltN s.1 s.2 = Go.Sort.shiftDown ltN (i1 - 1) d2) (fun s => s.1) (i1 - 1, d2) ⟨by dsimp only; rw [show ((i1 - 1 : Nat) : Int) = (i1 : Int) - 1 by omega]; rfl, rfl, rfl, rfl, rfl, rfl, trivial⟩ ⟨u2, hs2, by dsimp only; omega, rfl⟩ ?_
                rintro ⟨j, d3⟩ H3 ⟨u3, hs3, hj, hS⟩
                dsimp only at u3 hs3 hj hS
                show vc _ _ _ _ _ [(9, .int .i64 (j : Nat)), (8, .int .i64 (5 - (k + 1) : Nat)), (7, .int .i64 (i1 : Nat)), (0, DV blk n c st), (1, .int .i64 a), (2, .int .i64 b)] _ _
                cases j with
                | zero =>
                  rw [Go.Sort.shiftDown] at hS
                  repeat' ((conv => whnf); first
                    | (refine Both.intro ?_ ?_ <;> intro _ <;> try (exfalso; omega))
                    | (refine Need.intro (by omega) ?_)
                    | (refine Need.intro (DrawP.intro (by kernel_rfl)) ?_)
                    | fail)
                  all_goals (conv => whnf)
                  exact ⟨rfl, d3, ⟨rfl, rfl, rfl, rfl, rfl, trivial⟩, hS, hs3, u3⟩
                | succ j =>
                  rw [Go.Sort.shiftDown] at hS
                  by_cases l : ltN d3[j + 1]! d3[j]! = true
                  · rw [if_neg (by rw [l]; decide)] at hS
                    repeat' ((conv => whnf); first
                      | (refine Both.intro ?_ ?_ <;> intro _ <;> try (exfalso; omega))
                      | (refine Need.intro (by omega) ?_)
                      | (refine ⟨_, u3.arr.cellI (i := j + 1) (by omega) (by omega), ?_⟩)
                      | (refine ⟨_, u3.arr.cellI (i := j) (by omega) (by omega), ?_⟩)
                      | (refine Does.mono (less_any _ _ _) ?_ ; rintro _ _ ⟨rfl, rfl⟩ ; first | rw [l])
                      | (refine Need.intro (draw_mix ⟨lookMix_same, True.intro⟩) ?_)
                      | (refine ⟨_, u3.arr.cellI (i := j + 1) (by omega) (by omega), ?_⟩)
                      | (refine ⟨_, u3.arr.cellI (i := j) (by omega) (by omega), ?_⟩)
                      | (refine Outs.intro ⟨_, _, _, u3.arr.store (i := j + 1) _ (by omega) (by omega), ?_⟩)
                      | (refine Outs.intro ⟨_, _, _, (u3.set _).arr.store (i := j) _ (by omega) (by rw [Array.size_setIfInBounds]; omega), ?_⟩)
                      | (refine Need.intro (draw_mix ⟨⟨.inl (by kernel_rfl), .inl (by kernel_rfl), True.intro⟩, ⟨.inl (by kernel_rfl), .inl (by kernel_rfl), True.intro⟩, True.intro⟩) ?_)
                      | fail)
                    all_goals (conv => whnf)
                    exact ⟨(j, Go.Sort.swp d3 (j + 1) j), ⟨by dsimp only; rw [show ((j : Nat) : Int) = ((j + 1 : Nat) : Int) - 1 by omega]; rfl, rfl, rfl, rfl, rfl, rfl, trivial⟩, ⟨((u3.set (d3.setIfInBounds (j + 1) d3[j]!)).set (Go.Sort.swp d3 (j + 1) (j))), by dsimp only; rw [swp_size]; exact hs3, by dsimp only; omega, hS⟩, by dsimp only; omega⟩
                  · have l' : ltN d3[j + 1]! d3[j]! = false := by simpa using l
                    rw [if_pos (by rw [l']; decide)] at hS
                    repeat' ((conv => whnf); first
                      | (refine Both.intro ?_ ?_ <;> intro _ <;> try (exfalso; omega))
                      | (refine Need.intro (by omega) ?_)
                      | (refine ⟨_, u3.arr.cellI (i := j + 1) (by omega) (by omega), ?_⟩)
                      | (refine ⟨_, u3.arr.cellI (i := j) (by omega) (by omega), ?_⟩)
                      | (refine Does.mono (less_any _ _ _) ?_ ; rintro _ _ ⟨rfl, rfl⟩ ; first | rw [l'])
                      | (refine Need.intro (draw_mix ⟨lookMix_same, True.intro⟩) ?_)
                      | fail)
                    all_goals (conv => whnf)
                    exact ⟨rfl, d3, ⟨rfl, rfl, rfl, rfl, rfl, trivial⟩, hS, hs3, u3⟩
              · rintro d4 H4 ⟨hd4, hs4, u4⟩
                conv => whnf
                have hT := hfd d4 (fun h => absurd h hB) (fun _ => by rw [hfx, hd4])
                repeat' ((conv => whnf); first
                  | (refine Both.intro ?_ ?_ <;> intro _ <;> try (exfalso; omega))
                  | (refine Need.intro (by omega) ?_)
                  | fail)
                all_goals (conv => whnf)
                exact ⟨(k, i1, d4), ⟨by dsimp only; rw [show ((5 - k : Nat) : Int) = ((5 - (k + 1) : Nat) : Int) + 1 by omega]; rfl, rfl, rfl, rfl, rfl, trivial⟩, ⟨u4, hs4, by dsimp only; omega, by dsimp only; omega, by dsimp only; omega, hT⟩, by dsimp only; omega⟩
          · have hfx : Go.Sort.fixDown ltN a i1 d2 = d2 := by unfold Go.Sort.fixDown; rw [if_neg hA]
            by_cases hB : b - i1 ≥ 2
            · have hT := hfd (Go.Sort.shiftUp ltN b (i1 + 1) d2) (fun _ => by rw [hfx]) (fun h => absurd hB h)
              repeat' ((conv => whnf); first
                | (refine Both.intro ?_ ?_ <;> intro _ <;> try (exfalso; omega))
                | (refine Need.intro (by omega) ?_)
                | (refine ⟨_, up.arr.cellI (i := i1) (by omega) (by omega), ?_⟩)
                | (refine ⟨_, up.arr.cellI (i := i1 - 1) (by omega) (by omega), ?_⟩)
                | (refine Outs.intro ⟨_, _, _, up.arr.store (i := i1) _ (by omega) (by omega), ?_⟩)
                | (refine Outs.intro ⟨_, _, _, (up.set _).arr.store (i := i1 - 1) _ (by omega) (by rw [Array.size_setIfInBounds]; omega), ?_⟩)
                | (refine Need.intro (draw_mix ⟨⟨.inl (by kernel_rfl), .inl (by kernel_rfl), True.intro⟩, ⟨.inl (by kernel_rfl), .inl (by kernel_rfl), True.intro⟩, True.intro⟩) ?_)
                | fail)
              all_goals (conv => whnf)
              refine Runs.cut (.exit 6) (fun s : Array Nat => [(8, .int .i64 (5 - (k + 1) : Nat)), (7, .int .i64 (i1 : Nat)), (0, DV blk n c st), (1, .int .i64 a), (2, .int .i64 b)]) (fun s H' => s = Go.Sort.shiftUp ltN b (i1 + 1) d2 ∧ s.size = n ∧ Upd blk e H H' s) ?_ ?_
              · refine Runs.loop (fun s : Nat × Array Nat => [(10, .int .i64 (s.1 : Nat)), (8, .int .i64 (5 - (k + 1) : Nat)), (7, .int .i64 (i1 : Nat)), (0, DV blk n c st), (1, .int .i64 a), (2, .int .i64 b)]) (fun s H' => Upd blk e H H' s.2 ∧ s.2.size = n ∧ i1 + 1 ≤ s.1 ∧ s.1 ≤ b ∧ Go.Sort.shiftUp ltN b s.1 s.2 = Go.Sort.shiftUp ltN b (i1 + 1) d2) (fun s => b - s.1) (i1 + 1, d2) ⟨rfl, rfl, rfl, rfl, rfl, rfl, trivial⟩ ⟨u2, hs2, by dsimp only; omega, by dsimp only; omega, rfl⟩ ?_
                rintro ⟨j, d5⟩ H5 ⟨u5, hs5, hj1, hj2, hS⟩
                dsimp only at u5 hs5 hj1 hj2 hS
                show vc _ _ _ _ _ [(10, .int .i64 (j : Nat)), (8, .int .i64 (5 - (k + 1) : Nat)), (7, .int .i64 (i1 : Nat)), (0, DV blk n c st), (1, .int .i64 a), (2, .int .i64 b)] _ _
                rw [Go.Sort.shiftUp] at hS
                by_cases h6 : j < b
                · rw [if_pos h6] at hS
                  by_cases l : ltN d5[j]! d5[j - 1]! = true
                  · rw [if_neg (by rw [l]; decide)] at hS
                    repeat' ((conv => whnf); first
                      | (refine Both.intro ?_ ?_ <;> intro _ <;> try (exfalso; omega))
                      | (refine Need.intro (by omega) ?_)
                      | (refine ⟨_, u5.arr.cellI (i := j) (by omega) (by omega), ?_⟩)
                      | (refine ⟨_, u5.arr.cellI (i := j - 1) (by omega) (by omega), ?_⟩)
                      | (refine Does.mono (less_any _ _ _) ?_ ; rintro _ _ ⟨rfl, rfl⟩ ; first | rw [l])
                      | (refine Need.intro (draw_mix ⟨lookMix_same, True.intro⟩) ?_)
                      | (refine ⟨_, u5.arr.cellI (i := j) (by omega) (by omega), ?_⟩)
                      | (refine ⟨_, u5.arr.cellI (i := j - 1) (by omega) (by omega), ?_⟩)
                      | (refine Outs.intro ⟨_, _, _, u5.arr.store (i := j) _ (by omega) (by omega), ?_⟩)
                      | (refine Outs.intro ⟨_, _, _, (u5.set _).arr.store (i := j - 1) _ (by omega) (by rw [Array.size_setIfInBounds]; omega), ?_⟩)
                      | (refine Need.intro (draw_mix ⟨⟨.inl (by kernel_rfl), .inl (by kernel_rfl), True.intro⟩, ⟨.inl (by kernel_rfl), .inl (by kernel_rfl), True.intro⟩, True.intro⟩) ?_)
                      | fail)
                    all_goals (conv => whnf)
                    exact ⟨(j + 1, Go.Sort.swp d5 j (j - 1)), ⟨rfl, rfl, rfl, rfl, rfl, rfl, trivial⟩, ⟨((u5.set (d5.setIfInBounds (j) d5[j - 1]!)).set (Go.Sort.swp d5 (j) (j - 1))), by dsimp only; rw [swp_size]; exact hs5, by dsimp only; omega, by dsimp only; omega, hS⟩, by dsimp only; omega⟩
                  · have l' : ltN d5[j]! d5[j - 1]! = false := by simpa using l
                    rw [if_pos (by rw [l']; decide)] at hS
                    repeat' ((conv => whnf); first
                      | (refine Both.intro ?_ ?_ <;> intro _ <;> try (exfalso; omega))
                      | (refine Need.intro (by omega) ?_)
                      | (refine ⟨_, u5.arr.cellI (i := j) (by omega) (by omega), ?_⟩)
                      | (refine ⟨_, u5.arr.cellI (i := j - 1) (by omega) (by omega), ?_⟩)
                      | (refine Does.mono (less_any _ _ _) ?_ ; rintro _ _ ⟨rfl, rfl⟩ ; first | rw [l'])
                      | (refine Need.intro (draw_mix ⟨lookMix_same, True.intro⟩) ?_)
                      | fail)
                    all_goals (conv => whnf)
                    exact ⟨rfl, d5, ⟨rfl, rfl, rfl, rfl, rfl, trivial⟩, hS, hs5, u5⟩
                · rw [if_neg h6] at hS
                  repeat' ((conv => whnf); first
                    | (refine Both.intro ?_ ?_ <;> intro _ <;> try (exfalso; omega))
                    | (refine Need.intro (by omega) ?_)
                    | (refine Need.intro (DrawP.intro (by kernel_rfl)) ?_)
                    | fail)
                  all_goals (conv => whnf)
                  exact ⟨rfl, d5, ⟨rfl, rfl, rfl, rfl, rfl, trivial⟩, hS, hs5, u5⟩
              · rintro d6 H6 ⟨hd6, hs6, u6⟩
                conv => whnf
                repeat' ((conv => whnf); first
                  | (refine Both.intro ?_ ?_ <;> intro _ <;> try (exfalso; omega))
                  | (refine Need.intro (by omega) ?_)
                  | fail)
                all_goals (conv => whnf)
                subst hd6
                exact ⟨(k, i1, _), ⟨by dsimp only; rw [show ((5 - k : Nat) : Int) = ((5 - (k + 1) : Nat) : Int) + 1 by omega]; rfl, rfl, rfl, rfl, rfl, trivial⟩, ⟨u6, hs6, by dsimp only; omega, by dsimp only; omega, by dsimp only; omega, hT⟩, by dsimp only; omega⟩
            · have hT := hfd d2 (fun h => absurd h hB) (fun _ => hfx)
              exfalso; omega
end Go.AX.Try
