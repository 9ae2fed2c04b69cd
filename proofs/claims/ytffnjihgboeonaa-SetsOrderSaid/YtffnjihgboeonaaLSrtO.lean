/- SetsOrder. -/
import Derived.Test.YtffnjihgboeonaaLSrtN
namespace Go.AX.Try
open Go Go.AX Go.AX.Lw Go.Proofs
set_option linter.unusedVariables false
set_option linter.unusedSimpArgs false
set_option maxRecDepth 100000
theorem copySets_any (H : AHeap) (hw : Wf H) (a : Option Addr) (n c : Nat) (l : List Nat) (hl : Row H a n c (nums l)) (hn : n ≤ 2 ^ 40) :
    Does Try.prog orc 7 [.slice a n c] H fun r H' => ∃ a', r = .ret (.slice a' n n) ∧ Ext H H' ∧ Wf H' ∧ ((n = 0 ∧ ∃ b, a' = some ⟨b, 0, none⟩ ∧ H.next ≤ b ∧ H'.get b = some (.cells [] 0 true)) ∨ (n ≠ 0 ∧ ∃ b, a' = some ⟨b, 0, some 0⟩ ∧ H.next ≤ b ∧ H'.get b = some (.cells (nums l) (rowV 27 1) true))) := by
  have h1 := hl.len; simp at h1
  have hc1 := hl.cap
  refine Does.of Try.func7 (fun _ _ => rfl) rfl ?_
  obtain ⟨Z, hZ⟩ : ∃ Z, Z = H.push (.cells [] 0 true) := ⟨_, rfl⟩
  have gZ : Z.get H.next = some (.cells [] 0 true) := by rw [hZ, get_new]
  have eZ : Ext H Z := by rw [hZ]; exact Ext.push _ _
  have wZ : Wf Z := by rw [hZ]; exact hw.push _
  have hsrc := (hl.ext hw eZ).src
  by_cases h0 : n = 0
  · have happ : aAppend Try.prog Z #[22, 22] [.slice (some ⟨H.next, 0, none⟩) 0 0, .slice a n c] = some (.val (.slice (some ⟨H.next, 0, none⟩) 0 0) (Z.set H.next (.cells [] 0 true)) (.eff Z (Z.set H.next (.cells [] 0 true)))) := by
      rw [append_eq u64Ty hsrc, h0, show nums l = [] by rw [List.eq_nil_of_length_eq_zero (by omega : l.length = 0)]; rfl]
      unfold aAppendTo
      simp only [gZ]
      rfl
    rw [hZ] at happ
    repeat' ((conv => whnf); first
      | (refine Both.intro ?_ ?_ <;> intro _ <;> try (exfalso; omega))
      | (refine Need.intro (by omega) ?_)
      | (refine ⟨[], by kernel_rfl, ?_⟩)
      | (refine Outs.intro ⟨_, _, _, happ, ?_⟩)
      | fail)
    all_goals (conv => whnf)
    exact ⟨_, by rw [h0]; rfl, (Ext.push _ _).set (Nat.le_refl _) _, (hw.push _).set (get_new _ _) _, .inl ⟨h0, _, rfl, Nat.le_refl _, by rw [AHeap.get_set, if_pos rfl]⟩⟩
  · have happ : aAppend Try.prog Z #[22, 22] [.slice (some ⟨H.next, 0, none⟩) 0 0, .slice a n c] = some (.val (.slice (some ⟨Z.next, 0, some 0⟩) n n) (Z.push (.cells (nums l) (rowV 27 1) true)) (.eff Z (Z.push (.cells (nums l) (rowV 27 1) true)))) := by
      rw [append_eq u64Ty hsrc]
      unfold aAppendTo
      have c1 : (Nat.ble ((0 + n) * 8) (2 ^ 47) && Nat.ble (0 + n) (2 ^ 47) && Nat.beq (nums l).length (n * 1) && Nat.ble 0 0 && allOne (nums l)) = true := by
        rw [nums_one, show (nums l).length = n by simp [nums, h1], Nat.mul_one, nbeq, nble (by omega), nble (by omega)]; rfl
      simp only [c1, cond_true]
      rw [nble_no (show ¬ 0 + n ≤ 0 by omega)]
      simp only [cond_false, Nat.zero_add]
      rfl
    rw [hZ] at happ
    repeat' ((conv => whnf); first
      | (refine Both.intro ?_ ?_ <;> intro _ <;> try (exfalso; omega))
      | (refine Need.intro (by omega) ?_)
      | (refine ⟨[], by kernel_rfl, ?_⟩)
      | (refine Outs.intro ⟨_, _, _, happ, ?_⟩)
      | fail)
    all_goals (conv => whnf)
    exact ⟨_, rfl, (Ext.push _ _).trans (Ext.push _ _), (hw.push _).push _, .inr ⟨h0, _, rfl, by simp, get_new _ _⟩⟩
theorem swp_perm (d : Array Nat) (i j : Nat) (hi : i < d.size) (hj : j < d.size) : (Go.Sort.swp d i j).toList.Perm d.toList := by
  have h := (Go.Sort.swp_permIn d 0 d.size i j (Nat.zero_le _) hi (Nat.zero_le _) hj (Nat.le_refl _)).2.2
  have e1 : (Go.Sort.swp d i j).extract 0 d.size = Go.Sort.swp d i j := by
    have := Array.extract_size (xs := Go.Sort.swp d i j)
    rwa [swp_size] at this
  have e2 : d.extract 0 d.size = d := Array.extract_size
  rwa [e1, e2] at h
theorem pick_any (H : AHeap) (x : Int) (n : Nat) (hn : 1 ≤ n ∧ n ≤ 2 ^ 40) : Does Try.prog orc 8 [.int .i64 x, .int .i64 n] H fun r H' => ∃ k : Nat, r = .ret (.int .i64 k) ∧ k < n ∧ H = H' := by
  refine Does.of Try.func8 (fun _ _ => rfl) rfl ?_
  have h1 := Int.tmod_lt_of_pos x (show (0 : Int) < n by omega)
  have h2 : -(n : Int) < x.tmod n := by
    have := Int.lt_tmod_of_pos x (show (0 : Int) < n by omega)
    omega
  have hrem : aInt .rem .i64 x n = some (.int .i64 (x.tmod n)) := by
    simp only [aInt]
    rw [if_neg (by omega)]
  obtain ⟨y, hy⟩ : ∃ y, y = x.tmod n := ⟨_, rfl⟩
  rw [← hy] at h1 h2 hrem
  repeat' ((conv => whnf); first
    | (refine Both.intro ?_ ?_ <;> intro _ <;> try (exfalso; omega))
    | (refine Need.intro (by omega) ?_)
    | (refine Gives.intro ⟨_, hrem, ?_⟩)
    | fail)
  all_goals (conv => whnf)
  · exact ⟨(y + n).toNat, by rw [Int.toNat_of_nonneg (by omega)]; rfl, by omega, rfl⟩
  · exact ⟨y.toNat, by rw [Int.toNat_of_nonneg (by omega)]; rfl, by omega, rfl⟩
theorem remI {z : Int} {x y : Nat} (hz : z = x) (hy : 1 ≤ y) : aInt .rem .i64 z (y : Int) = some (.int .i64 ((x % y : Nat) : Int)) := by
  subst hz
  unfold aInt
  simp only
  rw [if_neg (by omega), Int.tmod_eq_emod_of_nonneg (by omega), ← Int.natCast_emod]
theorem setsOrder_any (H : AHeap) (hw : Wf H) (a a' : Option Addr) (n n' c c' : Nat) (l : List Nat) (o : List Int) (hr : Row H a n c (nums l)) (hr' : Row H a' n' c' (o.map (.int .i64))) (hl : Small l) :
    Does Try.prog orc 3 [.slice a n c, .slice a' n' c'] H fun r H' => r = .ret (.bool true) := by
  have h1 := hr.len; simp at h1
  have h2 := hr'.len; simp at h2
  have hc1 := hr.cap
  have hc2 := hr'.cap
  refine Does.of Try.func3 (fun _ _ => rfl) rfl ?_
  by_cases h30 : n ≤ 30
  · by_cases h0 : n = 0
    · have hl0 : l = [] := List.eq_nil_of_length_eq_zero (by omega)
      repeat' ((conv => whnf); first
        | (refine Both.intro ?_ ?_ <;> intro _ <;> try (exfalso; omega))
        | (refine Need.intro (by omega) ?_)
        | (refine Does.mono (awake10_any H) ?_ ; rintro _ _ ⟨rfl, rfl⟩)
        | (refine Does.mono (copySets_any H hw a n c l hr (by omega)) ?_ ; rintro _ H1 ⟨a1, rfl, e1, w1, hh⟩)
        | fail)
      all_goals (conv => whnf)
      obtain ⟨-, b, rfl, hb, g1⟩ := hh.resolve_right (fun h => h.1 h0)
      have hsrc := (hr.ext hw e1).src
      have happ : aAppend Try.prog H1 #[22, 22] [.slice (some ⟨b, 0, none⟩) 0 0, .slice a 0 c] = some (.val (.slice (some ⟨b, 0, none⟩) 0 0) (H1.set b (.cells [] 0 true)) (.eff H1 (H1.set b (.cells [] 0 true)))) := by
        rw [h0, hl0] at hsrc
        rw [append_eq u64Ty hsrc]
        unfold aAppendTo
        simp only [g1]
        rfl
      subst h0
      refine Runs.loop (fun s : Unit => [(7, .int .i64 0), (6, .slice (some ⟨b, 0, none⟩) 0 0), (5, .bool true), (0, .slice a 0 c), (1, .slice a' n' c')]) (fun s H' => H1 = H') (fun _ => 0) () ⟨rfl, rfl, rfl, rfl, rfl, trivial⟩ rfl ?_
      rintro _ _ rfl
      have w2 := w1.set g1 (.cells [] 0 true)
      have e2 : Ext H (H1.set b (.cells [] 0 true)) := e1.set hb _
      have sv : SetV (H1.set b (.cells [] 0 true)) (.slice (some ⟨b, 0, none⟩) 0 0) [] := ⟨_, _, _, rfl, rfl, Nat.le_refl _, by simp⟩
      have l0 : (leastF ([] : List Nat)).length ≤ 0 := least_len []
      subst hl0
      repeat' ((conv => whnf); first
        | (refine Both.intro ?_ ?_ <;> intro _ <;> try (exfalso; omega))
        | (refine Need.intro (by omega) ?_)
        | (refine Outs.intro ⟨_, _, _, happ, ?_⟩)
        | (refine Does.mono (leastV _ w2 _ [] sv (by simp) (by intro x hx; simp at hx)) ?_ ; rintro _ H10 ⟨a10, n10, c10, rfl, r10, e10, w10⟩)
        | (refine Does.mono (leastV H10 w10 _ [] ⟨_, _, _, rfl, hr.ext hw (e2.trans e10)⟩ (by simp) (by intro x hx; simp at hx)) ?_ ; rintro _ H11 ⟨a11, n11, c11, rfl, r11, e11, w11⟩)
        | (refine Does.mono (sameT H11 _ _ _ _ ⟨_, _, _, rfl, r10.ext w10 e11⟩ ⟨_, _, _, rfl, r11⟩ (by omega) rfl) ?_ ; rintro _ _ ⟨rfl, rfl⟩)
        | (refine Need.intro (DrawP.intro (by kernel_rfl)) ?_)
        | fail)
      all_goals (conv => whnf)
      all_goals rfl
    · skip
      repeat' ((conv => whnf); first
        | (refine Both.intro ?_ ?_ <;> intro _ <;> try (exfalso; omega))
        | (refine Need.intro (by omega) ?_)
        | (refine Does.mono (awake10_any H) ?_ ; rintro _ _ ⟨rfl, rfl⟩)
        | (refine Does.mono (copySets_any H hw a n c l hr (by omega)) ?_ ; rintro _ H1 ⟨a1, rfl, e1, w1, hh⟩)
        | fail)
      all_goals (conv => whnf)
      have hh' := hh.resolve_left (fun h => h0 h.1)
      obtain ⟨-, b, rfl, hb, g1⟩ := hh'
      have ar1 : Arr H1 b (rowV 27 1) l.toArray := by unfold Arr; rw [nums_arr]; exact g1
      refine Runs.loop (fun s : Nat × Array Nat => [(7, .int .i64 (s.1 : Nat)), (6, .slice (some ⟨b, 0, some 0⟩) n n), (5, .bool true), (0, .slice a n c), (1, .slice a' n' c')])
        (fun s H' => Upd b (rowV 27 1) H1 H' s.2 ∧ s.2.size = n ∧ s.2.toList.Perm l ∧ s.1 ≤ 60) (fun s => 60 - s.1) (0, l.toArray) ⟨rfl, rfl, rfl, rfl, rfl, trivial⟩ ⟨Upd.refl ar1 w1, by rw [h1]; rfl, List.Perm.refl _, Nat.zero_le _⟩ ?_
      rintro ⟨i, d⟩ H2 ⟨up, hs, hp, hi⟩
      dsimp only at up hs hp hi
      show vc _ _ _ _ _ [(7, .int .i64 (i : Nat)), (6, .slice (some ⟨b, 0, some 0⟩) n n), (5, .bool true), (0, .slice a n c), (1, .slice a' n' c')] _ _
      have e2 : Ext H H2 := up.ext e1 hb
      by_cases hgo : i < n' ∧ i < 60
      · obtain ⟨hgo1, hgo2⟩ := hgo
        obtain ⟨z, hz⟩ := get_of (l := o) (k := i) (by omega)
        obtain ⟨b', o', st', hab', hcell⟩ := (hr'.ext hw e2).cell i (.int .i64 z) (by rw [List.getElem?_map, hz]; rfl)
        subst hab'
        have hmod : i % n < n := Nat.mod_lt _ (by omega)
        obtain ⟨im, him⟩ : ∃ im, im = i % n := ⟨_, rfl⟩
        have him2 : im < n := by rw [him]; exact hmod
        have hrem : aInt .rem .i64 (i : Int) (n : Int) = some (.int .i64 (im : Int)) := by rw [him]; exact remI rfl (by omega)
        repeat' ((conv => whnf); first
          | (refine Both.intro ?_ ?_ <;> intro _ <;> try (exfalso; omega))
          | (refine Need.intro (by omega) ?_)
          | (refine Gives.intro ⟨_, hrem, ?_⟩)
          | (refine ⟨_, hcell, ?_⟩)
          | (refine Does.mono (pick_any H2 z n (by omega)) ?_ ; rintro _ _ ⟨p, rfl, hpn, rfl⟩)
          | (refine Need.intro (DrawP.intro (by kernel_rfl)) ?_)
          | (refine Need.intro (draw_mix ⟨lookMix_same, True.intro⟩) ?_)
          | (refine ⟨_, up.arr.cellI (i := im) (by omega) (by omega), ?_⟩)
          | (refine ⟨_, up.arr.cellI (i := p) (by omega) (by omega), ?_⟩)
          | (refine Outs.intro ⟨_, _, _, up.arr.store (i := im) _ (by omega) (by omega), ?_⟩)
          | (refine Outs.intro ⟨_, _, _, (up.set _).arr.store (i := p) _ (by omega) (by rw [Array.size_setIfInBounds]; omega), ?_⟩)
          | (refine Need.intro (draw_mix ⟨⟨.inl (by kernel_rfl), .inl (by kernel_rfl), True.intro⟩, ⟨.inl (by kernel_rfl), .inl (by kernel_rfl), True.intro⟩, True.intro⟩) ?_)
          | fail)
        all_goals (conv => whnf)
        exact ⟨(i + 1, Go.Sort.swp d im p), ⟨rfl, rfl, rfl, rfl, rfl, trivial⟩, ⟨((up.set (d.setIfInBounds (im) d[p]!)).set (Go.Sort.swp d (im) (p))), by dsimp only; rw [swp_size]; exact hs, (swp_perm d im p (by omega) (by omega)).trans hp, by dsimp only; omega⟩, by dsimp only; omega⟩
      · have hlen5 : (nums d.toList).length = n := by simp [nums, hs]
        have hg : Grown H H2 (rowV 27 1) (.slice (some ⟨b, 0, some 0⟩) n n) (nums d.toList) := .inr ⟨b, by rw [show (nums d.toList).length = n by simp [nums, hs]], up.arr, hb, fun hc => h0 (by rw [hc] at hlen5; exact hlen5.symm)⟩
        have hlen4 : (nums d.toList).length = n := by simp [nums, hs]
        obtain ⟨v', H9, ev, happ, gr9, e9, w9⟩ := grown_ok e2 up.wf u64Ty hg (hr.ext hw e2).src (by simp [nums, h1]) (nums_one l) h0 (by omega) (by omega)
        obtain ⟨av, hv9, rv9⟩ := gr9.row
        have sv : SetV H9 v' (d.toList ++ l) := ⟨av, _, _, hv9, by unfold nums at rv9 ⊢; rw [List.map_append]; exact rv9⟩
        have hsm : Small (d.toList ++ l) := fun x hx => by
          rcases List.mem_append.1 hx with h | h
          · exact hl x (hp.mem_iff.1 h)
          · exact hl x h
        have hll := least_len (d.toList ++ l)
        have hdl : (d.toList ++ l).length ≤ 60 := by rw [List.length_append, hp.length_eq]; omega
        have heq : leastF (d.toList ++ l) = leastF l := least_eq fun s => by
          rw [up_app]
          constructor
          · rintro (⟨x, h3, h4⟩ | h)
            · exact ⟨x, hp.mem_iff.1 h3, h4⟩
            · exact h
          · exact .inr
        repeat' ((conv => whnf); first
          | (refine Both.intro ?_ ?_ <;> intro _ <;> try (exfalso; omega))
          | (refine Need.intro (by omega) ?_)
          | (refine Outs.intro ⟨_, _, _, happ, ?_⟩)
          | (refine Does.mono (leastV H9 w9 v' _ sv (by omega) hsm) ?_ ; rintro _ H10 ⟨a10, n10, c10, rfl, r10, e10, w10⟩)
          | (refine Does.mono (leastV H10 w10 _ l ⟨_, _, _, rfl, hr.ext hw (e9.trans e10)⟩ (by omega) hl) ?_ ; rintro _ H11 ⟨a11, n11, c11, rfl, r11, e11, w11⟩)
          | (refine Does.mono (sameT H11 _ _ _ _ ⟨_, _, _, rfl, r10.ext w10 e11⟩ ⟨_, _, _, rfl, r11⟩ (by omega) heq) ?_ ; rintro _ _ ⟨rfl, rfl⟩)
          | (refine Need.intro (DrawP.intro (by kernel_rfl)) ?_)
          | fail)
        all_goals (conv => whnf)
        all_goals rfl
  · skip
    repeat' ((conv => whnf); first
      | (refine Both.intro ?_ ?_ <;> intro _ <;> try (exfalso; omega))
      | (refine Need.intro (by omega) ?_)
      | (refine Does.mono (awake10_any H) ?_ ; rintro _ _ ⟨rfl, rfl⟩)
      | fail)
    all_goals (conv => whnf)
    rfl
end Go.AX.Try
