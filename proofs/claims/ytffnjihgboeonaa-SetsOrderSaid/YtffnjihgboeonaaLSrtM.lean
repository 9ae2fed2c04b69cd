/- The statements of layer 10. -/
import Derived.Test.YtffnjihgboeonaaLSrtL
namespace Go.AX.Try
open Go Go.AX Go.AX.Lw Go.Proofs
set_option linter.unusedVariables false
set_option linter.unusedSimpArgs false
set_option maxRecDepth 100000
theorem small_any (H : AHeap) (a : Option Addr) (k c : Nat) (vs : List (Option Addr × Nat × Nat)) (hr : Row H a k c (vs.map fun v => Value.slice v.1 v.2.1 v.2.2)) (hk : k ≤ 3) :
    Does Try.prog orc 11 [.slice a k c] H fun r H' => r = .ret (.bool (vs.all fun v => decide (v.2.1 ≤ 9))) ∧ H = H' := by
  have h1 := hr.len; simp at h1
  have hcap := hr.cap
  refine Does.of Try.func11 (fun _ _ => rfl) rfl ?_
  repeat' ((conv => whnf); first
    | (refine Both.intro ?_ ?_ <;> intro _ <;> try (exfalso; omega))
    | (refine Need.intro (by omega) ?_)
    | fail)
  all_goals (conv => whnf)
  refine Runs.loop (fun j : Nat => [(3, .int .i64 j), (0, .slice a k c)]) (fun j H' => H = H' ∧ j ≤ k ∧ (vs.take j).all (fun v => decide (v.2.1 ≤ 9)) = true) (fun j => k - j) 0 ⟨rfl, rfl, trivial⟩ ⟨rfl, Nat.zero_le _, rfl⟩ ?_
  rintro j _ ⟨rfl, hj, hall⟩
  by_cases hlt : j < k
  · obtain ⟨⟨va, vn, vc⟩, hv⟩ := get_of (l := vs) (k := j) (by omega)
    obtain ⟨b, o, st, rfl, hcell⟩ := hr.cell j (.slice va vn vc) (by rw [List.getElem?_map, hv]; rfl)
    by_cases h9 : vn ≤ 9
    · skip
      repeat' ((conv => whnf); first
        | (refine Both.intro ?_ ?_ <;> intro _ <;> try (exfalso; omega))
        | (refine Need.intro (by omega) ?_)
        | (refine ⟨_, hcell, ?_⟩)
        | (refine Need.intro (DrawP.intro (by kernel_rfl)) ?_)
        | fail)
      all_goals (conv => whnf)
      exact ⟨j + 1, ⟨rfl, rfl, trivial⟩, ⟨rfl, by omega, by rw [List.take_add_one, hv, List.all_append, hall]; simp [h9]⟩, by omega⟩
    · have : (vs.all fun v => decide (v.2.1 ≤ 9)) = false := by
        cases hb : (vs.all fun v => decide (v.2.1 ≤ 9)) with
        | false => rfl
        | true => exact absurd (of_decide_eq_true (List.all_eq_true.1 hb _ (List.mem_of_getElem? hv))) h9
      rw [this]
      repeat' ((conv => whnf); first
        | (refine Both.intro ?_ ?_ <;> intro _ <;> try (exfalso; omega))
        | (refine Need.intro (by omega) ?_)
        | (refine ⟨_, hcell, ?_⟩)
        | (refine Need.intro (DrawP.intro (by kernel_rfl)) ?_)
        | fail)
      all_goals (conv => whnf)
      exact ⟨rfl, rfl⟩
  · obtain rfl : j = k := by omega
    rw [h1, List.take_length] at hall
    rw [hall]
    repeat' ((conv => whnf); first
      | (refine Both.intro ?_ ?_ <;> intro _ <;> try (exfalso; omega))
      | (refine Need.intro (by omega) ?_)
      | fail)
    all_goals (conv => whnf)
    exact ⟨rfl, rfl⟩
theorem checkT (H : AHeap) (hw : Wf H) (v : Value) (l : List Nat) (hv : SetV H v (leastF l)) (hn : (leastF l).length ≤ 4096) (hx : Small (leastF l)) :
    Does Try.prog orc 16 [v] H fun r H' => r = .ret (.bool true) ∧ Ext H H' ∧ Wf H' :=
  (Check_any H hw v (leastF l) hv hn hx).mono fun r H' ⟨b, h1, h2, h3, h4⟩ => ⟨by rw [h1, h2.2 (least_idem l).symm], h3, h4⟩
theorem sameT (H : AHeap) (v u : Value) (l m : List Nat) (hv : SetV H v l) (hu : SetV H u m) (hn : l.length ≤ 4096) (he : l = m) :
    Does Try.prog orc 9 [v, u] H fun r H' => r = .ret (.bool true) ∧ H = H' :=
  (Same_any H v u l m hv hu hn (he ▸ hn)).mono fun r H' ⟨b, h1, h2, h3⟩ => ⟨by rw [h1, h2.2 he], h3⟩
theorem holdsB (H : AHeap) (hw : Wf H) (v : Value) (l : List Nat) (hv : SetV H v l) (hn : l.length ≤ 4096) (hx : Small l) (s : Nat) (hs : s < 18446744073709551616) (b : Bool) (hb : b = true ↔ Up l s) :
    Does Try.prog orc 15 [v, .int .u64 s] H fun r H' => r = .ret (.bool b) ∧ Ext H H' ∧ Wf H' :=
  (Holds_any H hw v l hv hn hx s hs).mono fun r H' ⟨h1, h2, h3⟩ => ⟨by rw [h1, Bool.eq_iff_iff.2 ((any_up l s).trans hb.symm)], h2, h3⟩
theorem setsMean_any (H : AHeap) (hw : Wf H) (a a' : Option Addr) (n n' c c' : Nat) (l m : List Nat) (hr : Row H a n c (nums l)) (hr' : Row H a' n' c' (nums m)) (hl : Small l) (hm : Small m) (s : Nat) (hs : s < 18446744073709551616) :
    Does Try.prog orc 5 [.slice a n c, .slice a' n' c', .int .u64 s] H fun r H' => r = .ret (.bool true) := by
  have h1 := hr.len; simp at h1
  have h2 := hr'.len; simp at h2
  refine Does.of Try.func5 (fun _ _ => rfl) rfl ?_
  have hbs : aBuildSlice Try.prog 42 2 [(0, .slice a n c), (1, .slice a' n' c')] = mkSlice [.slice a n c, .slice a' n' c'] 2 2 := by kernel_rfl
  have hsm := small_any (H.push (.cells [.slice a n c, .slice a' n' c'] 0 true)) (some ⟨H.next, 0, none⟩) 2 2 [(a, n, c), (a', n', c')] (Row.of_block (get_new _ _) rfl (Nat.le_refl _) (List.prefix_refl _)) (by decide)
  by_cases h9 : n ≤ 9 ∧ n' ≤ 9
  · have hb9 : ([(a, n, c), (a', n', c')].all fun v => decide (v.2.1 ≤ 9)) = true := by simp [h9.1, h9.2]
    rw [hb9] at hsm
    obtain ⟨Z, hZ⟩ : ∃ Z, Z = H.push (.cells [.slice a n c, .slice a' n' c'] 0 true) := ⟨_, rfl⟩
    have eZ : Ext H Z := by rw [hZ]; exact Ext.push _ _
    have wZ : Wf Z := by rw [hZ]; exact hw.push _
    have sa : ∀ X, Ext H X → SetV X (.slice a n c) l := fun X e => ⟨_, _, _, rfl, hr.ext hw e⟩
    have sb : ∀ X, Ext H X → SetV X (.slice a' n' c') m := fun X e => ⟨_, _, _, rfl, hr'.ext hw e⟩
    have q1 := or_len l m
    have q2 := and_len l m
    have q3 := least_len l
    have q4 := least_len (leastF l)
    have hprod : l.length * m.length ≤ 81 := Nat.le_trans (Nat.mul_le_mul (by omega : l.length ≤ 9) (by omega : m.length ≤ 9)) (by decide)
    have hprod' : l.length * m.length ≤ 1024 := by omega
    have hpq : ∀ (p q : Bool), (p = true ↔ Up l s) → (q = true ↔ Up m s) → ((p || q) = true ↔ Up (orF l m) s) ∧ ((p && q) = true ↔ Up (andF l m) s) ∧ (p = true ↔ Up (leastF l) s) := fun p q h h' => ⟨by rw [up_or, ← h, ← h', Bool.or_eq_true], by rw [up_and, ← h, ← h', Bool.and_eq_true], by rw [up_least, ← h]⟩
    have hp := any_up l s
    have hq := any_up m s
    obtain ⟨p, hpd⟩ : ∃ p, p = (l.any fun x => decide (Sub x s)) := ⟨_, rfl⟩
    obtain ⟨q, hqd⟩ : ∃ q, q = (m.any fun x => decide (Sub x s)) := ⟨_, rfl⟩
    rw [← hpd] at hp
    rw [← hqd] at hq
    obtain ⟨hor, han, hle⟩ := hpq p q hp hq
    clear hpd hqd
    rw [← hZ] at hsm
    cases p <;> cases q
    · skip
      repeat' ((conv => whnf); first
        | (refine Both.intro ?_ ?_ <;> intro _ <;> try (exfalso; omega))
        | (refine Need.intro (by omega) ?_)
        | (refine Does.mono (awake10_any H) ?_ ; rintro _ _ ⟨rfl, rfl⟩)
        | (refine ⟨_, hbs, ?_⟩)
        | (rw [← hZ] ; refine Does.mono hsm ?_ ; rintro _ _ ⟨rfl, rfl⟩)
        | (refine Does.mono (Or_any Z wZ _ _ l m (sa Z eZ) (sb Z eZ) (by omega) hl hm) ?_ ; rintro _ H1 ⟨a1, n1, c1, rfl, r1, e1, w1⟩)
        | (refine Does.mono (And_any H1 w1 _ _ l m (sa H1 (eZ.trans e1)) (sb H1 (eZ.trans e1)) hprod' (by omega) (by omega) hl hm) ?_ ; rintro _ H2 ⟨a2, n2, c2, rfl, r2, e2, w2⟩)
        | (refine Does.mono (leastV H2 w2 _ l (sa H2 (eZ.trans (e1.trans e2))) (by omega) hl) ?_ ; rintro _ H3 ⟨a3, n3, c3, rfl, r3, e3, w3⟩)
        | (refine Does.mono (holdsB H3 w3 _ l (sa H3 (eZ.trans ((e1.trans e2).trans e3))) (by omega) hl s hs false hp) ?_ ; rintro _ H4 ⟨rfl, e4, w4⟩)
        | (refine Does.mono (holdsB H4 w4 _ m (sb H4 (eZ.trans (((e1.trans e2).trans e3).trans e4))) (by omega) hm s hs false hq) ?_ ; rintro _ H5 ⟨rfl, e5, w5⟩)
        | (refine Does.mono (holdsB H5 w5 _ (orF l m) (SetV.ext ⟨_, _, _, rfl, r1⟩ w1 (((e2.trans e3).trans e4).trans e5)) (by omega) (small_or hl hm) s hs false hor) ?_ ; rintro _ H6 ⟨rfl, e6, w6⟩)
        | (refine Does.mono (holdsB H6 w6 _ (andF l m) (SetV.ext ⟨_, _, _, rfl, r2⟩ w2 (((e3.trans e4).trans e5).trans e6)) (by omega) (small_and hl hm) s hs false han) ?_ ; rintro _ H7 ⟨rfl, e7, w7⟩)
        | (refine Does.mono (holdsB H7 w7 _ (leastF l) (SetV.ext ⟨_, _, _, rfl, r3⟩ w3 (((e4.trans e5).trans e6).trans e7)) (by omega) (small_least hl) s hs false hle) ?_ ; rintro _ H8 ⟨rfl, e8, w8⟩)
        | (refine Does.mono (checkT H8 w8 _ (l ++ m) (SetV.ext ⟨_, _, _, rfl, r1⟩ w1 ((((((e2.trans e3).trans e4).trans e5).trans e6).trans e7).trans e8)) (show (orF l m).length ≤ 4096 by omega) (small_or hl hm)) ?_ ; rintro _ H9 ⟨rfl, e9, w9⟩)
        | (refine Does.mono (checkT H9 w9 _ (prodF l m) (SetV.ext ⟨_, _, _, rfl, r2⟩ w2 ((((((e3.trans e4).trans e5).trans e6).trans e7).trans e8).trans e9)) (show (andF l m).length ≤ 4096 by omega) (small_and hl hm)) ?_ ; rintro _ H10 ⟨rfl, e10, w10⟩)
        | (refine Does.mono (checkT H10 w10 _ l (SetV.ext ⟨_, _, _, rfl, r3⟩ w3 ((((((e4.trans e5).trans e6).trans e7).trans e8).trans e9).trans e10)) (by omega) (small_least hl)) ?_ ; rintro _ H11 ⟨rfl, e11, w11⟩)
        | (refine Does.mono (leastV H11 w11 _ (leastF l) (SetV.ext ⟨_, _, _, rfl, r3⟩ w3 (((((((e4.trans e5).trans e6).trans e7).trans e8).trans e9).trans e10).trans e11)) (by omega) (small_least hl)) ?_ ; rintro _ H12 ⟨a12, n12, c12, rfl, r12, e12, w12⟩)
        | (refine Does.mono (sameT H12 _ _ _ _ ⟨_, _, _, rfl, r12⟩ (SetV.ext ⟨_, _, _, rfl, r3⟩ w3 ((((((((e4.trans e5).trans e6).trans e7).trans e8).trans e9).trans e10).trans e11).trans e12)) (by omega) (least_idem l)) ?_ ; rintro _ _ ⟨rfl, rfl⟩)
        | (refine Need.intro (DrawP.intro (by kernel_rfl)) ?_)
        | (refine Gives.intro ⟨.bool false, by kernel_rfl, ?_⟩)
        | fail)
      all_goals (conv => whnf)
      rfl
    · skip
      repeat' ((conv => whnf); first
        | (refine Both.intro ?_ ?_ <;> intro _ <;> try (exfalso; omega))
        | (refine Need.intro (by omega) ?_)
        | (refine Does.mono (awake10_any H) ?_ ; rintro _ _ ⟨rfl, rfl⟩)
        | (refine ⟨_, hbs, ?_⟩)
        | (rw [← hZ] ; refine Does.mono hsm ?_ ; rintro _ _ ⟨rfl, rfl⟩)
        | (refine Does.mono (Or_any Z wZ _ _ l m (sa Z eZ) (sb Z eZ) (by omega) hl hm) ?_ ; rintro _ H1 ⟨a1, n1, c1, rfl, r1, e1, w1⟩)
        | (refine Does.mono (And_any H1 w1 _ _ l m (sa H1 (eZ.trans e1)) (sb H1 (eZ.trans e1)) hprod' (by omega) (by omega) hl hm) ?_ ; rintro _ H2 ⟨a2, n2, c2, rfl, r2, e2, w2⟩)
        | (refine Does.mono (leastV H2 w2 _ l (sa H2 (eZ.trans (e1.trans e2))) (by omega) hl) ?_ ; rintro _ H3 ⟨a3, n3, c3, rfl, r3, e3, w3⟩)
        | (refine Does.mono (holdsB H3 w3 _ l (sa H3 (eZ.trans ((e1.trans e2).trans e3))) (by omega) hl s hs false hp) ?_ ; rintro _ H4 ⟨rfl, e4, w4⟩)
        | (refine Does.mono (holdsB H4 w4 _ m (sb H4 (eZ.trans (((e1.trans e2).trans e3).trans e4))) (by omega) hm s hs true hq) ?_ ; rintro _ H5 ⟨rfl, e5, w5⟩)
        | (refine Does.mono (holdsB H5 w5 _ (orF l m) (SetV.ext ⟨_, _, _, rfl, r1⟩ w1 (((e2.trans e3).trans e4).trans e5)) (by omega) (small_or hl hm) s hs true hor) ?_ ; rintro _ H6 ⟨rfl, e6, w6⟩)
        | (refine Does.mono (holdsB H6 w6 _ (andF l m) (SetV.ext ⟨_, _, _, rfl, r2⟩ w2 (((e3.trans e4).trans e5).trans e6)) (by omega) (small_and hl hm) s hs false han) ?_ ; rintro _ H7 ⟨rfl, e7, w7⟩)
        | (refine Does.mono (holdsB H7 w7 _ (leastF l) (SetV.ext ⟨_, _, _, rfl, r3⟩ w3 (((e4.trans e5).trans e6).trans e7)) (by omega) (small_least hl) s hs false hle) ?_ ; rintro _ H8 ⟨rfl, e8, w8⟩)
        | (refine Does.mono (checkT H8 w8 _ (l ++ m) (SetV.ext ⟨_, _, _, rfl, r1⟩ w1 ((((((e2.trans e3).trans e4).trans e5).trans e6).trans e7).trans e8)) (show (orF l m).length ≤ 4096 by omega) (small_or hl hm)) ?_ ; rintro _ H9 ⟨rfl, e9, w9⟩)
        | (refine Does.mono (checkT H9 w9 _ (prodF l m) (SetV.ext ⟨_, _, _, rfl, r2⟩ w2 ((((((e3.trans e4).trans e5).trans e6).trans e7).trans e8).trans e9)) (show (andF l m).length ≤ 4096 by omega) (small_and hl hm)) ?_ ; rintro _ H10 ⟨rfl, e10, w10⟩)
        | (refine Does.mono (checkT H10 w10 _ l (SetV.ext ⟨_, _, _, rfl, r3⟩ w3 ((((((e4.trans e5).trans e6).trans e7).trans e8).trans e9).trans e10)) (by omega) (small_least hl)) ?_ ; rintro _ H11 ⟨rfl, e11, w11⟩)
        | (refine Does.mono (leastV H11 w11 _ (leastF l) (SetV.ext ⟨_, _, _, rfl, r3⟩ w3 (((((((e4.trans e5).trans e6).trans e7).trans e8).trans e9).trans e10).trans e11)) (by omega) (small_least hl)) ?_ ; rintro _ H12 ⟨a12, n12, c12, rfl, r12, e12, w12⟩)
        | (refine Does.mono (sameT H12 _ _ _ _ ⟨_, _, _, rfl, r12⟩ (SetV.ext ⟨_, _, _, rfl, r3⟩ w3 ((((((((e4.trans e5).trans e6).trans e7).trans e8).trans e9).trans e10).trans e11).trans e12)) (by omega) (least_idem l)) ?_ ; rintro _ _ ⟨rfl, rfl⟩)
        | (refine Need.intro (DrawP.intro (by kernel_rfl)) ?_)
        | (refine Gives.intro ⟨.bool false, by kernel_rfl, ?_⟩)
        | fail)
      all_goals (conv => whnf)
      rfl
    · skip
      repeat' ((conv => whnf); first
        | (refine Both.intro ?_ ?_ <;> intro _ <;> try (exfalso; omega))
        | (refine Need.intro (by omega) ?_)
        | (refine Does.mono (awake10_any H) ?_ ; rintro _ _ ⟨rfl, rfl⟩)
        | (refine ⟨_, hbs, ?_⟩)
        | (rw [← hZ] ; refine Does.mono hsm ?_ ; rintro _ _ ⟨rfl, rfl⟩)
        | (refine Does.mono (Or_any Z wZ _ _ l m (sa Z eZ) (sb Z eZ) (by omega) hl hm) ?_ ; rintro _ H1 ⟨a1, n1, c1, rfl, r1, e1, w1⟩)
        | (refine Does.mono (And_any H1 w1 _ _ l m (sa H1 (eZ.trans e1)) (sb H1 (eZ.trans e1)) hprod' (by omega) (by omega) hl hm) ?_ ; rintro _ H2 ⟨a2, n2, c2, rfl, r2, e2, w2⟩)
        | (refine Does.mono (leastV H2 w2 _ l (sa H2 (eZ.trans (e1.trans e2))) (by omega) hl) ?_ ; rintro _ H3 ⟨a3, n3, c3, rfl, r3, e3, w3⟩)
        | (refine Does.mono (holdsB H3 w3 _ l (sa H3 (eZ.trans ((e1.trans e2).trans e3))) (by omega) hl s hs true hp) ?_ ; rintro _ H4 ⟨rfl, e4, w4⟩)
        | (refine Does.mono (holdsB H4 w4 _ m (sb H4 (eZ.trans (((e1.trans e2).trans e3).trans e4))) (by omega) hm s hs false hq) ?_ ; rintro _ H5 ⟨rfl, e5, w5⟩)
        | (refine Does.mono (holdsB H5 w5 _ (orF l m) (SetV.ext ⟨_, _, _, rfl, r1⟩ w1 (((e2.trans e3).trans e4).trans e5)) (by omega) (small_or hl hm) s hs true hor) ?_ ; rintro _ H6 ⟨rfl, e6, w6⟩)
        | (refine Does.mono (holdsB H6 w6 _ (andF l m) (SetV.ext ⟨_, _, _, rfl, r2⟩ w2 (((e3.trans e4).trans e5).trans e6)) (by omega) (small_and hl hm) s hs false han) ?_ ; rintro _ H7 ⟨rfl, e7, w7⟩)
        | (refine Does.mono (holdsB H7 w7 _ (leastF l) (SetV.ext ⟨_, _, _, rfl, r3⟩ w3 (((e4.trans e5).trans e6).trans e7)) (by omega) (small_least hl) s hs true hle) ?_ ; rintro _ H8 ⟨rfl, e8, w8⟩)
        | (refine Does.mono (checkT H8 w8 _ (l ++ m) (SetV.ext ⟨_, _, _, rfl, r1⟩ w1 ((((((e2.trans e3).trans e4).trans e5).trans e6).trans e7).trans e8)) (show (orF l m).length ≤ 4096 by omega) (small_or hl hm)) ?_ ; rintro _ H9 ⟨rfl, e9, w9⟩)
        | (refine Does.mono (checkT H9 w9 _ (prodF l m) (SetV.ext ⟨_, _, _, rfl, r2⟩ w2 ((((((e3.trans e4).trans e5).trans e6).trans e7).trans e8).trans e9)) (show (andF l m).length ≤ 4096 by omega) (small_and hl hm)) ?_ ; rintro _ H10 ⟨rfl, e10, w10⟩)
        | (refine Does.mono (checkT H10 w10 _ l (SetV.ext ⟨_, _, _, rfl, r3⟩ w3 ((((((e4.trans e5).trans e6).trans e7).trans e8).trans e9).trans e10)) (by omega) (small_least hl)) ?_ ; rintro _ H11 ⟨rfl, e11, w11⟩)
        | (refine Does.mono (leastV H11 w11 _ (leastF l) (SetV.ext ⟨_, _, _, rfl, r3⟩ w3 (((((((e4.trans e5).trans e6).trans e7).trans e8).trans e9).trans e10).trans e11)) (by omega) (small_least hl)) ?_ ; rintro _ H12 ⟨a12, n12, c12, rfl, r12, e12, w12⟩)
        | (refine Does.mono (sameT H12 _ _ _ _ ⟨_, _, _, rfl, r12⟩ (SetV.ext ⟨_, _, _, rfl, r3⟩ w3 ((((((((e4.trans e5).trans e6).trans e7).trans e8).trans e9).trans e10).trans e11).trans e12)) (by omega) (least_idem l)) ?_ ; rintro _ _ ⟨rfl, rfl⟩)
        | (refine Need.intro (DrawP.intro (by kernel_rfl)) ?_)
        | (refine Gives.intro ⟨.bool false, by kernel_rfl, ?_⟩)
        | fail)
      all_goals (conv => whnf)
      rfl
    · skip
      repeat' ((conv => whnf); first
        | (refine Both.intro ?_ ?_ <;> intro _ <;> try (exfalso; omega))
        | (refine Need.intro (by omega) ?_)
        | (refine Does.mono (awake10_any H) ?_ ; rintro _ _ ⟨rfl, rfl⟩)
        | (refine ⟨_, hbs, ?_⟩)
        | (rw [← hZ] ; refine Does.mono hsm ?_ ; rintro _ _ ⟨rfl, rfl⟩)
        | (refine Does.mono (Or_any Z wZ _ _ l m (sa Z eZ) (sb Z eZ) (by omega) hl hm) ?_ ; rintro _ H1 ⟨a1, n1, c1, rfl, r1, e1, w1⟩)
        | (refine Does.mono (And_any H1 w1 _ _ l m (sa H1 (eZ.trans e1)) (sb H1 (eZ.trans e1)) hprod' (by omega) (by omega) hl hm) ?_ ; rintro _ H2 ⟨a2, n2, c2, rfl, r2, e2, w2⟩)
        | (refine Does.mono (leastV H2 w2 _ l (sa H2 (eZ.trans (e1.trans e2))) (by omega) hl) ?_ ; rintro _ H3 ⟨a3, n3, c3, rfl, r3, e3, w3⟩)
        | (refine Does.mono (holdsB H3 w3 _ l (sa H3 (eZ.trans ((e1.trans e2).trans e3))) (by omega) hl s hs true hp) ?_ ; rintro _ H4 ⟨rfl, e4, w4⟩)
        | (refine Does.mono (holdsB H4 w4 _ m (sb H4 (eZ.trans (((e1.trans e2).trans e3).trans e4))) (by omega) hm s hs true hq) ?_ ; rintro _ H5 ⟨rfl, e5, w5⟩)
        | (refine Does.mono (holdsB H5 w5 _ (orF l m) (SetV.ext ⟨_, _, _, rfl, r1⟩ w1 (((e2.trans e3).trans e4).trans e5)) (by omega) (small_or hl hm) s hs true hor) ?_ ; rintro _ H6 ⟨rfl, e6, w6⟩)
        | (refine Does.mono (holdsB H6 w6 _ (andF l m) (SetV.ext ⟨_, _, _, rfl, r2⟩ w2 (((e3.trans e4).trans e5).trans e6)) (by omega) (small_and hl hm) s hs true han) ?_ ; rintro _ H7 ⟨rfl, e7, w7⟩)
        | (refine Does.mono (holdsB H7 w7 _ (leastF l) (SetV.ext ⟨_, _, _, rfl, r3⟩ w3 (((e4.trans e5).trans e6).trans e7)) (by omega) (small_least hl) s hs true hle) ?_ ; rintro _ H8 ⟨rfl, e8, w8⟩)
        | (refine Does.mono (checkT H8 w8 _ (l ++ m) (SetV.ext ⟨_, _, _, rfl, r1⟩ w1 ((((((e2.trans e3).trans e4).trans e5).trans e6).trans e7).trans e8)) (show (orF l m).length ≤ 4096 by omega) (small_or hl hm)) ?_ ; rintro _ H9 ⟨rfl, e9, w9⟩)
        | (refine Does.mono (checkT H9 w9 _ (prodF l m) (SetV.ext ⟨_, _, _, rfl, r2⟩ w2 ((((((e3.trans e4).trans e5).trans e6).trans e7).trans e8).trans e9)) (show (andF l m).length ≤ 4096 by omega) (small_and hl hm)) ?_ ; rintro _ H10 ⟨rfl, e10, w10⟩)
        | (refine Does.mono (checkT H10 w10 _ l (SetV.ext ⟨_, _, _, rfl, r3⟩ w3 ((((((e4.trans e5).trans e6).trans e7).trans e8).trans e9).trans e10)) (by omega) (small_least hl)) ?_ ; rintro _ H11 ⟨rfl, e11, w11⟩)
        | (refine Does.mono (leastV H11 w11 _ (leastF l) (SetV.ext ⟨_, _, _, rfl, r3⟩ w3 (((((((e4.trans e5).trans e6).trans e7).trans e8).trans e9).trans e10).trans e11)) (by omega) (small_least hl)) ?_ ; rintro _ H12 ⟨a12, n12, c12, rfl, r12, e12, w12⟩)
        | (refine Does.mono (sameT H12 _ _ _ _ ⟨_, _, _, rfl, r12⟩ (SetV.ext ⟨_, _, _, rfl, r3⟩ w3 ((((((((e4.trans e5).trans e6).trans e7).trans e8).trans e9).trans e10).trans e11).trans e12)) (by omega) (least_idem l)) ?_ ; rintro _ _ ⟨rfl, rfl⟩)
        | (refine Need.intro (DrawP.intro (by kernel_rfl)) ?_)
        | (refine Gives.intro ⟨.bool false, by kernel_rfl, ?_⟩)
        | fail)
      all_goals (conv => whnf)
      rfl
  · have hb9 : ([(a, n, c), (a', n', c')].all fun v => decide (v.2.1 ≤ 9)) = false := by
      cases hb : ([(a, n, c), (a', n', c')].all fun v => decide (v.2.1 ≤ 9)) with
      | false => rfl
      | true => simp at hb; exact absurd hb h9
    rw [hb9] at hsm
    repeat' ((conv => whnf); first
      | (refine Both.intro ?_ ?_ <;> intro _ <;> try (exfalso; omega))
      | (refine Need.intro (by omega) ?_)
      | (refine Does.mono (awake10_any H) ?_ ; rintro _ _ ⟨rfl, rfl⟩)
      | (refine ⟨_, hbs, ?_⟩)
      | (refine Does.mono hsm ?_ ; rintro _ _ ⟨rfl, rfl⟩)
      | fail)
    all_goals (conv => whnf)
    rfl
end Go.AX.Try
