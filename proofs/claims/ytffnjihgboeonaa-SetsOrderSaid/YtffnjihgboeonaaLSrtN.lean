/- SetsRing. -/
import Derived.Test.YtffnjihgboeonaaLSrtM
namespace Go.AX.Try
open Go Go.AX Go.AX.Lw Go.Proofs
set_option linter.unusedVariables false
set_option linter.unusedSimpArgs false
set_option maxRecDepth 100000
set_option maxHeartbeats 2000000 in
theorem setsRing_any (H : AHeap) (hw : Wf H) (a a' a'' : Option Addr) (n n' n'' c c' c'' : Nat) (l m k : List Nat) (hr : Row H a n c (nums l)) (hr' : Row H a' n' c' (nums m)) (hr'' : Row H a'' n'' c'' (nums k)) (hl : Small l) (hm : Small m) (hk : Small k) :
    Does Try.prog orc 4 [.slice a n c, .slice a' n' c', .slice a'' n'' c''] H fun r H' => r = .ret (.bool true) := by
  have h1 := hr.len; simp at h1
  have h2 := hr'.len; simp at h2
  have h3 := hr''.len; simp at h3
  refine Does.of Try.func4 (fun _ _ => rfl) rfl ?_
  have hbs : aBuildSlice Try.prog 42 3 [(0, .slice a n c), (1, .slice a' n' c'), (2, .slice a'' n'' c'')] = mkSlice [.slice a n c, .slice a' n' c', .slice a'' n'' c''] 3 3 := by kernel_rfl
  have hsm := small_any (H.push (.cells [.slice a n c, .slice a' n' c', .slice a'' n'' c''] 0 true)) (some ⟨H.next, 0, none⟩) 3 3 [(a, n, c), (a', n', c'), (a'', n'', c'')] (Row.of_block (get_new _ _) rfl (Nat.le_refl _) (List.prefix_refl _)) (by decide)
  obtain ⟨Z, hZ⟩ : ∃ Z, Z = H.push (.cells [.slice a n c, .slice a' n' c', .slice a'' n'' c''] 0 true) := ⟨_, rfl⟩
  rw [← hZ] at hsm
  by_cases h9 : n ≤ 9 ∧ n' ≤ 9 ∧ n'' ≤ 9
  · have hb9 : ([(a, n, c), (a', n', c'), (a'', n'', c'')].all fun v => decide (v.2.1 ≤ 9)) = true := by simp [h9.1, h9.2.1, h9.2.2]
    rw [hb9] at hsm
    obtain ⟨h9a, h9b, h9c⟩ := h9
    have eZ : Ext H Z := by rw [hZ]; exact Ext.push _ _
    have wZ : Wf Z := by rw [hZ]; exact hw.push _
    have sa : ∀ X, Ext H X → SetV X (.slice a n c) l := fun X e => ⟨_, _, _, rfl, hr.ext hw e⟩
    have sb : ∀ X, Ext H X → SetV X (.slice a' n' c') m := fun X e => ⟨_, _, _, rfl, hr'.ext hw e⟩
    have sc : ∀ X, Ext H X → SetV X (.slice a'' n'' c'') k := fun X e => ⟨_, _, _, rfl, hr''.ext hw e⟩
    have ll : l.length ≤ 9 := by omega
    have lm : m.length ≤ 9 := by omega
    have lk : k.length ≤ 9 := by omega
    have small0 : Small [0] := by intro x hx; simp at hx; omega
    have smalln : Small [] := by intro x hx; simp at hx
    have o1 := or_len l m
    have o2 := or_len m l
    have o3 := or_len (orF l m) k
    have o4 := or_len m k
    have o5 := or_len l (orF m k)
    have P1 : l.length * m.length ≤ 1024 := Nat.le_trans (Nat.mul_le_mul ll lm) (by decide)
    have P2 : m.length * l.length ≤ 1024 := Nat.le_trans (Nat.mul_le_mul lm ll) (by decide)
    have P3 : l.length * k.length ≤ 1024 := Nat.le_trans (Nat.mul_le_mul ll lk) (by decide)
    have P4 : l.length * (orF m k).length ≤ 1024 := Nat.le_trans (Nat.mul_le_mul ll (by omega : (orF m k).length ≤ 18)) (by decide)
    have q6 : (andF l m).length ≤ 81 := Nat.le_trans (and_len l m) (Nat.mul_le_mul ll lm)
    have q7 : (andF m l).length ≤ 81 := Nat.le_trans (and_len m l) (Nat.mul_le_mul lm ll)
    have q8 : (andF l k).length ≤ 81 := Nat.le_trans (and_len l k) (Nat.mul_le_mul ll lk)
    have q9 : (andF l (orF m k)).length ≤ 162 := Nat.le_trans (and_len l _) (Nat.mul_le_mul ll (by omega : (orF m k).length ≤ 18))
    have o10 := or_len (andF l m) (andF l k)
    have P5 : (andF l m).length * k.length ≤ 1024 := Nat.le_trans (Nat.mul_le_mul q6 lk) (by decide)
    have P6 : m.length * k.length ≤ 1024 := Nat.le_trans (Nat.mul_le_mul lm lk) (by decide)
    have q12 : (andF m k).length ≤ 81 := Nat.le_trans (and_len m k) (Nat.mul_le_mul lm lk)
    have P7 : l.length * (andF m k).length ≤ 1024 := Nat.le_trans (Nat.mul_le_mul ll q12) (by decide)
    have q11 : (andF (andF l m) k).length ≤ 729 := Nat.le_trans (and_len _ k) (Nat.mul_le_mul q6 lk)
    have q15 : (andF l [0]).length ≤ 9 := Nat.le_trans (and_len l _) (by simp; exact ll)
    have q16 := or_len [] l
    simp only [List.length_nil] at q16
    have hzero : nums (andF l []) = [] := by
      have : prodF l [] = [] := by unfold prodF; simp
      unfold andF
      rw [this]
      have : leastF [] = [] := by unfold leastF srt; simp [compF]
      rw [this]
      rfl
    have E1 : orF l m = orF m l := least_eq fun s => by rw [up_app, up_app]; exact Or.comm
    have E2 : orF (orF l m) k = orF l (orF m k) := least_eq fun s => by rw [up_app, up_app, up_or, up_or, or_assoc]
    have E3 : andF l m = andF m l := least_eq fun s => by rw [up_prod, up_prod]; exact And.comm
    have E4 : andF l (orF m k) = orF (andF l m) (andF l k) := least_eq fun s => by rw [up_prod, up_app, up_or, up_and, up_and, and_or_left]
    have E5 : andF (andF l m) k = andF l (andF m k) := least_eq fun s => by rw [up_prod, up_prod, up_and, up_and, and_assoc]
    have E6 : andF l [0] = leastF l := least_eq fun s => by rw [up_prod, up_zero, and_true]
    have E7 : orF [] l = leastF l := rfl
    repeat' ((conv => whnf); first
      | (refine Both.intro ?_ ?_ <;> intro _ <;> try (exfalso; omega))
      | (refine Need.intro (by omega) ?_)
      | (refine Does.mono (awake10_any H) ?_ ; rintro _ _ ⟨rfl, rfl⟩)
      | (refine ⟨_, hbs, ?_⟩)
      | (rw [← hZ] ; refine Does.mono hsm ?_ ; rintro _ _ ⟨rfl, rfl⟩)
      | (refine Does.mono (Or_any Z wZ _ _ l m (sa Z eZ) (sb Z eZ) (by omega) hl hm) ?_ ; rintro _ H1 ⟨a1, n1, c1, rfl, r1, e1, w1⟩)
      | (refine Does.mono (Or_any H1 w1 _ _ m l (sb H1 (eZ.trans e1)) (sa H1 (eZ.trans e1)) (by omega) hm hl) ?_ ; rintro _ H2 ⟨a2, n2, c2, rfl, r2, e2, w2⟩)
      | (refine Does.mono (Or_any H2 w2 _ _ (orF l m) k (SetV.ext ⟨_, _, _, rfl, r1⟩ w1 e2) (sc H2 (eZ.trans (e1.trans e2))) (by omega) (small_or hl hm) hk) ?_ ; rintro _ H3 ⟨a3, n3, c3, rfl, r3, e3, w3⟩)
      | (refine Does.mono (Or_any H3 w3 _ _ m k (sb H3 (eZ.trans ((e1.trans e2).trans e3))) (sc H3 (eZ.trans ((e1.trans e2).trans e3))) (by omega) hm hk) ?_ ; rintro _ H4 ⟨a4, n4, c4, rfl, r4, e4, w4⟩)
      | (refine Does.mono (Or_any H4 w4 _ _ l (orF m k) (sa H4 (eZ.trans (((e1.trans e2).trans e3).trans e4))) (SetV.ext ⟨_, _, _, rfl, r4⟩ w4 (Ext.refl _)) (by omega) hl (small_or hm hk)) ?_ ; rintro _ H5 ⟨a5, n5, c5, rfl, r5, e5, w5⟩)
      | (refine Does.mono (sameT H5 _ _ _ _ (SetV.ext ⟨_, _, _, rfl, r1⟩ w1 (((e2.trans e3).trans e4).trans e5)) (SetV.ext ⟨_, _, _, rfl, r2⟩ w2 ((e3.trans e4).trans e5)) (by omega) E1) ?_ ; rintro _ _ ⟨rfl, rfl⟩)
      | (refine Does.mono (sameT H5 _ _ _ _ (SetV.ext ⟨_, _, _, rfl, r3⟩ w3 (e4.trans e5)) (SetV.ext ⟨_, _, _, rfl, r5⟩ w5 (Ext.refl _)) (by omega) E2) ?_ ; rintro _ _ ⟨rfl, rfl⟩)
      | (refine Does.mono (And_any H5 w5 _ _ l m (sa H5 (eZ.trans ((((e1.trans e2).trans e3).trans e4).trans e5))) (sb H5 (eZ.trans ((((e1.trans e2).trans e3).trans e4).trans e5))) P1 (by omega) (by omega) hl hm) ?_ ; rintro _ H6 ⟨a6, n6, c6, rfl, r6, e6, w6⟩)
      | (refine Does.mono (And_any H6 w6 _ _ m l (sb H6 (eZ.trans (((((e1.trans e2).trans e3).trans e4).trans e5).trans e6))) (sa H6 (eZ.trans (((((e1.trans e2).trans e3).trans e4).trans e5).trans e6))) P2 (by omega) (by omega) hm hl) ?_ ; rintro _ H7 ⟨a7, n7, c7, rfl, r7, e7, w7⟩)
      | (refine Does.mono (And_any H7 w7 _ _ l k (sa H7 (eZ.trans ((((((e1.trans e2).trans e3).trans e4).trans e5).trans e6).trans e7))) (sc H7 (eZ.trans ((((((e1.trans e2).trans e3).trans e4).trans e5).trans e6).trans e7))) P3 (by omega) (by omega) hl hk) ?_ ; rintro _ H8 ⟨a8, n8, c8, rfl, r8, e8, w8⟩)
      | (refine Does.mono (And_any H8 w8 _ _ l (orF m k) (sa H8 (eZ.trans (((((((e1.trans e2).trans e3).trans e4).trans e5).trans e6).trans e7).trans e8))) (SetV.ext ⟨_, _, _, rfl, r4⟩ w4 (((e5.trans e6).trans e7).trans e8)) P4 (by omega) (by omega) hl (small_or hm hk)) ?_ ; rintro _ H9 ⟨a9, n9, c9, rfl, r9, e9, w9⟩)
      | (refine Does.mono (Or_any H9 w9 _ _ (andF l m) (andF l k) (SetV.ext ⟨_, _, _, rfl, r6⟩ w6 ((e7.trans e8).trans e9)) (SetV.ext ⟨_, _, _, rfl, r8⟩ w8 e9) (by omega) (small_and hl hm) (small_and hl hk)) ?_ ; rintro _ H10 ⟨a10, n10, c10, rfl, r10, e10, w10⟩)
      | (refine Does.mono (sameT H10 _ _ _ _ (SetV.ext ⟨_, _, _, rfl, r6⟩ w6 (((e7.trans e8).trans e9).trans e10)) (SetV.ext ⟨_, _, _, rfl, r7⟩ w7 ((e8.trans e9).trans e10)) (by omega) E3) ?_ ; rintro _ _ ⟨rfl, rfl⟩)
      | (refine Does.mono (sameT H10 _ _ _ _ (SetV.ext ⟨_, _, _, rfl, r9⟩ w9 e10) (SetV.ext ⟨_, _, _, rfl, r10⟩ w10 (Ext.refl _)) (by omega) E4) ?_ ; rintro _ _ ⟨rfl, rfl⟩)
      | (refine Does.mono (And_any H10 w10 _ _ (andF l m) k (SetV.ext ⟨_, _, _, rfl, r6⟩ w6 (((e7.trans e8).trans e9).trans e10)) (sc H10 (eZ.trans (((((((((e1.trans e2).trans e3).trans e4).trans e5).trans e6).trans e7).trans e8).trans e9).trans e10))) P5 (by omega) (by omega) (small_and hl hm) hk) ?_ ; rintro _ H11 ⟨a11, n11, c11, rfl, r11, e11, w11⟩)
      | (refine Does.mono (And_any H11 w11 _ _ m k (sb H11 (eZ.trans ((((((((((e1.trans e2).trans e3).trans e4).trans e5).trans e6).trans e7).trans e8).trans e9).trans e10).trans e11))) (sc H11 (eZ.trans ((((((((((e1.trans e2).trans e3).trans e4).trans e5).trans e6).trans e7).trans e8).trans e9).trans e10).trans e11))) P6 (by omega) (by omega) hm hk) ?_ ; rintro _ H12 ⟨a12, n12, c12, rfl, r12, e12, w12⟩)
      | (refine Does.mono (And_any H12 w12 _ _ l (andF m k) (sa H12 (eZ.trans (((((((((((e1.trans e2).trans e3).trans e4).trans e5).trans e6).trans e7).trans e8).trans e9).trans e10).trans e11).trans e12))) (SetV.ext ⟨_, _, _, rfl, r12⟩ w12 (Ext.refl _)) P7 (by omega) (by omega) hl (small_and hm hk)) ?_ ; rintro _ H13 ⟨a13, n13, c13, rfl, r13, e13, w13⟩)
      | (refine Does.mono (True_any H13 w13) ?_ ; rintro _ H14 ⟨a14, n14, c14, rfl, r14, e14, w14⟩)
      | (refine Does.mono (And_any H14 w14 _ _ l [0] (sa H14 (eZ.trans (((((((((((((e1.trans e2).trans e3).trans e4).trans e5).trans e6).trans e7).trans e8).trans e9).trans e10).trans e11).trans e12).trans e13).trans e14))) (SetV.ext ⟨_, _, _, rfl, r14⟩ w14 (Ext.refl _)) (show l.length * [0].length ≤ 1024 by simp; omega) (by omega) (by simp) hl small0) ?_ ; rintro _ H15 ⟨a15, n15, c15, rfl, r15, e15, w15⟩)
      | (refine Does.mono (Or_any H15 w15 _ _ [] l (SetV.nil _) (sa H15 (eZ.trans ((((((((((((((e1.trans e2).trans e3).trans e4).trans e5).trans e6).trans e7).trans e8).trans e9).trans e10).trans e11).trans e12).trans e13).trans e14).trans e15))) (by simp; omega) smalln hl) ?_ ; rintro _ H16 ⟨a16, n16, c16, rfl, r16, e16, w16⟩)
      | (refine Does.mono (And_any H16 w16 _ _ l [] (sa H16 (eZ.trans (((((((((((((((e1.trans e2).trans e3).trans e4).trans e5).trans e6).trans e7).trans e8).trans e9).trans e10).trans e11).trans e12).trans e13).trans e14).trans e15).trans e16))) (SetV.nil _) (by simp) (by omega) (by simp) hl smalln) ?_ ; rintro _ H17 ⟨a17, n17, c17, rfl, r17, e17, w17⟩ ; have hz17 : n17 = 0 := by (have := r17.len; rw [hzero] at this; exact this))
      | (refine Does.mono (leastV H17 w17 _ l (sa H17 (eZ.trans ((((((((((((((((e1.trans e2).trans e3).trans e4).trans e5).trans e6).trans e7).trans e8).trans e9).trans e10).trans e11).trans e12).trans e13).trans e14).trans e15).trans e16).trans e17))) (by omega) hl) ?_ ; rintro _ H18 ⟨a18, n18, c18, rfl, r18, e18, w18⟩)
      | (refine Does.mono (sameT H18 _ _ _ _ (SetV.ext ⟨_, _, _, rfl, r11⟩ w11 ((((((e12.trans e13).trans e14).trans e15).trans e16).trans e17).trans e18)) (SetV.ext ⟨_, _, _, rfl, r13⟩ w13 ((((e14.trans e15).trans e16).trans e17).trans e18)) (by omega) E5) ?_ ; rintro _ _ ⟨rfl, rfl⟩)
      | (refine Does.mono (sameT H18 _ _ _ _ (SetV.ext ⟨_, _, _, rfl, r15⟩ w15 ((e16.trans e17).trans e18)) (SetV.ext ⟨_, _, _, rfl, r18⟩ w18 (Ext.refl _)) (by omega) E6) ?_ ; rintro _ _ ⟨rfl, rfl⟩)
      | (refine Does.mono (sameT H18 _ _ _ _ (SetV.ext ⟨_, _, _, rfl, r16⟩ w16 (e17.trans e18)) (SetV.ext ⟨_, _, _, rfl, r18⟩ w18 (Ext.refl _)) (by omega) E7) ?_ ; rintro _ _ ⟨rfl, rfl⟩)
      | (refine Need.intro (DrawP.intro (by kernel_rfl)) ?_)
      | (refine Need.intro (draw_mix ⟨lookMix_same, True.intro⟩) ?_)
      | (refine Need.intro (draw_mix ⟨lookMix_same, lookMix_same, True.intro⟩) ?_)
      | (refine Need.intro (draw_mix ⟨lookMix_same, lookMix_same, lookMix_same, True.intro⟩) ?_)
      | fail)
    all_goals (conv => whnf)
    rfl
  · have hb9 : ([(a, n, c), (a', n', c'), (a'', n'', c'')].all fun v => decide (v.2.1 ≤ 9)) = false := by
      cases hb : ([(a, n, c), (a', n', c'), (a'', n'', c'')].all fun v => decide (v.2.1 ≤ 9)) with
      | false => rfl
      | true => simp at hb; exact absurd hb h9
    rw [hb9] at hsm
    repeat' ((conv => whnf); first
      | (refine Both.intro ?_ ?_ <;> intro _ <;> try (exfalso; omega))
      | (refine Need.intro (by omega) ?_)
      | (refine Does.mono (awake10_any H) ?_ ; rintro _ _ ⟨rfl, rfl⟩)
      | (refine ⟨_, hbs, ?_⟩)
      | (rw [← hZ] ; refine Does.mono hsm ?_ ; rintro _ _ ⟨rfl, rfl⟩)
      | fail)
    all_goals (conv => whnf)
    rfl
end Go.AX.Try
