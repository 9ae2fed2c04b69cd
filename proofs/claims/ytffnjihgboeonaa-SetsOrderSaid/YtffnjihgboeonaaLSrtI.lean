/- sets.Least, Or, And, Holds. -/
import Derived.Test.YtffnjihgboeonaaLSrtH
namespace Go.AX.Try
open Go Go.AX Go.AX.Lw Go.Proofs
set_option linter.unusedVariables false
set_option linter.unusedSimpArgs false
set_option maxRecDepth 100000
theorem and64 (a b : BitVec 64) : (a &&& ~~~ b).toNat = 0 ↔ a.toNat &&& b.toNat = a.toNat := by
  constructor
  · intro h
    have h0 : a &&& ~~~ b = 0#64 := BitVec.eq_of_toNat_eq (by rw [h]; rfl)
    have h1 : a &&& b = a := by
      apply BitVec.eq_of_getLsbD_eq
      intro i hi
      have := congrArg (fun v => BitVec.getLsbD v i) h0
      simp only [BitVec.getLsbD_and, BitVec.getLsbD_not, BitVec.getLsbD_zero, hi, decide_true, Bool.true_and] at this
      simp only [BitVec.getLsbD_and]
      cases hb : a.getLsbD i <;> cases hc : b.getLsbD i <;> simp [hb, hc] at this ⊢
    rw [← BitVec.toNat_and, h1]
  · intro h
    have h1 : a &&& b = a := BitVec.eq_of_toNat_eq (by rw [BitVec.toNat_and]; exact h)
    have h0 : a &&& ~~~ b = 0#64 := by
      apply BitVec.eq_of_getLsbD_eq
      intro i hi
      have := congrArg (fun v => BitVec.getLsbD v i) h1
      simp only [BitVec.getLsbD_and] at this
      simp only [BitVec.getLsbD_and, BitVec.getLsbD_not, BitVec.getLsbD_zero, hi, decide_true, Bool.true_and]
      cases hb : a.getLsbD i <;> cases hc : b.getLsbD i <;> simp [hb, hc] at this ⊢
    rw [h0]; rfl
/-- What is in one set and not in another. -/
def andn (x s : Nat) : Nat := (BitVec.ofInt 64 (x : Int) &&& ~~~ BitVec.ofInt 64 (s : Int)).toNat
theorem andn_lt (x s : Nat) : andn x s < 18446744073709551616 := BitVec.isLt _
theorem andnU (x s : Nat) : aInt .andNot .u64 (x : Int) (s : Int) = some (.int .u64 (andn x s : Nat)) := by
  show some (Value.int IntKind.u64 (IntKind.u64.wrap ((andn x s : Nat) : Int))) = _
  rw [u64wrap, Nat.mod_eq_of_lt (andn_lt x s)]
/-- One set within another. -/
def Sub (x s : Nat) : Prop := x &&& s = x
instance (x s : Nat) : Decidable (Sub x s) := inferInstanceAs (Decidable (x &&& s = x))
theorem andn_zero {x s : Nat} (hx : x < 18446744073709551616) (hs : s < 18446744073709551616) : andn x s = 0 ↔ Sub x s := by
  have e1 : (BitVec.ofInt 64 (x : Int)).toNat = x := u64bv x hx
  have e2 : (BitVec.ofInt 64 (s : Int)).toNat = s := u64bv s hs
  unfold andn Sub
  rw [and64, e1, e2]
theorem least1_any (H : AHeap) (x s b : Nat) (hb : cellAt H b 0 = some (.int .u64 s)) (hx : x < 18446744073709551616) (hs : s < 18446744073709551616) :
    Does Try.prog orc 23 [.int .u64 x, .pointer (some ⟨b, 0, none⟩)] H fun r H' => r = .ret (.bool (decide (x ≠ s ∧ Sub x s))) ∧ H = H' := by
  refine Does.of Try.func23 (fun _ _ => rfl) rfl ?_
  by_cases h1 : x = s
  · rw [decide_eq_false (fun h => h.1 h1)]
    repeat' ((conv => whnf); first
      | (refine Both.intro ?_ ?_ <;> intro _ <;> try (exfalso; omega))
      | (refine Need.intro (by omega) ?_)
      | (refine ⟨_, hb, ?_⟩)
      | (refine Need.intro (DrawP.intro (by kernel_rfl)) ?_)
      | fail)
    all_goals (conv => whnf)
    exact ⟨rfl, rfl⟩
  · by_cases h2 : Sub x s
    · have hz := (andn_zero hx hs).2 h2
      rw [decide_eq_true ⟨h1, h2⟩]
      repeat' ((conv => whnf); first
        | (refine Both.intro ?_ ?_ <;> intro _ <;> try (exfalso; omega))
        | (refine Need.intro (by omega) ?_)
        | (refine ⟨_, hb, ?_⟩)
        | (refine Gives.intro ⟨_, andnU x s, ?_⟩)
        | (refine Need.intro (DrawP.intro (by kernel_rfl)) ?_)
        | fail)
      all_goals (conv => whnf)
      exact ⟨rfl, rfl⟩
    · have hz : andn x s ≠ 0 := fun h => h2 ((andn_zero hx hs).1 h)
      rw [decide_eq_false (fun h => h2 h.2)]
      repeat' ((conv => whnf); first
        | (refine Both.intro ?_ ?_ <;> intro _ <;> try (exfalso; omega))
        | (refine Need.intro (by omega) ?_)
        | (refine ⟨_, hb, ?_⟩)
        | (refine Gives.intro ⟨_, andnU x s, ?_⟩)
        | (refine Need.intro (DrawP.intro (by kernel_rfl)) ?_)
        | fail)
      all_goals (conv => whnf)
      exact ⟨rfl, rfl⟩
theorem holds1_any (H : AHeap) (x s b : Nat) (hb : cellAt H b 0 = some (.int .u64 s)) (hx : x < 18446744073709551616) (hs : s < 18446744073709551616) :
    Does Try.prog orc 25 [.int .u64 x, .pointer (some ⟨b, 0, none⟩)] H fun r H' => r = .ret (.bool (decide (Sub x s))) ∧ H = H' := by
  refine Does.of Try.func25 (fun _ _ => rfl) rfl ?_
  by_cases h2 : Sub x s
  · have hz := (andn_zero hx hs).2 h2
    rw [decide_eq_true h2]
    repeat' ((conv => whnf); first
      | (refine Both.intro ?_ ?_ <;> intro _ <;> try (exfalso; omega))
      | (refine Need.intro (by omega) ?_)
      | (refine ⟨_, hb, ?_⟩)
      | (refine Gives.intro ⟨_, andnU x s, ?_⟩)
      | (refine Need.intro (DrawP.intro (by kernel_rfl)) ?_)
      | fail)
    all_goals (conv => whnf)
    exact ⟨rfl, rfl⟩
  · have hz : andn x s ≠ 0 := fun h => h2 ((andn_zero hx hs).1 h)
    rw [decide_eq_false h2]
    repeat' ((conv => whnf); first
      | (refine Both.intro ?_ ?_ <;> intro _ <;> try (exfalso; omega))
      | (refine Need.intro (by omega) ?_)
      | (refine ⟨_, hb, ?_⟩)
      | (refine Gives.intro ⟨_, andnU x s, ?_⟩)
      | (refine Need.intro (DrawP.intro (by kernel_rfl)) ?_)
      | fail)
    all_goals (conv => whnf)
    exact ⟨rfl, rfl⟩
theorem indexf_any (H : AHeap) (a : Option Addr) (n c : Nat) (l : List Nat) (hl : Row H a n c (nums l)) (hn : n ≤ 2 ^ 40) (g : Nat) (v : Value) (f : Nat → Bool) (hf : ∀ x, x ∈ l → Does Try.prog orc g [.int .u64 x, v] H fun r H' => r = .ret (.bool (f x)) ∧ H = H') :
    Does Try.prog orc 28 [.slice a n c, .func (.func g) #[] #[v]] H fun r H' => ∃ z : Int, r = .ret (.int .i64 z) ∧ (0 ≤ z ↔ l.any f = true) ∧ -1 ≤ z ∧ z ≤ 2 ^ 41 ∧ H = H' := by
  have h1 := hl.len; simp at h1
  have hc1 := hl.cap
  refine Does.of Try.func28 (fun _ _ => rfl) rfl ?_
  repeat' ((conv => whnf); first
    | (refine Both.intro ?_ ?_ <;> intro _ <;> try (exfalso; omega))
    | (refine Need.intro (by omega) ?_)
    | fail)
  all_goals (conv => whnf)
  refine Runs.loop (fun k : Nat => [(8, .int .i64 k), (7, .int .i64 n), (0, .slice a n c), (1, .func (.func g) #[] #[v])]) (fun k H' => H = H' ∧ k ≤ n ∧ (l.take k).any f = false) (fun k => n - k) 0 ⟨rfl, rfl, rfl, rfl, trivial⟩ ⟨rfl, by omega, rfl⟩ ?_
  rintro k _ ⟨rfl, hk, hall⟩
  by_cases hlt : k < n
  · obtain ⟨x, hx⟩ := get_of (l := l) (k := k) (by omega)
    obtain ⟨b, o, st, rfl, hcell⟩ := hl.cell k _ (nums_get hx)
    have hfx := hf x (List.mem_of_getElem? hx)
    cases hb : f x with
    | true =>
      rw [hb] at hfx
      repeat' ((conv => whnf); first
        | (refine Both.intro ?_ ?_ <;> intro _ <;> try (exfalso; omega))
        | (refine Need.intro (by omega) ?_)
        | (refine ⟨_, hcell, ?_⟩)
        | (refine Does.mono hfx ?_ ; rintro _ _ ⟨rfl, rfl⟩)
        | (refine Need.intro (DrawP.intro (by kernel_rfl)) ?_)
        | (refine Need.intro (draw_mix ⟨lookMix_same, True.intro⟩) ?_)
        | fail)
      all_goals (conv => whnf)
      exact ⟨_, rfl, iff_of_true (by omega) (List.any_eq_true.2 ⟨x, List.mem_of_getElem? hx, hb⟩), by omega, by omega, rfl⟩
    | false =>
      rw [hb] at hfx
      repeat' ((conv => whnf); first
        | (refine Both.intro ?_ ?_ <;> intro _ <;> try (exfalso; omega))
        | (refine Need.intro (by omega) ?_)
        | (refine ⟨_, hcell, ?_⟩)
        | (refine Does.mono hfx ?_ ; rintro _ _ ⟨rfl, rfl⟩)
        | (refine Need.intro (DrawP.intro (by kernel_rfl)) ?_)
        | (refine Need.intro (draw_mix ⟨lookMix_same, True.intro⟩) ?_)
        | fail)
      all_goals (conv => whnf)
      exact ⟨k + 1, ⟨rfl, rfl, rfl, rfl, trivial⟩, ⟨rfl, by omega, by rw [List.take_add_one, hx, List.any_append, hall]; simp [hb]⟩, by omega⟩
  · obtain rfl : k = n := by omega
    rw [h1, List.take_length] at hall
    repeat' ((conv => whnf); first
      | (refine Both.intro ?_ ?_ <;> intro _ <;> try (exfalso; omega))
      | (refine Need.intro (by omega) ?_)
      | fail)
    all_goals (conv => whnf)
    exact ⟨_, rfl, iff_of_false (by omega) (by rw [hall]; decide), by omega, by omega, rfl⟩
theorem containsf_any (H : AHeap) (a : Option Addr) (n c : Nat) (l : List Nat) (hl : Row H a n c (nums l)) (hn : n ≤ 2 ^ 40) (g : Nat) (v : Value) (f : Nat → Bool) (hf : ∀ x, x ∈ l → Does Try.prog orc g [.int .u64 x, v] H fun r H' => r = .ret (.bool (f x)) ∧ H = H') :
    Does Try.prog orc 22 [.slice a n c, .func (.func g) #[] #[v]] H fun r H' => r = .ret (.bool (l.any f)) ∧ H = H' := by
  refine Does.of Try.func22 (fun _ _ => rfl) rfl ?_
  repeat' ((conv => whnf); first
    | (refine Both.intro ?_ ?_ <;> intro _ <;> try (exfalso; omega))
    | (refine Need.intro (by omega) ?_)
    | (refine Does.mono (indexf_any H a n c l hl hn g v f hf) ?_ ; rintro _ _ ⟨z, rfl, hz, hz1, hz2, rfl⟩)
    | fail)
  all_goals (conv => whnf)
  · rename_i h0
    rw [hz.1 h0]; exact ⟨rfl, rfl⟩
  · rename_i h0
    have : l.any f = false := by
      cases hb : l.any f with
      | false => rfl
      | true => exact absurd (hz.2 hb) h0
    rw [this]; exact ⟨rfl, rfl⟩
end Go.AX.Try
