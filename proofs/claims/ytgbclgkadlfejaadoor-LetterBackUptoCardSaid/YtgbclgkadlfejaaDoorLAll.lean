/- Contracts: bits, what fits, all letters. -/
import Derived.Test.YtgbclgkadlfejaaDoorLKit
namespace Go.AX.Tryd
open Go Go.AX Go.AX.Lw Go.Proofs
set_option linter.unusedVariables false
set_option maxRecDepth 100000

/-- Has a letter a proposition? -/
def bitP (l p : Nat) : Prop := l / 2 ^ p % 2 = 1
instance (l p : Nat) : Decidable (bitP l p) := inferInstanceAs (Decidable (_ = _))
theorem and_one : ∀ x < 256, (IntKind.u8.wrap (BitVec.ofInt IntKind.u8.bits (x : Nat) &&& BitVec.ofInt IntKind.u8.bits 1).toNat) = (x % 2 : Nat) := by decide +kernel
theorem bit_any (H : AHeap) (l : Nat) (p : Int) (hl : l < 256) : Does Tryd.prog orc 53 [.int .u8 l, .int .i64 p] H fun r H' => ∃ b, r = .ret (.bool b) ∧ (b = true ↔ 0 ≤ p ∧ p < 8 ∧ bitP l p.toNat) ∧ H = H' := by
  refine Does.of Tryd.func53 (fun _ _ => rfl) rfl ?_
  repeat' ((conv => whnf); first
    | (refine Both.intro ?_ ?_ <;> intro _ <;> try (exfalso; omega))
    | (refine Need.intro (by omega) ?_)
    | (refine Gives.intro ⟨_, shr_ok (by omega), ?_⟩)
    | fail)
  all_goals (conv => whnf)
  · rename_i h0 h1
    obtain ⟨m, rfl⟩ := Int.eq_ofNat_of_zero_le (by omega : 0 ≤ p)
    have hs : Int.fdiv (l : Int) (2 ^ min (m : Int).toNat IntKind.u8.bits) = ((l / 2 ^ m : Nat) : Int) := by
      have : min (m : Int).toNat IntKind.u8.bits = m := by
        show min m 8 = m
        omega
      rw [this, Int.fdiv_eq_ediv_of_nonneg _ (by exact Int.pow_nonneg (by omega))]
      norm_cast
    have hlt : l / 2 ^ m < 256 := Nat.lt_of_le_of_lt (Nat.div_le_self _ _) hl
    refine Gives.intro ⟨_, rfl, ?_⟩
    rw [hs, and_one _ hlt]
    repeat' ((conv => whnf); first
      | (refine Both.intro ?_ ?_ <;> intro _ <;> try (exfalso; omega))
      | (refine Need.intro (by omega) ?_)
      | fail)
    all_goals (conv => whnf)
    all_goals (refine ⟨_, rfl, ?_, rfl⟩; simp [bitP]; omega)
  all_goals (refine ⟨_, rfl, ?_, rfl⟩; simp; omega)
def fitsP (n : Int) (l : Nat) : Prop := 0 ≤ n ∧ n ≤ 8 ∧ l < 2 ^ n.toNat
theorem fits_any (H : AHeap) (n : Int) (l : Nat) (hl : l < 256) : Does Tryd.prog orc 9 [.int .i64 n, .int .u8 l] H fun r H' => ∃ b, r = .ret (.bool b) ∧ (b = true ↔ fitsP n l) ∧ H = H' := by
  refine Does.of Tryd.func9 (fun _ _ => rfl) rfl ?_
  repeat' ((conv => whnf); first
    | (refine Both.intro ?_ ?_ <;> intro _ <;> try (exfalso; omega))
    | (refine Need.intro (by omega) ?_)
    | (refine Does.mono (number_any _ _) ?_; rintro _ _ ⟨b, rfl, hb, rfl⟩; cases b <;> simp at hb)
    | fail)
  all_goals (conv => whnf)
  · exact ⟨_, rfl, iff_of_false (by simp) (fun h => by have := h.1; have := h.2.1; omega), rfl⟩
  · refine Gives.intro ⟨_, rfl, ?_⟩
    repeat' ((conv => whnf); first
      | (refine Both.intro ?_ ?_ <;> intro _ <;> try (exfalso; omega))
      | (refine Need.intro (by omega) ?_)
      | (refine Gives.intro ⟨_, shr_ok (by omega), ?_⟩)
      | fail)
    all_goals (conv => whnf)
    all_goals
      rename_i h
      obtain ⟨m, rfl⟩ := Int.eq_ofNat_of_zero_le (by omega : 0 ≤ n)
      have hw : IntKind.i64.wrap (l : Int) = l := wrap_i64 (by omega)
      have hs : Int.fdiv (IntKind.i64.wrap (l : Int)) (2 ^ min (m : Int).toNat IntKind.i64.bits) = ((l / 2 ^ m : Nat) : Int) := by
        have : min (m : Int).toNat IntKind.i64.bits = m := by
          show min m 64 = m
          omega
        rw [hw, this, Int.fdiv_eq_ediv_of_nonneg _ (by exact Int.pow_nonneg (by omega))]
        norm_cast
      rw [hs] at h
      have hd : l / 2 ^ m = 0 ↔ l < 2 ^ m := Nat.div_eq_zero_iff_lt (Nat.two_pow_pos m)
      refine ⟨_, rfl, ?_, rfl⟩
      simp [fitsP]
      omega
theorem no_bits : ∀ n < 9, ∀ l < 256, (∀ j < 8, n ≤ j → ¬ bitP l j) ↔ l < 2 ^ n := by decide +kernel
theorem refFits_any (H : AHeap) (n : Int) (l : Nat) (hl : l < 256) : Does Tryd.prog orc 36 [.int .i64 n, .int .u8 l] H fun r H' => ∃ b, r = .ret (.bool b) ∧ (b = true ↔ fitsP n l) ∧ H = H' := by
  refine Does.of Tryd.func36 (fun _ _ => rfl) rfl ?_
  repeat' ((conv => whnf); first
    | (refine Both.intro ?_ ?_ <;> intro _ <;> try (exfalso; omega))
    | (refine Need.intro (by omega) ?_)
    | fail)
  all_goals (conv => whnf)
  iterate 2 exact ⟨_, rfl, iff_of_false (by simp) (fun h => by have := h.1; have := h.2.1; omega), rfl⟩
  obtain ⟨m, rfl⟩ := Int.eq_ofNat_of_zero_le (by omega : 0 ≤ n)
  refine Runs.loop (fun k : Nat => [(5, .int .i64 k), (0, .int .i64 (m : Int)), (1, .int .u8 l)]) (fun k H' => H = H' ∧ m ≤ k ∧ k ≤ 8 ∧ ∀ j < k, m ≤ j → ¬ bitP l j) (fun k => 8 - k) m ⟨rfl, rfl, rfl, trivial⟩ ⟨rfl, by omega, by omega, by omega⟩ ?_
  rintro k _ ⟨rfl, hk, hk8, hall⟩
  have hno := no_bits m (by omega) l hl
  repeat' ((conv => whnf); first
    | (refine Both.intro ?_ ?_ <;> intro _ <;> try (exfalso; omega))
    | (refine Need.intro (by omega) ?_)
    | (refine Does.mono (bit_any _ _ _ hl) ?_; rintro _ _ ⟨b, rfl, hb, rfl⟩; cases b)
    | fail)
  all_goals (conv => whnf)
  · rename_i h
    simp at hb
    refine ⟨k + 1, ⟨rfl, rfl, rfl, trivial⟩, ⟨rfl, by omega, by omega, fun j hj hm => ?_⟩, by omega⟩
    by_cases hjk : j < k
    · exact hall j hjk hm
    · obtain rfl : j = k := by omega
      exact hb (by omega)
  · simp at hb
    exact ⟨_, rfl, iff_of_false (by simp) (fun h => hno.2 h.2.2 k (by omega) hk hb.2), rfl⟩
  · exact ⟨_, rfl, iff_of_true rfl ⟨by omega, by omega, hno.1 fun j hj hm => hall j (by omega) hm⟩, rfl⟩

/-- All letters, rising. -/
def allL (m : Nat) : List Int := (List.range m).map fun i : Nat => (i : Int)
theorem allL_succ (m : Nat) : allL (m + 1) = allL m ++ [(m : Int)] := by simp [allL, List.range_succ]
theorem allL_len (m : Nat) : (allL m).length = m := by simp [allL]
/-- What a made row of letters holds when k of them are written. -/
def filled (m k : Nat) : List Value := lets (allL k) ++ List.replicate (m - k) (.int .u8 0)
theorem filled_set {m k : Nat} (h : k < m) : (filled m k).set k (.int .u8 k) = filled m (k + 1) := by
  have h1 : (lets (allL k)).length = k := by simp [lets, allL_len]
  unfold filled
  rw [List.set_append, h1, if_neg (by omega), Nat.sub_self, allL_succ, show m - k = (m - (k + 1)) + 1 by omega, List.replicate_succ]
  simp [lets]
theorem filled_len {m k : Nat} (h : k ≤ m) : (filled m k).length = m := by simp [filled, allL_len]; omega
theorem two_pow_le {n : Nat} (h : n ≤ 8) : 2 ^ n ≤ 256 ∧ 1 ≤ 2 ^ n := ⟨Nat.le_trans (Nat.pow_le_pow_right (by decide) h) (by decide), Nat.one_le_two_pow⟩
theorem shl_one {n : Nat} (h : n ≤ 8) : IntKind.i64.wrap (1 * 2 ^ (min (n : Int).toNat IntKind.i64.bits)) = ((2 ^ n : Nat) : Int) := by
  have h1 : min (n : Int).toNat IntKind.i64.bits = n := by
    show min n 64 = n
    omega
  have h2 := two_pow_le h
  rw [h1, Int.one_mul]
  have h3 : (2 : Int) ^ n = ((2 ^ n : Nat) : Int) := by norm_cast
  rw [h3]
  exact wrap_i64 (by omega)
/-- What All tells. -/
inductive Alls (n : Int) (H H' : AHeap) : Value → Prop
  | none (h : ¬ (0 ≤ n ∧ n ≤ 8)) (hh : H = H') : Alls n H H' (.slice none 0 0)
  | some (m : Nat) (h : n = m) (hm : m ≤ 8) (b : Nat) (hb : H.next ≤ b) (he : Ext H H') (hg : H'.get b = some (.cells (lets (allL (2 ^ m))) 0 true)) : Alls n H H' (.slice (some ⟨b, 0, none⟩) (2 ^ m) (2 ^ m))
theorem all_any (H : AHeap) (n : Int) : Does Tryd.prog orc 8 [.int .i64 n] H fun r H' => ∃ v, r = .ret v ∧ Alls n H H' v := by
  refine Does.of Tryd.func8 (fun _ _ => rfl) rfl ?_
  repeat' ((conv => whnf); first
    | (refine Both.intro ?_ ?_ <;> intro _ <;> try (exfalso; omega))
    | (refine Need.intro (by omega) ?_)
    | (refine Does.mono (number_any _ _) ?_; rintro _ _ ⟨b, rfl, hb, rfl⟩; cases b <;> simp at hb)
    | fail)
  all_goals (conv => whnf)
  · exact ⟨_, rfl, .none (by omega) rfl⟩
  · obtain ⟨m, rfl⟩ := Int.eq_ofNat_of_zero_le hb.1
    have hm : m ≤ 8 := by omega
    have hp := two_pow_le hm
    refine Gives.intro ⟨_, shl_ok (by omega), ?_⟩
    rw [shl_one hm]
    conv => whnf
    refine ⟨_, _, _, makeSlice_ok Tryd.underlying24 (z := .int .u8 0) (by kernel_rfl) rfl (by_ := 1) (by kernel_rfl) (by kernel_rfl) (by omega), ?_⟩
    conv => whnf
    refine Runs.loop (fun k : Nat => [(13, .int .i64 k), (12, .int .i64 (2 ^ m : Nat)), (3, .slice (some ⟨H.next, 0, none⟩) (2 ^ m) (2 ^ m))]) (fun k H' => k ≤ 2 ^ m ∧ Ext H H' ∧ H'.get H.next = some (.cells (filled (2 ^ m) k) 0 true)) (fun k => 2 ^ m - k) 0 ⟨rfl, rfl, rfl, trivial⟩ ⟨by omega, Ext.push _ _, ?_⟩ ?_
    · rw [AHeap.get_push, if_pos rfl, Int.toNat_natCast]; simp [filled, allL, lets]
    rintro k H1 ⟨hk, he, hg⟩
    by_cases hlt : k < 2 ^ m
    · have hw : IntKind.u8.wrap (k : Int) = k := by
        simp [IntKind.wrap, IntKind.bits, IntKind.signed]; omega
      repeat' ((conv => whnf); first
        | (refine Both.intro ?_ ?_ <;> intro _ <;> try (exfalso; omega))
        | (refine Need.intro (by omega) ?_)
        | (refine Gives.intro ⟨_, rfl, ?_⟩; rw [hw])
        | (refine Outs.intro ⟨_, _, _, store_ok (by kernel_rfl) rfl rfl hg (by rw [filled_len hk]; omega), ?_⟩)
        | fail)
      all_goals (conv => whnf)
      refine ⟨k + 1, ⟨rfl, rfl, rfl, trivial⟩, ⟨by omega, he.set (Nat.le_refl _) _, ?_⟩, by omega⟩
      rw [AHeap.get_set, if_pos rfl, ← filled_set hlt, Nat.zero_add, Int.toNat_natCast]
    · skip
      repeat' ((conv => whnf); first
        | (refine Both.intro ?_ ?_ <;> intro _ <;> try (exfalso; omega))
        | (refine Need.intro (by omega) ?_)
        | fail)
      all_goals (conv => whnf)
      obtain rfl : k = 2 ^ m := by omega
      exact ⟨_, rfl, .some m rfl hm H.next (Nat.le_refl _) he (by rw [hg]; simp [filled])⟩
theorem letTy : AppTy Tryd.prog #[24, 24] 26 1 where
  t0 := by kernel_rfl
  t1 := by kernel_rfl
  size := by kernel_rfl
  bytes := by kernel_rfl
  pos := by decide
  zero := ⟨.int .u8 0, by kernel_rfl, rfl⟩
theorem refAll_any (H : AHeap) (hw : Wf H) (n : Int) : Does Tryd.prog orc 39 [.int .i64 n] H fun r H' => ∃ v, r = .ret v ∧ Ext H H' ∧ Wf H' ∧ Grown H H' (rowV 26 1) v (if 0 ≤ n ∧ n ≤ 8 then lets (allL (2 ^ n.toNat)) else []) := by
  refine Does.of Tryd.func39 (fun _ _ => rfl) rfl ?_
  conv => whnf
  refine Runs.loop (fun s : Nat × Value => [(4, .int .i64 s.1), (3, s.2), (0, .int .i64 n)]) (fun s H' => Ext H H' ∧ Wf H' ∧ Grown H H' (rowV 26 1) s.2 (lets (allL s.1)) ∧ (0 < s.1 → 0 ≤ n ∧ n ≤ 8 ∧ s.1 ≤ 2 ^ n.toNat)) (fun s => 256 - s.1) (0, .slice none 0 0) ⟨rfl, rfl, rfl, trivial⟩ ⟨Ext.refl _, hw, .inl ⟨rfl, rfl⟩, by simp⟩ ?_
  rintro ⟨k, v⟩ H1 ⟨he, hw1, hv, hk⟩
  dsimp only at hv hk
  by_cases hn : 0 ≤ n ∧ n ≤ 8
  · obtain ⟨m, rfl⟩ := Int.eq_ofNat_of_zero_le hn.1
    have hm : m ≤ 8 := by omega
    have hp := two_pow_le hm
    rw [Int.toNat_natCast] at hk
    have hkk : k ≤ 2 ^ m := by
      by_cases h0 : 0 < k
      · exact (hk h0).2.2
      · omega
    rw [if_pos hn, Int.toNat_natCast]
    conv => whnf
    refine Both.intro ?_ ?_ <;> intro _ <;> try (exfalso; omega)
    conv => whnf
    refine Both.intro ?_ ?_ <;> intro _ <;> try (exfalso; omega)
    conv => whnf
    refine Need.intro (by omega) ?_
    conv => whnf
    refine Gives.intro ⟨_, shl_ok (by omega), ?_⟩
    rw [shl_one hm]
    by_cases hlt : k < 2 ^ m
    · have hwr : IntKind.u8.wrap (k : Int) = k := by
        simp [IntKind.wrap, IntKind.bits, IntKind.signed]; omega
      repeat' ((conv => whnf); first
        | (refine Both.intro ?_ ?_ <;> intro _ <;> try (exfalso; omega))
        | (refine Need.intro (by omega) ?_)
        | (refine Gives.intro ⟨_, rfl, ?_⟩; rw [hwr])
        | (refine ⟨_, rfl, ?_⟩)
        | fail)
      all_goals (conv => whnf)
      have hx : srcCells (H1.push (.cells [.int .u8 k] 0 true)) 1 (.slice (some ⟨H1.next, 0, none⟩) 1 1) = some (1, [.int .u8 k]) := src_slice (by rw [AHeap.get_push, if_pos rfl]) rfl (Nat.le_refl _) (by decide)
      have hl : (lets (allL k)).length = k := by simp [allL_len]
      obtain ⟨v', H2, ev, ha, hg', he', hw'⟩ := grown_ok (he.trans (Ext.push H1 (.cells [.int .u8 k] 0 true))) (hw1.push _) letTy (hv.ext hw1 (Ext.push _ _)) hx rfl rfl (by decide) (by rw [hl]; omega) (by rw [hl]; omega)
      refine Outs.intro ⟨v', H2, ev, ha, ?_⟩
      repeat' ((conv => whnf); first
        | (refine Both.intro ?_ ?_ <;> intro _ <;> try (exfalso; omega))
        | (refine Need.intro (by omega) ?_)
        | fail)
      all_goals (conv => whnf)
      refine ⟨(k + 1, v'), ⟨rfl, rfl, rfl, trivial⟩, ⟨he', hw', ?_, fun _ => ⟨by omega, by omega, by show k + 1 ≤ 2 ^ m; omega⟩⟩, by dsimp only; omega⟩
      rw [allL_succ, lets, List.map_append]; exact hg'
    · skip
      repeat' ((conv => whnf); first
        | (refine Both.intro ?_ ?_ <;> intro _ <;> try (exfalso; omega))
        | (refine Need.intro (by omega) ?_)
        | fail)
      all_goals (conv => whnf)
      obtain rfl : k = 2 ^ m := by omega
      exact ⟨_, rfl, he, hw1, hv⟩
  · rw [if_neg hn]
    have h0 : k = 0 := by
      by_cases h0 : 0 < k
      · exact absurd ⟨(hk h0).1, (hk h0).2.1⟩ hn
      · omega
    subst h0
    repeat' ((conv => whnf); first
      | (refine Both.intro ?_ ?_ <;> intro _ <;> try (exfalso; omega))
      | (refine Need.intro (by omega) ?_)
      | fail)
    all_goals (conv => whnf)
    all_goals exact ⟨_, rfl, he, hw1, hv⟩
end Go.AX.Tryd
