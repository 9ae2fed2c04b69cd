/- slices.Sort at uint64: bits.Len, nextPowerOfTwo, xorshift, breakPatternsOrdered. -/
import Derived.Test.YtffnjihgboeonaaLSrtD
namespace Go.AX.Try
open Go Go.AX Go.AX.Lw Go.Proofs
set_option linter.unusedVariables false
set_option linter.unusedSimpArgs false
set_option maxRecDepth 100000
theorem u64wrap (x : Nat) : IntKind.u64.wrap (x : Int) = ((x % 18446744073709551616 : Nat) : Int) := by
  simp [IntKind.wrap, IntKind.bits, IntKind.signed]
theorem u64bv (x : Nat) (h : x < 18446744073709551616) : (BitVec.ofInt IntKind.u64.bits (x : Int)).toNat = x := by
  simp [IntKind.bits, BitVec.toNat_ofInt]
  omega
theorem shlU (x k : Nat) (z : Int) (hz : z = k) (hk : k < 64) : aShift .shl .u64 (x : Int) z = some (.int .u64 ((x * 2 ^ k % 18446744073709551616 : Nat) : Int)) := by
  subst hz
  rw [shl_ok (by omega)]
  have : min ((k : Int)).toNat IntKind.u64.bits = k := by simp [IntKind.bits]; omega
  rw [this, ← u64wrap]
  simp
theorem shrU (x k : Nat) (z : Int) (hz : z = k) (hk : k < 64) (hx : x < 18446744073709551616) : aShift .shr .u64 (x : Int) z = some (.int .u64 ((x / 2 ^ k : Nat) : Int)) := by
  subst hz
  rw [shr_ok (by omega)]
  have : min ((k : Int)).toNat IntKind.u64.bits = k := by simp [IntKind.bits]; omega
  rw [this]
  have h2 : Int.fdiv (x : Int) (2 ^ k) = ((x / 2 ^ k : Nat) : Int) := by
    rw [show (2 : Int) ^ k = ((2 ^ k : Nat) : Int) by simp, Int.fdiv_eq_ediv_of_nonneg _ (Int.natCast_nonneg _), ← Int.natCast_ediv]
  rw [h2]
theorem xorU (x y : Nat) (hx : x < 18446744073709551616) (hy : y < 18446744073709551616) : aInt .xor .u64 (x : Int) (y : Int) = some (.int .u64 ((x ^^^ y : Nat) : Int)) := by
  unfold aInt
  simp only
  rw [BitVec.toNat_xor, u64bv x hx, u64bv y hy, u64wrap, Nat.mod_eq_of_lt (Nat.xor_lt_two_pow (n := 64) (by omega) (by omega))]
theorem andU (x y : Nat) (hx : x < 18446744073709551616) (hy : y < 18446744073709551616) : aInt .and .u64 (x : Int) (y : Int) = some (.int .u64 ((x &&& y : Nat) : Int)) := by
  unfold aInt
  simp only
  rw [BitVec.toNat_and, u64bv x hx, u64bv y hy, u64wrap, Nat.mod_eq_of_lt (Nat.lt_of_le_of_lt Nat.and_le_left hx)]
theorem cU8 (x : Nat) (h : x < 256) : aConv Try.prog 27 5 (.int .u64 x) = some (.int .u8 x) := by
  have : aConv Try.prog 27 5 (.int .u64 x) = some (.int .u8 (IntKind.u8.wrap x)) := by kernel_rfl
  rw [this, Go.IntWalk.u8_in _ (by omega)]
theorem cUi (x : Nat) (h : x < 18446744073709551616) : aConv Try.prog 3 46 (.int .i64 x) = some (.int .u64 x) := by
  have : aConv Try.prog 3 46 (.int .i64 x) = some (.int .u64 (IntKind.u64.wrap x)) := by kernel_rfl
  rw [this, u64wrap, Nat.mod_eq_of_lt h]
theorem cXs (x : Nat) (z : Int) (hz : z = x) (h : x < 18446744073709551616) : aConv Try.prog 3 61 (.int .i64 z) = some (.int .u64 x) := by
  have : aConv Try.prog 3 61 (.int .i64 z) = some (.int .u64 (IntKind.u64.wrap z)) := by kernel_rfl
  rw [this, hz, u64wrap, Nat.mod_eq_of_lt h]
theorem tabAt {L : List UInt8} (h : (List.range 256).all (fun y => L[y]? == some (UInt8.ofNat (Go.Sort.bitsLen y))) = true) (y : Nat) (hy : y < 256) : L[y]? = some (UInt8.ofNat (Go.Sort.bitsLen y)) := by
  have := List.all_eq_true.1 h y (by simpa using hy)
  simpa using this
theorem cT (y : Nat) (hy : y < 256) : aConv Try.prog 5 3 (.int .u8 ((UInt8.ofNat (Go.Sort.bitsLen y)).toNat : Nat)) = some (.int .i64 (Go.Sort.bitsLen y)) := by
  have h8 : Go.Sort.bitsLen y ≤ 8 := (Go.Sort.bitsLen_le_iff y 8).2 (by omega)
  have e : (UInt8.ofNat (Go.Sort.bitsLen y)).toNat = Go.Sort.bitsLen y := by
    rw [UInt8.toNat_ofNat']; omega
  rw [e]
  have : aConv Try.prog 5 3 (.int .u8 (Go.Sort.bitsLen y)) = some (.int .i64 (IntKind.i64.wrap (Go.Sort.bitsLen y))) := by kernel_rfl
  rw [this, wrap_i64 (by omega)]
theorem bits8 (x : Nat) (h : 256 ≤ x) : 8 + Go.Sort.bitsLen (x / 2 ^ 8) = Go.Sort.bitsLen x := by
  have h1 := (Go.Sort.bitsLen_le_iff x (Go.Sort.bitsLen (x / 2 ^ 8) + 8)).2 (by
    have := (Go.Sort.bitsLen_le_iff (x / 2 ^ 8) _).1 (Nat.le_refl _)
    rw [Nat.pow_add]
    exact (Nat.div_lt_iff_lt_mul (by decide)).1 this)
  have h2 : ¬ Go.Sort.bitsLen x ≤ 8 := fun hc => by have := (Go.Sort.bitsLen_le_iff x 8).1 hc; omega
  have h3 := (Go.Sort.bitsLen_le_iff (x / 2 ^ 8) (Go.Sort.bitsLen x - 8)).2 (by
    have := (Go.Sort.bitsLen_le_iff x _).1 (Nat.le_refl _)
    refine (Nat.div_lt_iff_lt_mul (by decide)).2 ?_
    rw [← Nat.pow_add, Nat.sub_add_cancel (by omega)]
    exact this)
  omega
theorem xsStore {H : AHeap} {v ev : Nat} {x : Value} (z : Int) (hv : H.get v = some (.cells [x] ev true)) : aStore Try.prog H 61 (.pointer (some ⟨v, 0, none⟩)) (.int .u64 z) = some (.val undef (H.set v (.cells [.int .u64 z] ev true)) (.eff H (H.set v (.cells [.int .u64 z] ev true)))) :=
  store_ok (P := Try.prog) (t := 61) (H := H) (b := v) (o := 0) (v := .int .u64 z) (cs := [x]) (by kernel_rfl) rfl rfl hv (by simp)
theorem bnd (c : Int) (hc : 0 ≤ c ∧ c ≤ 100) (L : Nat) (hL : L ≤ 16) : -9223372036854775808 ≤ c + (L : Int) ∧ c + (L : Int) ≤ 9223372036854775807 := by omega
theorem len64_any (H : AHeap) (x : Nat) (hx : x < 65536) : Does Try.prog orc 40 [.int .u64 x] H fun r H' => r = .ret (.int .i64 (Go.Sort.bitsLen x)) ∧ H = H' := by
  refine Does.of Try.func40 (fun _ _ => rfl) rfl ?_
  by_cases h8 : 256 ≤ x
  · have hL : Go.Sort.bitsLen (x / 2 ^ 8) ≤ 16 := (Go.Sort.bitsLen_le_iff _ 16).2 (by omega)
    repeat' ((conv => whnf); first
      | (refine Both.intro ?_ ?_ <;> intro _ <;> try (exfalso; omega))
      | (refine Need.intro (by omega) ?_)
      | (refine Gives.intro ⟨_, shrU x 8 8 rfl (by decide) (by omega), ?_⟩)
      | (refine Gives.intro ⟨_, cU8 _ (by omega), ?_⟩)
      | (refine ⟨_, tabAt (by kernel_rfl) _ (by omega), ?_⟩)
      | (refine Gives.intro ⟨_, cT _ (by omega), ?_⟩)
      | (refine Need.intro (DrawP.intro (by kernel_rfl)) ?_)
      | (refine Need.intro (bnd _ (by decide) (Go.Sort.bitsLen (x / 2 ^ 8)) hL) ?_)
      | fail)
    all_goals (conv => whnf)
    exact ⟨congrArg (fun y : Int => CRes.ret (.int .i64 y)) (show 0 + 8 + ((Go.Sort.bitsLen (x / 2 ^ 8) : Nat) : Int) = _ by have := bits8 x h8; omega), rfl⟩
  · have hL : Go.Sort.bitsLen x ≤ 16 := (Go.Sort.bitsLen_le_iff _ 16).2 (by omega)
    repeat' ((conv => whnf); first
      | (refine Both.intro ?_ ?_ <;> intro _ <;> try (exfalso; omega))
      | (refine Need.intro (by omega) ?_)
      | (refine Gives.intro ⟨_, cU8 _ (by omega), ?_⟩)
      | (refine ⟨_, tabAt (by kernel_rfl) _ (by omega), ?_⟩)
      | (refine Gives.intro ⟨_, cT _ (by omega), ?_⟩)
      | (refine Need.intro (DrawP.intro (by kernel_rfl)) ?_)
      | (refine Need.intro (bnd _ (by decide) (Go.Sort.bitsLen x) hL) ?_)
      | fail)
    all_goals (conv => whnf)
    exact ⟨congrArg (fun y : Int => CRes.ret (.int .i64 y)) (show 0 + ((Go.Sort.bitsLen x : Nat) : Int) = _ by omega), rfl⟩
theorem len_any (H : AHeap) (x : Nat) (hx : x < 65536) : Does Try.prog orc 27 [.int .u64 x] H fun r H' => r = .ret (.int .i64 (Go.Sort.bitsLen x)) ∧ H = H' := by
  refine Does.of Try.func27 (fun _ _ => rfl) rfl ?_
  have c6 : aConv Try.prog 46 27 (.int .u64 x) = some (.int .u64 (IntKind.u64.wrap x)) := by kernel_rfl
  rw [u64wrap, Nat.mod_eq_of_lt (by omega)] at c6
  repeat' ((conv => whnf); first
    | (refine Both.intro ?_ ?_ <;> intro _ <;> try (exfalso; omega))
    | (refine Need.intro (by omega) ?_)
    | (refine Gives.intro ⟨_, c6, ?_⟩)
    | (refine Does.mono (len64_any H x hx) ?_ ; rintro _ _ ⟨rfl, rfl⟩)
    | fail)
  all_goals (conv => whnf)
  exact ⟨rfl, rfl⟩
theorem next_any (H : AHeap) (hw : Wf H) (v ev x : Nat) (hx : x < 18446744073709551616) (hv : H.get v = some (.cells [.int .u64 x] ev true)) : Does Try.prog orc 43 [.pointer (some ⟨v, 0, none⟩)] H fun r H' => r = .ret (.int .u64 (Go.Sort.xorNextN x)) ∧ H'.get v = some (.cells [.int .u64 (Go.Sort.xorNextN x)] ev true) ∧ Wf H' ∧ H'.next = H.next ∧ ∀ c, c ≠ v → H'.get c = H.get c := by
  refine Does.of Try.func43 (fun _ _ => rfl) rfl ?_
  have hcv : cellAt H v 0 = some (.int .u64 x) := cellAt_of hv (o := 0) rfl
  obtain ⟨x1, h1⟩ : ∃ y, y = x ^^^ (x * 2 ^ 13 % 18446744073709551616) := ⟨_, rfl⟩
  obtain ⟨x2, h2⟩ : ∃ y, y = x1 ^^^ (x1 / 2 ^ 7) := ⟨_, rfl⟩
  obtain ⟨x3, h3⟩ : ∃ y, y = x2 ^^^ (x2 * 2 ^ 17 % 18446744073709551616) := ⟨_, rfl⟩
  have l1 : x1 < 18446744073709551616 := by rw [h1]; exact Nat.xor_lt_two_pow (n := 64) (by omega) (by omega)
  have l2 : x2 < 18446744073709551616 := by rw [h2]; exact Nat.xor_lt_two_pow (n := 64) (by omega) (by omega)
  have l3 : x3 < 18446744073709551616 := by rw [h3]; exact Nat.xor_lt_two_pow (n := 64) (by omega) (by omega)
  have hX : Go.Sort.xorNextN x = x3 := by unfold Go.Sort.xorNextN; rw [h3, h2, h1]
  rw [hX]
  have X1 := xorU x (x * 2 ^ 13 % 18446744073709551616) hx (by omega)
  rw [← h1] at X1
  have X2 := xorU x1 (x1 / 2 ^ 7) l1 (by omega)
  rw [← h2] at X2
  have X3 := xorU x2 (x2 * 2 ^ 17 % 18446744073709551616) l2 (by omega)
  rw [← h3] at X3
  have gs : ∀ (G : AHeap) (z : Nat), (G.set v (.cells [.int .u64 z] ev true)).get v = some (.cells [.int .u64 z] ev true) := fun G z => by rw [AHeap.get_set, if_pos rfl]
  have cs : ∀ (G : AHeap) (z : Nat), cellAt (G.set v (.cells [.int .u64 z] ev true)) v 0 = some (.int .u64 z) := fun G z => cellAt_of (gs G z) (o := 0) rfl
  repeat' ((conv => whnf); first
    | (refine Both.intro ?_ ?_ <;> intro _ <;> try (exfalso; omega))
    | (refine Need.intro (by omega) ?_)
    | (refine ⟨_, hcv, ?_⟩)
    | (refine ⟨_, cs _ _, ?_⟩)
    | (refine Gives.intro ⟨_, shlU _ 13 _ rfl (by decide), ?_⟩)
    | (refine Gives.intro ⟨_, shlU _ 17 _ rfl (by decide), ?_⟩)
    | (refine Gives.intro ⟨_, shrU _ 7 _ rfl (by decide) l1, ?_⟩)
    | (refine Gives.intro ⟨_, X1, ?_⟩)
    | (refine Gives.intro ⟨_, X2, ?_⟩)
    | (refine Gives.intro ⟨_, X3, ?_⟩)
    | (refine Outs.intro ⟨_, _, _, xsStore _ hv, ?_⟩)
    | (refine Outs.intro ⟨_, _, _, xsStore _ (gs _ _), ?_⟩)
    | (refine Need.intro (DrawP.intro (by kernel_rfl)) ?_)
    | fail)
  all_goals (conv => whnf)
  refine ⟨rfl, gs _ _, ?_, rfl, fun c hc => by rw [AHeap.get_set, if_neg hc, AHeap.get_set, if_neg hc, AHeap.get_set, if_neg hc]⟩
  exact ((hw.set hv _).set (gs _ _) _).set (gs _ _) _
theorem npt_any (H : AHeap) (x : Nat) (hx : x < 65536) : Does Try.prog orc 42 [.int .i64 x] H fun r H' => r = .ret (.int .u64 (1 <<< Go.Sort.bitsLen x : Nat)) ∧ H = H' := by
  refine Does.of Try.func42 (fun _ _ => rfl) rfl ?_
  repeat' ((conv => whnf); first
    | (refine Both.intro ?_ ?_ <;> intro _ <;> try (exfalso; omega))
    | (refine Need.intro (by omega) ?_)
    | (refine Gives.intro ⟨_, cUi _ (by omega), ?_⟩)
    | (refine Does.mono (len_any H x hx) ?_ ; rintro _ _ ⟨rfl, rfl⟩)
    | (refine Gives.intro ⟨_, shlU 1 _ _ rfl (by have := (Go.Sort.bitsLen_le_iff x 16).2 (by omega); omega), ?_⟩)
    | fail)
  all_goals (conv => whnf)
  refine ⟨congrArg (fun y : Nat => CRes.ret (.int .u64 (y : Int))) ?_, rfl⟩
  have hL := (Go.Sort.bitsLen_le_iff x 16).2 (by omega)
  rw [Nat.one_mul, Nat.shiftLeft_eq, Nat.one_mul, Nat.mod_eq_of_lt]
  exact Nat.lt_of_le_of_lt (Nat.pow_le_pow_right (by decide) hL) (by decide)
def brk (a L M I0 : Nat) : Nat → UInt64 × Array Nat → Array Nat
  | 0, st => st.2
  | k + 1, st => brk a L M I0 k (Go.Sort.breakStep a L M st (I0 + (3 - (k + 1))))
theorem cUU (x : Nat) (h : x < 18446744073709551616) : aConv Try.prog 27 46 (.int .u64 x) = some (.int .u64 x) := by
  have : aConv Try.prog 27 46 (.int .u64 x) = some (.int .u64 (IntKind.u64.wrap x)) := by kernel_rfl
  rw [this, u64wrap, Nat.mod_eq_of_lt h]
theorem cUI (x : Nat) (h : x < 2 ^ 62) : aConv Try.prog 46 3 (.int .u64 x) = some (.int .i64 x) := by
  have : aConv Try.prog 46 3 (.int .u64 x) = some (.int .i64 (IntKind.i64.wrap x)) := by kernel_rfl
  rw [this, wrap_i64 (by omega)]
theorem subU (x : Nat) (h : 1 ≤ x) (hx : x < 18446744073709551616) : aInt .sub .u64 (x : Int) 1 = some (.int .u64 ((x - 1 : Nat) : Int)) := by
  unfold aInt
  simp only
  rw [show (x : Int) - 1 = ((x - 1 : Nat) : Int) by omega, u64wrap, Nat.mod_eq_of_lt (by omega)]
theorem break_any (H : AHeap) (hw : Wf H) (blk e c : Nat) (st : Option Nat) (d : Array Nat) (n : Nat) (hn : n = d.size) (hd : Arr H blk e d) (hc : n ≤ c) (hsz : n ≤ 4096) (a b : Nat) (ha : a + 12 < b) (hb : b ≤ n) :
    Does Try.prog orc 32 [DV blk n c st, .int .i64 a, .int .i64 b] H fun r H' => r = .ret (.tuple #[]) ∧ Upd blk e H H' (Go.Sort.breakPatterns d a b) := by
  refine Does.of Try.func32 (fun _ _ => rfl) rfl ?_
  have hz0 : zeroOf Try.prog 61 = some (.int .u64 0) := by kernel_rfl
  have hnp : ∀ H, Does Try.prog orc 42 [.int .i64 ((b : Int) - (a : Int))] H fun r H' => r = .ret (.int .u64 (1 <<< Go.Sort.bitsLen (b - a) : Nat)) ∧ H = H' := fun H => by
    rw [show (b : Int) - (a : Int) = ((b - a : Nat) : Int) by omega]
    exact npt_any H (b - a) (by omega)
  repeat' ((conv => whnf); first
    | (refine Both.intro ?_ ?_ <;> intro _ <;> try (exfalso; omega))
    | (refine Need.intro (by omega) ?_)
    | (refine Gives.intro ⟨_, cXs (b - a) _ (by omega) (by omega), ?_⟩)
    | (refine Gives.intro ⟨.int .u64 0, hz0, ?_⟩)
    | (refine Gives.intro ⟨_, quoN (x := b - a) (y := 4) (by omega) (by omega) (by omega), ?_⟩)
    | (refine Gives.intro ⟨_, mulN ((b - a) / 4) 2 rfl rfl (by omega), ?_⟩)
    | (refine Outs.intro ⟨_, _, _, xsStore _ (get_new _ _), ?_⟩)
    | (refine Does.mono (hnp _) ?_ ; rintro _ _ ⟨rfl, rfl⟩)
    | fail)
  all_goals (conv => whnf)
  obtain ⟨L, hL⟩ : ∃ L, L = b - a := ⟨_, rfl⟩
  obtain ⟨M, hM⟩ : ∃ M, M = 1 <<< Go.Sort.bitsLen (b - a) := ⟨_, rfl⟩
  obtain ⟨I0, hI0⟩ : ∃ I0, I0 = a + (b - a) / 4 * 2 - 1 := ⟨_, rfl⟩
  have hM2 : M = 2 ^ Go.Sort.bitsLen L := by rw [hM, hL, Nat.shiftLeft_eq, Nat.one_mul]
  have hM3 : M ≤ 2 * L := by rw [hM2]; exact Go.Sort.two_pow_bitsLen_le (by omega)
  have hM4 : 1 ≤ M := by rw [hM2]; exact Nat.one_le_two_pow
  have hblk : blk < H.next := hw.lt hd
  have hbr : Go.Sort.breakPatterns d a b = brk a L M I0 3 (UInt64.ofNat L, d) := by
    unfold Go.Sort.breakPatterns
    dsimp only
    rw [if_pos (by omega), hM, hL, hI0]
    rfl
  have hLu : (UInt64.ofNat L).toNat = L := by rw [UInt64.toNat_ofNat']; omega
  rw [hbr, ← hM, ← hL]
  obtain ⟨Z, hZ⟩ : ∃ Z, Z = (H.push (.cells [.int .u64 ((0 : Nat) : Int)] (typedV 61) true)).set H.next (.cells [.int .u64 (L : Int)] (typedV 61) true) := ⟨_, rfl⟩
  have gZ : Z.get H.next = some (.cells [.int .u64 (L : Int)] (typedV 61) true) := by rw [hZ, AHeap.get_set, if_pos rfl]
  have uZ : Upd blk e H Z d := by
    rw [hZ]
    exact ⟨by unfold Arr; rw [AHeap.get_set, if_neg (by omega), AHeap.get_push, if_neg (by omega)]; exact hd, (hw.push _).set (get_new _ _) _, by simp, fun x hx hb => by rw [AHeap.get_set, if_neg (by omega), AHeap.get_push, if_neg (by omega)]⟩
  have EV : ∀ k : Nat, k ≤ 3 → ((I0 + (3 - (k + 1)) : Nat) : Int) + 1 = ((I0 + (3 - k) : Nat) : Int) ∨ k = 3 := fun k hk => by omega
  refine Runs.loop (fun s : Nat × UInt64 × Array Nat => [(9, .int .i64 (I0 + (3 - s.1) : Nat)), (6, .int .i64 ((b : Int) - (a : Int))), (7, .pointer (some ⟨H.next, 0, none⟩)), (8, .int .u64 (M : Nat)), (0, DV blk n c st), (1, .int .i64 a)])
    (fun s H' => Upd blk e H H' s.2.2 ∧ H'.get H.next = some (.cells [.int .u64 (s.2.1.toNat : Nat)] (typedV 61) true) ∧ s.2.2.size = n ∧ s.1 ≤ 3 ∧ brk a L M I0 s.1 s.2 = brk a L M I0 3 (UInt64.ofNat L, d)) (fun s => s.1) (3, UInt64.ofNat L, d) ⟨by dsimp only; rw [show ((I0 + (3 - 3) : Nat) : Int) = (a : Int) + (((b - a) / 4 * 2 : Nat) : Int) - 1 by omega]; rw [← hL]; rfl, rfl, rfl, rfl, rfl, rfl, trivial⟩ ⟨hZ ▸ uZ, by rw [hLu]; exact hZ ▸ gZ, hn.symm, Nat.le_refl _, rfl⟩ ?_
  rintro ⟨k, x, d2⟩ H2 ⟨up, hg, hs, hk, hT⟩
  dsimp only at up hg hs hk hT
  show vc _ _ _ _ _ [(9, .int .i64 (I0 + (3 - k) : Nat)), (6, .int .i64 ((b : Int) - (a : Int))), (7, .pointer (some ⟨H.next, 0, none⟩)), (8, .int .u64 (M : Nat)), (0, DV blk n c st), (1, .int .i64 a)] _ _
  cases k with
  | zero =>
    rw [brk] at hT
    repeat' ((conv => whnf); first
      | (refine Both.intro ?_ ?_ <;> intro _ <;> try (exfalso; omega))
      | (refine Need.intro (by omega) ?_)
      | (refine Gives.intro ⟨_, quoN (x := b - a) (y := 4) (by omega) (by omega) (by omega), ?_⟩)
      | (refine Gives.intro ⟨_, mulN ((b - a) / 4) 2 rfl rfl (by omega), ?_⟩)
      | fail)
    all_goals (conv => whnf)
    exact ⟨rfl, hT ▸ up⟩
  | succ k =>
    rw [brk] at hT
    have hx : x.toNat < 18446744073709551616 := x.toNat_lt
    obtain ⟨r, hr⟩ : ∃ r, r = Go.Sort.xorNext x := ⟨_, rfl⟩
    have hrn : Go.Sort.xorNextN x.toNat = r.toNat := by rw [hr, Go.Sort.xorNext_toNat]
    have hrl : r.toNat < 18446744073709551616 := r.toNat_lt
    have hnx := next_any H2 up.wf H.next _ x.toNat hx hg
    rw [hrn] at hnx
    obtain ⟨o, ho⟩ : ∃ o, o = r.toNat &&& (M - 1) := ⟨_, rfl⟩
    have hoM : o ≤ M - 1 := by rw [ho]; exact Nat.and_le_right
    have hst : Go.Sort.breakStep a L M (x, d2) (I0 + (3 - (k + 1))) = (r, Go.Sort.swp d2 (I0 + (3 - (k + 1))) (a + (if o ≥ L then o - L else o))) := by
      unfold Go.Sort.breakStep
      dsimp only
      rw [← hr, ← ho]
    rw [hst] at hT
    have A1 := andU r.toNat (M - 1) hrl (by omega)
    rw [← ho] at A1
    have hwr : IntKind.u64.wrap ((M : Int) - 1) = ((M - 1 : Nat) : Int) := by rw [show (M : Int) - 1 = ((M - 1 : Nat) : Int) by omega, u64wrap, Nat.mod_eq_of_lt (by omega)]
    rw [← hwr] at A1
    by_cases hge : o ≥ L
    · rw [if_pos hge] at hT
      repeat' ((conv => whnf); first
        | (refine Both.intro ?_ ?_ <;> intro _ <;> try (exfalso; omega))
        | (refine Need.intro (by omega) ?_)
        | (refine Gives.intro ⟨_, quoN (x := b - a) (y := 4) (by omega) (by omega) (by omega), ?_⟩)
        | (refine Gives.intro ⟨_, mulN ((b - a) / 4) 2 rfl rfl (by omega), ?_⟩)
        | (refine Does.mono hnx ?_ ; rintro _ H3 ⟨rfl, g3, w3, n3, o3⟩ ; have u3 : Upd blk e H H3 d2 := ⟨(o3 blk (by omega)).trans up.arr, w3, by have := up.next; omega, fun x hx hb => (o3 x (by omega)).trans (up.old x hx hb)⟩)
        | (refine Gives.intro ⟨_, cUU _ hrl, ?_⟩)
        | (refine Gives.intro ⟨_, A1, ?_⟩)
        | (refine Gives.intro ⟨_, cUI o (by omega), ?_⟩)
        | (refine Need.intro (DrawP.intro (by kernel_rfl)) ?_)
        | (refine ⟨_, u3.arr.cellI (i := I0 + (3 - (k + 1))) (by omega) (by omega), ?_⟩)
        | (refine ⟨_, u3.arr.cellI (i := a + (o - L)) (by omega) (by omega), ?_⟩)
        | (refine Outs.intro ⟨_, _, _, u3.arr.store (i := I0 + (3 - (k + 1))) _ (by omega) (by omega), ?_⟩)
        | (refine Outs.intro ⟨_, _, _, (u3.set _).arr.store (i := a + (o - L)) _ (by omega) (by rw [Array.size_setIfInBounds]; omega), ?_⟩)
        | (refine Need.intro (draw_mix ⟨⟨.inl (by kernel_rfl), .inl (by kernel_rfl), True.intro⟩, ⟨.inl (by kernel_rfl), .inl (by kernel_rfl), True.intro⟩, True.intro⟩) ?_)
        | fail)
      all_goals (conv => whnf)
      have u4 := ((u3.set (d2.setIfInBounds (I0 + (3 - (k + 1))) d2[a + (o - L)]!)).set (Go.Sort.swp d2 (I0 + (3 - (k + 1))) (a + (o - L))))
      exact ⟨(k, r, Go.Sort.swp d2 (I0 + (3 - (k + 1))) (a + (o - L))), ⟨by dsimp only; rw [show ((I0 + (3 - k) : Nat) : Int) = ((I0 + (3 - (k + 1)) : Nat) : Int) + 1 by omega]; rfl, rfl, rfl, rfl, rfl, rfl, trivial⟩, ⟨u4, by rw [AHeap.get_set, if_neg (by omega), AHeap.get_set, if_neg (by omega)]; exact g3, by dsimp only; rw [swp_size]; exact hs, by dsimp only; omega, hT⟩, by dsimp only; omega⟩
    · rw [if_neg hge] at hT
      repeat' ((conv => whnf); first
        | (refine Both.intro ?_ ?_ <;> intro _ <;> try (exfalso; omega))
        | (refine Need.intro (by omega) ?_)
        | (refine Gives.intro ⟨_, quoN (x := b - a) (y := 4) (by omega) (by omega) (by omega), ?_⟩)
        | (refine Gives.intro ⟨_, mulN ((b - a) / 4) 2 rfl rfl (by omega), ?_⟩)
        | (refine Does.mono hnx ?_ ; rintro _ H3 ⟨rfl, g3, w3, n3, o3⟩ ; have u3 : Upd blk e H H3 d2 := ⟨(o3 blk (by omega)).trans up.arr, w3, by have := up.next; omega, fun x hx hb => (o3 x (by omega)).trans (up.old x hx hb)⟩)
        | (refine Gives.intro ⟨_, cUU _ hrl, ?_⟩)
        | (refine Gives.intro ⟨_, A1, ?_⟩)
        | (refine Gives.intro ⟨_, cUI o (by omega), ?_⟩)
        | (refine Need.intro (DrawP.intro (by kernel_rfl)) ?_)
        | (refine ⟨_, u3.arr.cellI (i := I0 + (3 - (k + 1))) (by omega) (by omega), ?_⟩)
        | (refine ⟨_, u3.arr.cellI (i := a + o) (by omega) (by omega), ?_⟩)
        | (refine Outs.intro ⟨_, _, _, u3.arr.store (i := I0 + (3 - (k + 1))) _ (by omega) (by omega), ?_⟩)
        | (refine Outs.intro ⟨_, _, _, (u3.set _).arr.store (i := a + o) _ (by omega) (by rw [Array.size_setIfInBounds]; omega), ?_⟩)
        | (refine Need.intro (draw_mix ⟨⟨.inl (by kernel_rfl), .inl (by kernel_rfl), True.intro⟩, ⟨.inl (by kernel_rfl), .inl (by kernel_rfl), True.intro⟩, True.intro⟩) ?_)
        | fail)
      all_goals (conv => whnf)
      have u4 := ((u3.set (d2.setIfInBounds (I0 + (3 - (k + 1))) d2[a + o]!)).set (Go.Sort.swp d2 (I0 + (3 - (k + 1))) (a + o)))
      exact ⟨(k, r, Go.Sort.swp d2 (I0 + (3 - (k + 1))) (a + o)), ⟨by dsimp only; rw [show ((I0 + (3 - k) : Nat) : Int) = ((I0 + (3 - (k + 1)) : Nat) : Int) + 1 by omega]; rfl, rfl, rfl, rfl, rfl, rfl, trivial⟩, ⟨u4, by rw [AHeap.get_set, if_neg (by omega), AHeap.get_set, if_neg (by omega)]; exact g3, by dsimp only; rw [swp_size]; exact hs, by dsimp only; omega, hT⟩, by dsimp only; omega⟩
end Go.AX.Try
