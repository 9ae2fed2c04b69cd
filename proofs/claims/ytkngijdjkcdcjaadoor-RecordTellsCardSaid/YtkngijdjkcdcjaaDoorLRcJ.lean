/- strconv.Itoa: how many digits, and the numeral. -/
import Derived.Test.YtkngijdjkcdcjaaDoorLRcI
import Derived.Test.YtkngijdjkcdcjaaDoorLRcC
namespace Go.AX.Tryd
open Go Go.AX Go.AX.Lw Go.Proofs
set_option linter.unusedVariables false
set_option linter.unusedSimpArgs false
set_option maxRecDepth 100000
theorem u64wrap (x : Nat) : IntKind.u64.wrap (x : Int) = ((x % 18446744073709551616 : Nat) : Int) := by
  simp [IntKind.wrap, IntKind.bits, IntKind.signed]
theorem shrU (x k : Nat) (z : Int) (hz : z = k) (hk : k < 64) (hx : x < 18446744073709551616) : aShift .shr .u64 (x : Int) z = some (.int .u64 ((x / 2 ^ k : Nat) : Int)) := by
  subst hz
  rw [shr_ok (by omega)]
  have : min ((k : Int)).toNat IntKind.u64.bits = k := by simp [IntKind.bits]; omega
  rw [this]
  have h2 : Int.fdiv (x : Int) (2 ^ k) = ((x / 2 ^ k : Nat) : Int) := by
    rw [show (2 : Int) ^ k = ((2 ^ k : Nat) : Int) by simp, Int.fdiv_eq_ediv_of_nonneg _ (Int.natCast_nonneg _), ← Int.natCast_ediv]
  rw [h2]
theorem cU8 (x : Nat) (h : x < 256) : aConv Tryd.prog 78 5 (.int .u64 x) = some (.int .u8 x) := by
  have : aConv Tryd.prog 78 5 (.int .u64 x) = some (.int .u8 (IntKind.u8.wrap x)) := by kernel_rfl
  rw [this, Go.IntWalk.u8_in _ (by omega)]
theorem tabAt {L : List UInt8} (h : (List.range 256).all (fun y => L[y]? == some (UInt8.ofNat (Go.Sort.bitsLen y))) = true) (y : Nat) (hy : y < 256) : L[y]? = some (UInt8.ofNat (Go.Sort.bitsLen y)) := by
  have := List.all_eq_true.1 h y (by simpa using hy)
  simpa using this
theorem cT (y : Nat) (hy : y < 256) : aConv Tryd.prog 5 3 (.int .u8 ((UInt8.ofNat (Go.Sort.bitsLen y)).toNat : Nat)) = some (.int .i64 (Go.Sort.bitsLen y)) := by
  have h8 : Go.Sort.bitsLen y ≤ 8 := (Go.Sort.bitsLen_le_iff y 8).2 (by omega)
  have e : (UInt8.ofNat (Go.Sort.bitsLen y)).toNat = Go.Sort.bitsLen y := by
    rw [UInt8.toNat_ofNat']; omega
  rw [e]
  have : aConv Tryd.prog 5 3 (.int .u8 (Go.Sort.bitsLen y)) = some (.int .i64 (IntKind.i64.wrap (Go.Sort.bitsLen y))) := by kernel_rfl
  rw [this, wrap_i64 (by omega)]
theorem bits8 (x : Nat) (h : 256 ≤ x) : 8 + Go.Sort.bitsLen (x / 2 ^ 8) = Go.Sort.bitsLen x := by
  have h1 := (Go.Sort.bitsLen_le_iff x (Go.Sort.bitsLen (x / 2 ^ 8) + 8)).2 (by
    have := (Go.Sort.bitsLen_le_iff (x / 2 ^ 8) _).1 (Nat.le_refl _)
    rw [Nat.pow_add]
    exact (Nat.div_lt_iff_lt_mul (by decide)).1 this)
  have h2 : ¬ Go.Sort.bitsLen x ≤ 8 := fun hc => by have := (Go.Sort.bitsLen_le_iff x 8).1 hc; omega
  have h3 := (Go.Sort.bitsLen_le_iff (x / 2 ^ 8) (Go.Sort.bitsLen x - 8)).2 (by
    have := (Go.Sort.bitsLen_le_iff x _).1 (Nat.le_refl _)
    refine (Nat.div_lt_iff_lt_mul (by decide)).2 ?_
    rw [← Nat.pow_add, Nat.sub_add_cancel (by omega)]
    exact this)
  omega
theorem bnd (c : Int) (hc : 0 ≤ c ∧ c ≤ 100) (L : Nat) (hL : L ≤ 16) : -9223372036854775808 ≤ c + (L : Int) ∧ c + (L : Int) ≤ 9223372036854775807 := by omega
set_option maxHeartbeats 4000000 in
theorem len64_any (H : AHeap) (x : Nat) (hx : x < 65536) : Does Tryd.prog orc 46 [.int .u64 x] H fun r H' => r = .ret (.int .i64 (Go.Sort.bitsLen x)) ∧ H = H' := by
  refine Does.of Tryd.func46 (fun _ _ => rfl) rfl ?_
  by_cases h8 : 256 ≤ x
  · have hL : Go.Sort.bitsLen (x / 2 ^ 8) ≤ 16 := (Go.Sort.bitsLen_le_iff _ 16).2 (by omega)
    repeat' ((conv => whnf); first
      | (refine Both.intro ?_ ?_ <;> intro _ <;> try (exfalso; omega))
      | (refine Need.intro (by omega) ?_)
      | (refine Gives.intro ⟨_, shrU x 8 8 rfl (by decide) (by omega), ?_⟩)
      | (refine Gives.intro ⟨_, cU8 _ (by omega), ?_⟩)
      | (refine ⟨_, tabAt (by kernel_rfl) _ (by omega), ?_⟩)
      | (refine Gives.intro ⟨_, cT _ (by omega), ?_⟩)
      | (refine Need.intro (DrawP.intro (by kernel_rfl)) ?_)
      | (refine Need.intro (bnd _ (by decide) (Go.Sort.bitsLen (x / 2 ^ 8)) hL) ?_)
      | fail)
    all_goals (conv => whnf)
    exact ⟨congrArg (fun y : Int => CRes.ret (.int .i64 y)) (show 0 + 8 + ((Go.Sort.bitsLen (x / 2 ^ 8) : Nat) : Int) = _ by have := bits8 x h8; omega), rfl⟩
  · have hL : Go.Sort.bitsLen x ≤ 16 := (Go.Sort.bitsLen_le_iff _ 16).2 (by omega)
    repeat' ((conv => whnf); first
      | (refine Both.intro ?_ ?_ <;> intro _ <;> try (exfalso; omega))
      | (refine Need.intro (by omega) ?_)
      | (refine Gives.intro ⟨_, cU8 _ (by omega), ?_⟩)
      | (refine ⟨_, tabAt (by kernel_rfl) _ (by omega), ?_⟩)
      | (refine Gives.intro ⟨_, cT _ (by omega), ?_⟩)
      | (refine Need.intro (DrawP.intro (by kernel_rfl)) ?_)
      | (refine Need.intro (bnd _ (by decide) (Go.Sort.bitsLen x) hL) ?_)
      | fail)
    all_goals (conv => whnf)
    exact ⟨congrArg (fun y : Int => CRes.ret (.int .i64 y)) (show 0 + ((Go.Sort.bitsLen x : Nat) : Int) = _ by omega), rfl⟩
/-- The table of powers of ten, where it lies. -/
def powC : List Value := [1, 10, 100, 1000, 10000, 100000, 1000000, 10000000, 100000000, 1000000000, 10000000000, 100000000000, 1000000000000, 10000000000000, 100000000000000, 1000000000000000, 10000000000000000, 100000000000000000, 1000000000000000000, 10000000000000000000].map (Value.int .u64)
structure TabIn (H : AHeap) : Prop where
  g0 : H.get 0 = some (.globs 1)
  g1 : H.get 1 = some (.cells powC 0 false)
theorem TabIn.ext {H H' : AHeap} (hw : Wf H) (e : Ext H H') (h : TabIn H) : TabIn H' := ⟨by rw [e.get _ (hw.lt h.g0)]; exact h.g0, by rw [e.get _ (hw.lt h.g1)]; exact h.g1⟩
def ndN (u : Nat) : Nat := if u < 10 then 1 else if u < 100 then 2 else if u < 1000 then 3 else 4
theorem nd_of {u : Nat} (h1 : 1 ≤ u) (h2 : u < 10000) : let n := Go.Sort.bitsLen u * 78913 / 262144; n ≤ 4 ∧ (10 ^ n ≤ u → ndN u = n + 1) ∧ (u < 10 ^ n → ndN u = n) := by
  have k1 := (Go.Sort.bitsLen_le_iff u 14).2 (by omega)
  have ku := (Go.Sort.bitsLen_le_iff u (Go.Sort.bitsLen u)).1 (Nat.le_refl _)
  have kl : ∀ k, Go.Sort.bitsLen u = k + 1 → 2 ^ k ≤ u := fun k hk => Nat.le_of_not_lt fun h => by have := (Go.Sort.bitsLen_le_iff u k).2 h; omega
  revert k1 ku kl
  generalize Go.Sort.bitsLen u = L
  intro k1 ku kl
  have hL : L ≠ 0 := by rintro rfl; simp at ku; omega
  have hc : L = 1 ∨ L = 2 ∨ L = 3 ∨ L = 4 ∨ L = 5 ∨ L = 6 ∨ L = 7 ∨ L = 8 ∨ L = 9 ∨ L = 10 ∨ L = 11 ∨ L = 12 ∨ L = 13 ∨ L = 14 := by omega
  unfold ndN
  rcases hc with rfl | rfl | rfl | rfl | rfl | rfl | rfl | rfl | rfl | rfl | rfl | rfl | rfl | rfl <;> (have kk := kl _ rfl; simp only [Nat.reducePow, Nat.reduceMul, Nat.reduceDiv] at kk ku ⊢; refine ⟨by omega, fun h => ?_, fun h => ?_⟩ <;> (repeat' split) <;> omega)
theorem pow_at (n : Nat) (h : n ≤ 4) : powC[n]? = some (.int .u64 ((10 ^ n : Nat) : Int)) := by
  have : n = 0 ∨ n = 1 ∨ n = 2 ∨ n = 3 ∨ n = 4 := by omega
  rcases this with rfl | rfl | rfl | rfl | rfl <;> rfl
theorem log10_any (H : AHeap) (L : Nat) (h : L ≤ 14) : Does Tryd.prog orc 45 [.int .i64 L] H fun r H' => r = .ret (.int .i64 ((L * 78913 / 262144 : Nat) : Int)) ∧ H = H' := by
  refine Does.of Tryd.func45 (fun _ _ => rfl) rfl ?_
  have hm : aInt .mul .i64 (L : Int) 78913 = some (.int .i64 ((L * 78913 : Nat) : Int)) := by
    show some (Value.int .i64 (IntKind.i64.wrap ((L : Int) * 78913))) = _
    rw [wrap_i64 (by omega)]; simp
  have hs : aShift .shr .i64 ((L * 78913 : Nat) : Int) 18 = some (.int .i64 ((L * 78913 / 262144 : Nat) : Int)) := by
    rw [shr_ok (by omega)]
    have : min ((18 : Int)).toNat IntKind.i64.bits = 18 := rfl
    rw [this, Int.fdiv_eq_ediv_of_nonneg _ (by decide)]
    simp
  repeat' ((conv => whnf); first
    | (refine Both.intro ?_ ?_ <;> intro _ <;> try (exfalso; omega))
    | (refine Need.intro (by omega) ?_)
    | (refine Gives.intro ⟨_, hm, ?_⟩)
    | (refine Gives.intro ⟨_, hs, ?_⟩)
    | fail)
  all_goals (conv => whnf)
  exact ⟨rfl, rfl⟩
theorem bool2_any (H : AHeap) (b : Bool) : Does Tryd.prog orc 47 [.bool b] H fun r H' => r = .ret (.int .i64 (if b then 1 else 0)) ∧ H = H' := by
  refine Does.of Tryd.func47 (fun _ _ => rfl) rfl ?_
  cases b
  · skip
    repeat' ((conv => whnf); first
      | (refine Both.intro ?_ ?_ <;> intro _ <;> try (exfalso; omega))
      | (refine Need.intro (by omega) ?_)
      | fail)
    all_goals (conv => whnf)
    exact ⟨rfl, rfl⟩
  · skip
    repeat' ((conv => whnf); first
      | (refine Both.intro ?_ ?_ <;> intro _ <;> try (exfalso; omega))
      | (refine Need.intro (by omega) ?_)
      | fail)
    all_goals (conv => whnf)
    exact ⟨rfl, rfl⟩
theorem numDigits_any (H : AHeap) (hT : TabIn H) (u : Nat) (h1 : 1 ≤ u) (h2 : u < 10000) : Does Tryd.prog orc 41 [.int .u64 u] H fun r H' => r = .ret (.int .i64 (ndN u)) ∧ H = H' := by
  have hng : H.globN = 1 := by unfold AHeap.globN; rw [hT.g0]
  have hL := (Go.Sort.bitsLen_le_iff u 14).2 (by omega)
  obtain ⟨hn4, hge, hlt⟩ := nd_of h1 h2
  refine Does.of Tryd.func41 (fun _ _ => rfl) rfl ?_
  rw [hng]
  have hcell : cellAt H 1 (0 + (Go.Sort.bitsLen u * 78913 / 262144)) = some (.int .u64 ((10 ^ (Go.Sort.bitsLen u * 78913 / 262144) : Nat) : Int)) := cellAt_of hT.g1 (pow_at _ hn4)
  revert hge hlt hcell hn4
  have hlog := log10_any H (Go.Sort.bitsLen u) hL
  revert hlog
  generalize Go.Sort.bitsLen u * 78913 / 262144 = n
  intro hlog hn4 hge hlt hcell
  by_cases hc : 10 ^ n ≤ u
  · have hb := bool2_any H true
    repeat' ((conv => whnf); first
      | (refine Both.intro ?_ ?_ <;> intro _ <;> try (exfalso; omega))
      | (refine Need.intro (by omega) ?_)
      | (refine Does.mono (len64_any H u (by omega)) ?_ ; rintro _ _ ⟨rfl, rfl⟩)
      | (refine Does.mono hlog ?_ ; rintro _ _ ⟨rfl, rfl⟩)
      | (refine ⟨_, hcell, ?_⟩)
      | (refine Does.mono hb ?_ ; rintro _ _ ⟨rfl, rfl⟩)
      | fail)
    all_goals (conv => whnf)
    exact ⟨congrArg (fun y : Int => CRes.ret (.int .i64 y)) (show (n : Int) + 1 = ((ndN u : Nat) : Int) by rw [hge hc]; simp), rfl⟩
  · have hb := bool2_any H false
    repeat' ((conv => whnf); first
      | (refine Both.intro ?_ ?_ <;> intro _ <;> try (exfalso; omega))
      | (refine Need.intro (by omega) ?_)
      | (refine Does.mono (len64_any H u (by omega)) ?_ ; rintro _ _ ⟨rfl, rfl⟩)
      | (refine Does.mono hlog ?_ ; rintro _ _ ⟨rfl, rfl⟩)
      | (refine ⟨_, hcell, ?_⟩)
      | (refine Does.mono hb ?_ ; rintro _ _ ⟨rfl, rfl⟩)
      | fail)
    all_goals (conv => whnf)
    exact ⟨congrArg (fun y : Int => CRes.ret (.int .i64 y)) (show (n : Int) + 0 = ((ndN u : Nat) : Int) by rw [hlt (by omega)]; simp), rfl⟩
/-- string(a[..]) of a row of bytes. -/
theorem text_of {H : AHeap} {b o n c : Nat} {ds : List UInt8} (hn : n ≠ 0) (hc : n ≤ c) (hg : cellsAt H b o n = some (u8s ds)) : aText Tryd.prog H 48 9 (.slice (some ⟨b, o, none⟩) n c) = some (.val (.string ⟨ds.toArray⟩) H (.look b o (n * 1))) := by
  have hb : ∀ l : List UInt8, bytesL (u8s l) = some (l.map fun c => (c.toNat : Int)) := by
    intro l
    induction l with
    | nil => rfl
    | cons x r ih => simp only [u8s, List.map_cons, bytesL] at ih ⊢; rw [ih]
  unfold aText
  have h1 : srcCells H 1 (.slice (some ⟨b, o, none⟩) n c) = some (n, u8s ds) := by
    unfold srcCells
    simp only [nbeq_no hn, nble hc, cond_false, cond_true, Nat.mul_one, hg]
  simp only [Tryd.underlying48, Tryd.underlying9, Tryd.underlying5, h1, hb, lookAt]
  rw [show Nat.beq (n * 1) 0 = false by rw [Nat.mul_one]; exact nbeq_no hn]
  simp only [cond_false, List.map_map]
  rw [show ((fun n : Int => UInt8.ofNat n.toNat) ∘ fun c : UInt8 => (c.toNat : Int)) = id from funext fun c => by simp, List.map_id]
theorem ndN_pos (u : Nat) : 1 ≤ ndN u ∧ ndN u ≤ 4 := by unfold ndN; (repeat' split) <;> omega
/-- The numeral of a number of four digits at most. -/
theorem dec3 {u : Nat} (h1 : ¬ u < 100) (h2 : u < 1000) : Lib.decDigits u = [UInt8.ofNat (48 + u / 100), dA (u % 100), dB (u % 100)] := by
  rw [Lib.decDigits, dif_neg (by omega), Lib.decDigits_two (by omega) (by omega)]
  unfold dA dB
  rw [show u / 10 / 10 = u / 100 by omega, show u % 100 / 10 = u / 10 % 10 by omega, show u % 100 % 10 = u % 10 by omega]
  rfl
theorem dec4 {u : Nat} (h1 : ¬ u < 1000) (h2 : u < 10000) : Lib.decDigits u = [dA (u / 100), dB (u / 100), dA (u % 100), dB (u % 100)] := by
  rw [Lib.decDigits, dif_neg (by omega), dec3 (by omega) (by omega)]
  unfold dA dB
  rw [show u / 10 / 100 = u / 100 / 10 by omega, show u / 10 % 100 / 10 = u / 100 % 10 by omega, show u / 10 % 100 % 10 = u % 100 / 10 by omega, show u % 100 % 10 = u % 10 by omega]
  rfl
/-- formatBase10 over a new array: the numeral. -/
theorem fb_any (H : AHeap) (b e u : Nat) (hu : u < 10000) (hg : H.get b = some (.cells (List.replicate 24 z8) e true)) :
    Does Tryd.prog orc 42 [.slice (some ⟨b, 1, none⟩) (ndN u) 23, .int .u64 u] H fun r H' => r = .ret (.tuple #[]) ∧ But b H H' ∧ H'.get b = some (.cells (z8 :: u8s (Lib.decDigits u) ++ List.replicate (23 - ndN u) z8) e true) ∧ (Lib.decDigits u).length = ndN u := by
  by_cases h1 : u < 10
  · rw [show ndN u = 1 by unfold ndN; rw [if_pos h1], Lib.decDigits_one h1]
    exact (fb1_any H b e u h1 hg).mono fun r H' ⟨q1, q2, q3⟩ => ⟨q1, q2, q3, rfl⟩
  by_cases h2 : u < 100
  · rw [show ndN u = 2 by unfold ndN; rw [if_neg h1, if_pos h2], Lib.decDigits_two h1 h2]
    exact (fb2_any H b e u h2 hg).mono fun r H' ⟨q1, q2, q3⟩ => ⟨q1, q2, q3, rfl⟩
  by_cases h3 : u < 1000
  · rw [show ndN u = 3 by unfold ndN; rw [if_neg h1, if_neg h2, if_pos h3], dec3 h2 h3]
    exact (fb3_any H b e u h3 hg).mono fun r H' ⟨q1, q2, q3⟩ => ⟨q1, q2, q3, rfl⟩
  · rw [show ndN u = 4 by unfold ndN; rw [if_neg h1, if_neg h2, if_neg h3], dec4 h3 hu]
    exact (fb4_any H b e u hu hg).mono fun r H' ⟨q1, q2, q3⟩ => ⟨q1, q2, q3, rfl⟩
theorem sl1 (b m : Nat) (h1 : 1 ≤ m) (h2 : m ≤ 4) : aSlice Tryd.prog 77 (.pointer (some ⟨b, 0, none⟩)) (some (.int .i64 1)) (some (.int .i64 (1 + (m : Int)))) none = some (.slice (some ⟨b, 1, none⟩) m 23) := by
  have : m = 1 ∨ m = 2 ∨ m = 3 ∨ m = 4 := by omega
  rcases this with rfl | rfl | rfl | rfl <;> rfl
theorem sl0 (b m : Nat) (h1 : 1 ≤ m) (h2 : m ≤ 4) : aSlice Tryd.prog 77 (.pointer (some ⟨b, 0, none⟩)) none (some (.int .i64 (1 + (m : Int)))) none = some (.slice (some ⟨b, 0, none⟩) (m + 1) 24) := by
  have : m = 1 ∨ m = 2 ∨ m = 3 ∨ m = 4 := by omega
  rcases this with rfl | rfl | rfl | rfl <;> rfl
theorem u64neg (n : Int) (h1 : -10000 < n) (h2 : n < 0) : IntKind.u64.wrap (0 - IntKind.u64.wrap n) = ((-n).toNat : Nat) := by
  simp [IntKind.wrap, IntKind.bits, IntKind.signed]
  omega
theorem cellsAt_mid {H : AHeap} {b e : Nat} {own : Bool} {pre vs r : List Value} (hg : H.get b = some (.cells (pre ++ vs ++ r) e own)) : cellsAt H b pre.length vs.length = some vs := by
  simp only [cellsAt, hg]
  refine takeN_of _ _ _ rfl fun i x hx => ?_
  have hi := (List.getElem?_eq_some_iff.1 hx).1
  rw [dropN_get, List.append_assoc, List.getElem?_append_right (by omega), show pre.length + i - pre.length = i by omega, List.getElem?_append_left hi]
  exact hx
theorem ext_but {H H1 H2 : AHeap} {b : Nat} (e : Ext H H1) (hb : H.next ≤ b) (h : But b H1 H2) : Ext H H2 := ⟨by rw [h.next]; exact e.next, fun c hc => by rw [h.get c (by omega)]; exact e.get c hc⟩
theorem wf_but {H1 H2 : AHeap} {b : Nat} (w : Wf H1) (hb : b < H1.next) (h : But b H1 H2) : Wf H2 := fun c hc => by
  rw [h.next] at hc
  rw [h.get c (by omega)]; exact w c hc
set_option maxHeartbeats 4000000 in
theorem format_any (H : AHeap) (hw : Wf H) (hT : TabIn H) (n : Int) (h1 : -10000 < n) (h2 : n < 10000) :
    Does Tryd.prog orc 37 [.int .i64 n, .int .i64 10] H fun r H' => r = .ret (.string ⟨(Lib.itoa n).toArray⟩) ∧ Ext H H' ∧ Wf H' := by
  refine Does.of Tryd.func37 (fun _ _ => rfl) rfl ?_
  by_cases hs : 0 ≤ n ∧ n < 100
  · obtain ⟨i, rfl⟩ : ∃ i : Nat, n = i := ⟨n.toNat, by omega⟩
    repeat' ((conv => whnf); first
      | (refine Both.intro ?_ ?_ <;> intro _ <;> try (exfalso; omega))
      | (refine Need.intro (by omega) ?_)
      | (refine Does.mono (small_any H i (by omega)) ?_ ; rintro _ _ ⟨rfl, rfl⟩)
      | fail)
    all_goals (conv => whnf)
    exact ⟨by rw [Lib.itoa_nonneg]; rfl, Ext.refl _, hw⟩
  have gp := get_new H (.cells (List.replicate 24 z8) (typedV 77) true)
  have wp := hw.push (.cells (List.replicate 24 z8) (typedV 77) true)
  have ep := Ext.push H (.cells (List.replicate 24 z8) (typedV 77) true)
  have hcv : aConv Tryd.prog 2 78 (.int .i64 n) = some (.int .u64 (IntKind.u64.wrap n)) := by kernel_rfl
  by_cases hneg : n < 0
  · obtain ⟨u, hu⟩ : ∃ u : Nat, n = -(u : Int) := ⟨(-n).toNat, by omega⟩
    have hun : aUn .neg (.int .u64 (IntKind.u64.wrap n)) = some (.int .u64 u) := by
      show some (Value.int .u64 (IntKind.u64.wrap (0 - IntKind.u64.wrap n))) = _
      rw [u64neg n h1 hneg, show (-n).toNat = u by omega]
    have hnp := ndN_pos u
    repeat' ((conv => whnf); first
      | (refine Both.intro ?_ ?_ <;> intro _ <;> try (exfalso; omega))
      | (refine Need.intro (by omega) ?_)
      | (refine Gives.intro ⟨_, hcv, ?_⟩)
      | (refine Gives.intro ⟨_, hun, ?_⟩)
      | (refine Gives.intro ⟨_, sl1 _ _ hnp.1 hnp.2, ?_⟩)
      | (refine Does.mono (numDigits_any _ (hT.ext hw ep) u (by omega) (by omega)) ?_ ; rintro _ _ ⟨rfl, rfl⟩)
      | (refine Does.mono (fb_any _ _ _ u (by omega) gp) ?_ ; rintro _ H2 ⟨rfl, hb, g2, hlen⟩)
      | (refine Gives.intro ⟨.agg (Array.replicate 24 z8), by kernel_rfl, ?_⟩)
      | fail)
    all_goals (conv => whnf)
    have e2 := ext_but ep (Nat.le_refl _) hb
    have w2 := wf_but wp (by simp) hb
    have hst := st8 g2 45 (o := 0) (by simp)
    have g3 : (H2.set H.next (.cells ((z8 :: u8s (Lib.decDigits u) ++ List.replicate (23 - ndN u) z8).set 0 (c8 45)) (typedV 77) true)).get H.next = some (.cells ([] ++ u8s (45 :: Lib.decDigits u) ++ List.replicate (23 - ndN u) z8) (typedV 77) true) := by rw [AHeap.get_set, if_pos rfl]; rfl
    have hca := cellsAt_mid g3
    have hvl : (u8s (45 :: Lib.decDigits u)).length = ndN u + 1 := by simp [u8s, hlen]
    rw [hvl] at hca
    have htx := text_of (n := ndN u + 1) (c := 24) (by omega) (by omega) hca
    repeat' ((conv => whnf); first
      | (refine Both.intro ?_ ?_ <;> intro _ <;> try (exfalso; omega))
      | (refine Need.intro (by omega) ?_)
      | (refine Outs.intro ⟨_, _, _, hst, ?_⟩)
      | (refine Gives.intro ⟨_, sl0 _ _ hnp.1 hnp.2, ?_⟩)
      | (refine Outs.intro ⟨_, _, _, htx, ?_⟩)
      | fail)
    all_goals (conv => whnf)
    exact ⟨by rw [hu, Lib.itoa_neg u (by omega)]; rfl, e2.set (Nat.le_refl _) _, w2.set g2 _⟩
  · obtain ⟨u, rfl⟩ : ∃ u : Nat, n = (u : Int) := ⟨n.toNat, by omega⟩
    have hcv' : aConv Tryd.prog 2 78 (.int .i64 u) = some (.int .u64 u) := by rw [hcv, u64wrap, Nat.mod_eq_of_lt (by omega)]
    have hnp := ndN_pos u
    repeat' ((conv => whnf); first
      | (refine Both.intro ?_ ?_ <;> intro _ <;> try (exfalso; omega))
      | (refine Need.intro (by omega) ?_)
      | (refine Gives.intro ⟨_, hcv', ?_⟩)
      | (refine Gives.intro ⟨_, sl1 _ _ hnp.1 hnp.2, ?_⟩)
      | (refine Does.mono (numDigits_any _ (hT.ext hw ep) u (by omega) (by omega)) ?_ ; rintro _ _ ⟨rfl, rfl⟩)
      | (refine Does.mono (fb_any _ _ _ u (by omega) gp) ?_ ; rintro _ H2 ⟨rfl, hb, g2, hlen⟩)
      | (refine Gives.intro ⟨.agg (Array.replicate 24 z8), by kernel_rfl, ?_⟩)
      | fail)
    all_goals (conv => whnf)
    have e2 := ext_but ep (Nat.le_refl _) hb
    have w2 := wf_but wp (by simp) hb
    have hca := cellsAt_mid (pre := [z8]) g2
    have hvl : (u8s (Lib.decDigits u)).length = ndN u := by simp [u8s, hlen]
    rw [hvl] at hca
    have htx := text_of (n := ndN u) (c := 23) (by omega) (by omega) hca
    repeat' ((conv => whnf); first
      | (refine Both.intro ?_ ?_ <;> intro _ <;> try (exfalso; omega))
      | (refine Need.intro (by omega) ?_)
      | (refine Gives.intro ⟨_, sl1 _ _ hnp.1 hnp.2, ?_⟩)
      | (refine Outs.intro ⟨_, _, _, htx, ?_⟩)
      | fail)
    all_goals (conv => whnf)
    exact ⟨by rw [Lib.itoa_nonneg]; rfl, e2, w2⟩
theorem itoaI_any (H : AHeap) (hw : Wf H) (hT : TabIn H) (n : Int) (h1 : -10000 < n) (h2 : n < 10000) :
    Does Tryd.prog orc 31 [.int .i64 n] H fun r H' => r = .ret (.string ⟨(Lib.itoa n).toArray⟩) ∧ Ext H H' ∧ Wf H' := by
  have hcv : aConv Tryd.prog 3 2 (.int .i64 n) = some (.int .i64 n) := by
    have : aConv Tryd.prog 3 2 (.int .i64 n) = some (.int .i64 (IntKind.i64.wrap n)) := by kernel_rfl
    rw [this, wrap_i64 (by omega)]
  refine Does.of Tryd.func31 (fun _ _ => rfl) rfl ?_
  repeat' ((conv => whnf); first
    | (refine Both.intro ?_ ?_ <;> intro _ <;> try (exfalso; omega))
    | (refine Need.intro (by omega) ?_)
    | (refine Gives.intro ⟨_, hcv, ?_⟩)
    | (refine Does.mono (format_any H hw hT n h1 h2) ?_ ; rintro _ H2 ⟨rfl, e2, w2⟩)
    | fail)
  all_goals (conv => whnf)
  exact ⟨rfl, e2, w2⟩
theorem itoa_any (H : AHeap) (hw : Wf H) (hT : TabIn H) (n : Int) (h1 : -10000 < n) (h2 : n < 10000) :
    Does Tryd.prog orc 18 [.int .i64 n] H fun r H' => r = .ret (.string ⟨(Lib.itoa n).toArray⟩) ∧ Ext H H' ∧ Wf H' := by
  refine Does.of Tryd.func18 (fun _ _ => rfl) rfl ?_
  repeat' ((conv => whnf); first
    | (refine Both.intro ?_ ?_ <;> intro _ <;> try (exfalso; omega))
    | (refine Need.intro (by omega) ?_)
    | (refine Does.mono (itoaI_any H hw hT n h1 h2) ?_ ; rintro _ H2 ⟨rfl, e2, w2⟩)
    | fail)
  all_goals (conv => whnf)
  exact ⟨rfl, e2, w2⟩
end Go.AX.Tryd
