/- strconv.Itoa, for numbers of at most four digits: the numeral. -/
import Derived.Test.YtkngijdjkcdcjaaDoorLDrw
import Derived.Lib.ItoaMem
import Derived.IntWalk
import Derived.Sort.LotD1
namespace Go.AX.Tryd
open Go Go.AX Go.AX.Lw Go.Proofs
set_option linter.unusedVariables false
set_option linter.unusedSimpArgs false
set_option maxRecDepth 100000
abbrev DIG : ByteArray := ⟨#[48, 49, 50, 51, 52, 53, 54, 55, 56, 57, 97, 98, 99, 100, 101, 102, 103, 104, 105, 106, 107, 108, 109, 110, 111, 112, 113, 114, 115, 116, 117, 118, 119, 120, 121, 122]⟩
abbrev SM : ByteArray := ⟨#[48, 48, 48, 49, 48, 50, 48, 51, 48, 52, 48, 53, 48, 54, 48, 55, 48, 56, 48, 57, 49, 48, 49, 49, 49, 50, 49, 51, 49, 52, 49, 53, 49, 54, 49, 55, 49, 56, 49, 57, 50, 48, 50, 49, 50, 50, 50, 51, 50, 52, 50, 53, 50, 54, 50, 55, 50, 56, 50, 57, 51, 48, 51, 49, 51, 50, 51, 51, 51, 52, 51, 53, 51, 54, 51, 55, 51, 56, 51, 57, 52, 48, 52, 49, 52, 50, 52, 51, 52, 52, 52, 53, 52, 54, 52, 55, 52, 56, 52, 57, 53, 48, 53, 49, 53, 50, 53, 51, 53, 52, 53, 53, 53, 54, 53, 55, 53, 56, 53, 57, 54, 48, 54, 49, 54, 50, 54, 51, 54, 52, 54, 53, 54, 54, 54, 55, 54, 56, 54, 57, 55, 48, 55, 49, 55, 50, 55, 51, 55, 52, 55, 53, 55, 54, 55, 55, 55, 56, 55, 57, 56, 48, 56, 49, 56, 50, 56, 51, 56, 52, 56, 53, 56, 54, 56, 55, 56, 56, 56, 57, 57, 48, 57, 49, 57, 50, 57, 51, 57, 52, 57, 53, 57, 54, 57, 55, 57, 56, 57, 57]⟩
theorem extract_fin1 : ∀ i : Fin 10, DIG.extract i.val (i.val + 1) = ⟨#[UInt8.ofNat (48 + i.val)]⟩ := by decide +kernel
theorem extract_fin2 : ∀ i : Fin 100, SM.extract (i.val * 2) (i.val * 2 + 2) = ⟨#[UInt8.ofNat (48 + i.val / 10), UInt8.ofNat (48 + i.val % 10)]⟩ := by decide +kernel
theorem sliceS {s : ByteArray} {l h : Nat} (h1 : l ≤ h) (h2 : h ≤ s.size) : aSlice Tryd.prog 9 (.string s) (some (.int .i64 l)) (some (.int .i64 h)) none = some (.string (s.extract l h)) := by
  unfold aSlice
  simp only [Tryd.underlying9, aBound]
  rw [if_pos (by omega)]
  simp only [Int.toNat_natCast]
  rw [if_pos (by omega)]
theorem small_any (H : AHeap) (i : Nat) (hi : i < 100) : Does Tryd.prog orc 40 [.int .i64 i] H fun r H' => r = .ret (.string ⟨(Lib.decDigits i).toArray⟩) ∧ H = H' := by
  refine Does.of Tryd.func40 (fun _ _ => rfl) rfl ?_
  by_cases h : i < 10
  · have hs : aSlice Tryd.prog 9 (.string DIG) (some (.int .i64 i)) (some (.int .i64 ((i : Int) + 1))) none = some (.string ⟨(Lib.decDigits i).toArray⟩) := by
      rw [show (i : Int) + 1 = ((i + 1 : Nat) : Int) by omega, sliceS (by omega) (by show i + 1 ≤ 36; omega), extract_fin1 ⟨i, h⟩, Lib.decDigits_one h]
    repeat' ((conv => whnf); first
      | (refine Both.intro ?_ ?_ <;> intro _ <;> try (exfalso; omega))
      | (refine Need.intro (by omega) ?_)
      | (refine Gives.intro ⟨_, hs, ?_⟩)
      | fail)
    all_goals (conv => whnf)
    exact ⟨rfl, rfl⟩
  · have hs : aSlice Tryd.prog 9 (.string SM) (some (.int .i64 ((i : Int) * 2))) (some (.int .i64 ((i : Int) * 2 + 2))) none = some (.string ⟨(Lib.decDigits i).toArray⟩) := by
      rw [show (i : Int) * 2 + 2 = ((i * 2 + 2 : Nat) : Int) by omega, show (i : Int) * 2 = ((i * 2 : Nat) : Int) by omega, sliceS (by omega) (by show i * 2 + 2 ≤ 200; omega), extract_fin2 ⟨i, hi⟩, Lib.decDigits_two h hi]
    have hmul : aInt .mul .i64 (i : Int) 2 = some (.int .i64 ((i : Int) * 2)) := by
      show some (Value.int .i64 (IntKind.i64.wrap ((i : Int) * 2))) = _
      rw [wrap_i64 (by omega)]
    repeat' ((conv => whnf); first
      | (refine Both.intro ?_ ?_ <;> intro _ <;> try (exfalso; omega))
      | (refine Need.intro (by omega) ?_)
      | (refine Gives.intro ⟨_, hmul, ?_⟩)
      | (refine Gives.intro ⟨_, hs, ?_⟩)
      | fail)
    all_goals (conv => whnf)
    exact ⟨rfl, rfl⟩
theorem u32wrap (x : Nat) (h : x < 4294967296) : IntKind.u32.wrap (x : Int) = (x : Nat) := by
  simp [IntKind.wrap, IntKind.bits, IntKind.signed]
  omega
theorem remU (k : IntKind) (x y : Nat) (z : Int) (hz : z = y) (hy : y ≠ 0) : aInt .rem k (x : Int) z = some (.int k ((x % y : Nat) : Int)) := by
  subst hz
  unfold aInt
  simp only
  rw [if_neg (by omega), Int.ofNat_tmod]
theorem quoU (x y : Nat) (z : Int) (hz : z = y) (hy : y ≠ 0) (hx : x < 4294967296) : aInt .quo .u32 (x : Int) z = some (.int .u32 ((x / y : Nat) : Int)) := by
  subst hz
  unfold aInt
  simp only
  rw [if_neg (by omega), ← Int.ofNat_tdiv, u32wrap _ (Nat.lt_of_le_of_lt (Nat.div_le_self _ _) hx)]
theorem mulU (x y : Nat) (z : Int) (hz : z = y) (hx : x * y < 4294967296) : aInt .mul .u32 (x : Int) z = some (.int .u32 ((x * y : Nat) : Int)) := by
  subst hz
  show some (Value.int .u32 (IntKind.u32.wrap ((x : Int) * (y : Int)))) = _
  rw [show (x : Int) * (y : Int) = ((x * y : Nat) : Int) by simp, u32wrap _ hx]
theorem cU64 (u : Nat) (h : u < 4294967296) : aConv Tryd.prog 78 86 (.int .u64 u) = some (.int .u32 u) := by
  have : aConv Tryd.prog 78 86 (.int .u64 u) = some (.int .u32 (IntKind.u32.wrap u)) := by kernel_rfl
  rw [this, u32wrap u h]
/-- The first and the second digit of p. -/
def dA (p : Nat) : UInt8 := UInt8.ofNat (48 + p / 10)
def dB (p : Nat) : UInt8 := UInt8.ofNat (48 + p % 10)
theorem sm_fin : ∀ p : Fin 100, SM.data.toList[p.val * 2]? = some (dA p.val) ∧ SM.data.toList[p.val * 2 + 1]? = some (dB p.val) := by decide +kernel
theorem sm0 (p : Nat) (h : p < 100) : SM.data.toList[((p * 2 : Nat) : Int).toNat]? = some (dA p) := (sm_fin ⟨p, h⟩).1
theorem sm1 (p : Nat) (h : p < 100) : SM.data.toList[(IntKind.u32.wrap (((p * 2 : Nat) : Int) + 1)).toNat]? = some (dB p) := by
  rw [show ((p * 2 : Nat) : Int) + 1 = ((p * 2 + 1 : Nat) : Int) by omega, u32wrap _ (by omega)]
  exact (sm_fin ⟨p, h⟩).2
theorem cD (x : Nat) (h : x < 10) : aConv Tryd.prog 86 5 (.int .u32 (IntKind.u32.wrap (48 + (x : Int)))) = some (.int .u8 ((UInt8.ofNat (48 + x)).toNat : Int)) := by
  have h1 : aConv Tryd.prog 86 5 (.int .u32 (IntKind.u32.wrap (48 + (x : Int)))) = some (.int .u8 (IntKind.u8.wrap (IntKind.u32.wrap (48 + (x : Int))))) := by kernel_rfl
  rw [h1, show 48 + (x : Int) = ((48 + x : Nat) : Int) by omega, u32wrap _ (by omega), Go.IntWalk.u8_in _ (by omega)]
  rw [UInt8.toNat_ofNat']
  congr 3
  omega
abbrev z8 : Value := .int .u8 0
abbrev c8 (c : UInt8) : Value := .int .u8 (c.toNat : Int)
theorem st8 {H : AHeap} {b e o : Nat} {cs : List Value} (hg : H.get b = some (.cells cs e true)) (c : UInt8) (ho : o < cs.length) : aStore Tryd.prog H 5 (.pointer (some ⟨b, o, none⟩)) (c8 c) = some (.val undef (H.set b (.cells (cs.set o (c8 c)) e true)) (.eff H (H.set b (.cells (cs.set o (c8 c)) e true)))) :=
  store_ok (P := Tryd.prog) (by kernel_rfl) rfl rfl hg ho
theorem set_set (H : AHeap) (b : Nat) (x y : AObj) : But b H ((H.set b x).set b y) := ⟨rfl, fun c hc => by rw [AHeap.get_set, if_neg hc, AHeap.get_set, if_neg hc]⟩
set_option maxHeartbeats 4000000 in
theorem fb4_any (H : AHeap) (b e u : Nat) (hu : u < 10000) (hg : H.get b = some (.cells (List.replicate 24 z8) e true)) :
    Does Tryd.prog orc 42 [.slice (some ⟨b, 1, none⟩) 4 23, .int .u64 u] H fun r H' => r = .ret (.tuple #[]) ∧ But b H H' ∧ H'.get b = some (.cells (z8 :: c8 (dA (u / 100)) :: c8 (dB (u / 100)) :: c8 (dA (u % 100)) :: c8 (dB (u % 100)) :: List.replicate 19 z8) e true) := by
  refine Does.of Tryd.func42 (fun _ _ => rfl) rfl ?_
  have s0 := st8 hg (dB (u % 100)) (o := 4) (by simp)
  have g0 : (H.set b (.cells ((List.replicate 24 z8).set 4 (c8 (dB (u % 100)))) e true)).get b = some (.cells ((List.replicate 24 z8).set 4 (c8 (dB (u % 100)))) e true) := by rw [AHeap.get_set, if_pos rfl]
  have s1 := st8 g0 (dA (u % 100)) (o := 3) (by simp)
  have g1 : ((H.set b (.cells ((List.replicate 24 z8).set 4 (c8 (dB (u % 100)))) e true)).set b (.cells (((List.replicate 24 z8).set 4 (c8 (dB (u % 100)))).set 3 (c8 (dA (u % 100)))) e true)).get b = some (.cells (((List.replicate 24 z8).set 4 (c8 (dB (u % 100)))).set 3 (c8 (dA (u % 100)))) e true) := by rw [AHeap.get_set, if_pos rfl]
  have s2 := st8 g1 (dB (u / 100)) (o := 2) (by simp)
  have g2 : (((H.set b (.cells ((List.replicate 24 z8).set 4 (c8 (dB (u % 100)))) e true)).set b (.cells (((List.replicate 24 z8).set 4 (c8 (dB (u % 100)))).set 3 (c8 (dA (u % 100)))) e true)).set b (.cells ((((List.replicate 24 z8).set 4 (c8 (dB (u % 100)))).set 3 (c8 (dA (u % 100)))).set 2 (c8 (dB (u / 100)))) e true)).get b = some (.cells ((((List.replicate 24 z8).set 4 (c8 (dB (u % 100)))).set 3 (c8 (dA (u % 100)))).set 2 (c8 (dB (u / 100)))) e true) := by rw [AHeap.get_set, if_pos rfl]
  have s3 := st8 g2 (dA (u / 100)) (o := 1) (by simp)
  have g3 : ((((H.set b (.cells ((List.replicate 24 z8).set 4 (c8 (dB (u % 100)))) e true)).set b (.cells (((List.replicate 24 z8).set 4 (c8 (dB (u % 100)))).set 3 (c8 (dA (u % 100)))) e true)).set b (.cells ((((List.replicate 24 z8).set 4 (c8 (dB (u % 100)))).set 3 (c8 (dA (u % 100)))).set 2 (c8 (dB (u / 100)))) e true)).set b (.cells (((((List.replicate 24 z8).set 4 (c8 (dB (u % 100)))).set 3 (c8 (dA (u % 100)))).set 2 (c8 (dB (u / 100)))).set 1 (c8 (dA (u / 100)))) e true)).get b = some (.cells (((((List.replicate 24 z8).set 4 (c8 (dB (u % 100)))).set 3 (c8 (dA (u % 100)))).set 2 (c8 (dB (u / 100)))).set 1 (c8 (dA (u / 100)))) e true) := by rw [AHeap.get_set, if_pos rfl]
  have r1 : aInt .rem .u32 (u : Int) 10000 = some (.int .u32 (u : Nat)) := by rw [remU .u32 u 10000 10000 rfl (by decide), Nat.mod_eq_of_lt hu]
  have q1 := quoU u 10000 10000 rfl (by decide) (by omega)
  have q2 := quoU u 100 100 rfl (by decide) (by omega)
  have r2 := remU .u32 u 100 100 rfl (by decide)
  have m2 := mulU (u % 100) 2 2 rfl (by omega)
  have m1 := mulU (u / 100) 2 2 rfl (by omega)
  have h1 : IntKind.u32.wrap (((u % 100 * 2 : Nat) : Int) + 1) = ((u % 100 * 2 + 1 : Nat) : Int) := by rw [show ((u % 100 * 2 : Nat) : Int) + 1 = ((u % 100 * 2 + 1 : Nat) : Int) by omega, u32wrap _ (by omega)]
  have h2 : IntKind.u32.wrap (((u / 100 * 2 : Nat) : Int) + 1) = ((u / 100 * 2 + 1 : Nat) : Int) := by rw [show ((u / 100 * 2 : Nat) : Int) + 1 = ((u / 100 * 2 + 1 : Nat) : Int) by omega, u32wrap _ (by omega)]
  repeat' ((conv => whnf); first
    | (refine Both.intro ?_ ?_ <;> intro _ <;> try (exfalso; omega))
    | (refine Need.intro (by omega) ?_)
    | fail)
  all_goals (conv => whnf)
  refine Runs.loop (fun _ : Unit => [(4, .int .i64 4), (0, .slice (some ⟨b, 1, none⟩) 4 23), (1, .int .u64 u)]) (fun _ H' => H = H') (fun _ => 0) () ⟨rfl, rfl, rfl, trivial⟩ rfl ?_
  rintro _ _ rfl
  repeat' ((conv => whnf); first
    | (refine Both.intro ?_ ?_ <;> intro _ <;> try (exfalso; omega))
    | (refine Need.intro (by omega) ?_)
    | (refine Gives.intro ⟨_, cU64 u (by omega), ?_⟩)
    | (refine Gives.intro ⟨_, r1, ?_⟩)
    | (refine Gives.intro ⟨_, q1, ?_⟩)
    | (refine Gives.intro ⟨_, q2, ?_⟩)
    | (refine Gives.intro ⟨_, r2, ?_⟩)
    | (refine Gives.intro ⟨_, m2, ?_⟩)
    | (refine Gives.intro ⟨_, m1, ?_⟩)
    | (refine ⟨_, sm1 (u % 100) (by omega), ?_⟩)
    | (refine ⟨_, sm0 (u % 100) (by omega), ?_⟩)
    | (refine ⟨_, sm1 (u / 100) (by omega), ?_⟩)
    | (refine ⟨_, sm0 (u / 100) (by omega), ?_⟩)
    | (refine Outs.intro ⟨_, _, _, s0, ?_⟩)
    | (refine Outs.intro ⟨_, _, _, s1, ?_⟩)
    | (refine Outs.intro ⟨_, _, _, s2, ?_⟩)
    | (refine Outs.intro ⟨_, _, _, s3, ?_⟩)
    | (refine Need.intro (draw_of (by simp only [effAll, lookAll, and_self])) ?_)
    | fail)
  all_goals (conv => whnf)
  exact ⟨rfl, ⟨rfl, fun c hc => by simp only [AHeap.get_set, if_neg hc]⟩, g3⟩
set_option maxHeartbeats 4000000 in
theorem fb3_any (H : AHeap) (b e u : Nat) (hu : u < 1000) (hg : H.get b = some (.cells (List.replicate 24 z8) e true)) :
    Does Tryd.prog orc 42 [.slice (some ⟨b, 1, none⟩) 3 23, .int .u64 u] H fun r H' => r = .ret (.tuple #[]) ∧ But b H H' ∧ H'.get b = some (.cells (z8 :: c8 (UInt8.ofNat (48 + u / 100)) :: c8 (dA (u % 100)) :: c8 (dB (u % 100)) :: List.replicate 20 z8) e true) := by
  refine Does.of Tryd.func42 (fun _ _ => rfl) rfl ?_
  have s0 := st8 hg (dB (u % 100)) (o := 3) (by simp)
  have g0 : (H.set b (.cells ((List.replicate 24 z8).set 3 (c8 (dB (u % 100)))) e true)).get b = some (.cells ((List.replicate 24 z8).set 3 (c8 (dB (u % 100)))) e true) := by rw [AHeap.get_set, if_pos rfl]
  have s1 := st8 g0 (dA (u % 100)) (o := 2) (by simp)
  have g1 : ((H.set b (.cells ((List.replicate 24 z8).set 3 (c8 (dB (u % 100)))) e true)).set b (.cells (((List.replicate 24 z8).set 3 (c8 (dB (u % 100)))).set 2 (c8 (dA (u % 100)))) e true)).get b = some (.cells (((List.replicate 24 z8).set 3 (c8 (dB (u % 100)))).set 2 (c8 (dA (u % 100)))) e true) := by rw [AHeap.get_set, if_pos rfl]
  have s2 := st8 g1 (UInt8.ofNat (48 + u / 100)) (o := 1) (by simp)
  have g2 : (((H.set b (.cells ((List.replicate 24 z8).set 3 (c8 (dB (u % 100)))) e true)).set b (.cells (((List.replicate 24 z8).set 3 (c8 (dB (u % 100)))).set 2 (c8 (dA (u % 100)))) e true)).set b (.cells ((((List.replicate 24 z8).set 3 (c8 (dB (u % 100)))).set 2 (c8 (dA (u % 100)))).set 1 (c8 (UInt8.ofNat (48 + u / 100)))) e true)).get b = some (.cells ((((List.replicate 24 z8).set 3 (c8 (dB (u % 100)))).set 2 (c8 (dA (u % 100)))).set 1 (c8 (UInt8.ofNat (48 + u / 100)))) e true) := by rw [AHeap.get_set, if_pos rfl]
  have q2 := quoU u 100 100 rfl (by decide) (by omega)
  have r2 := remU .u32 u 100 100 rfl (by decide)
  have m2 := mulU (u % 100) 2 2 rfl (by omega)
  have m1 := mulU (u / 100) 2 2 rfl (by omega)
  have h1 : IntKind.u32.wrap (((u % 100 * 2 : Nat) : Int) + 1) = ((u % 100 * 2 + 1 : Nat) : Int) := by rw [show ((u % 100 * 2 : Nat) : Int) + 1 = ((u % 100 * 2 + 1 : Nat) : Int) by omega, u32wrap _ (by omega)]
  repeat' ((conv => whnf); first
    | (refine Both.intro ?_ ?_ <;> intro _ <;> try (exfalso; omega))
    | (refine Need.intro (by omega) ?_)
    | fail)
  all_goals (conv => whnf)
  refine Runs.loop (fun _ : Unit => [(4, .int .i64 3), (0, .slice (some ⟨b, 1, none⟩) 3 23), (1, .int .u64 u)]) (fun _ H' => H = H') (fun _ => 0) () ⟨rfl, rfl, rfl, trivial⟩ rfl ?_
  rintro _ _ rfl
  repeat' ((conv => whnf); first
    | (refine Both.intro ?_ ?_ <;> intro _ <;> try (exfalso; omega))
    | (refine Need.intro (by omega) ?_)
    | (refine Gives.intro ⟨_, cU64 u (by omega), ?_⟩)
    | (refine Gives.intro ⟨_, q2, ?_⟩)
    | (refine Gives.intro ⟨_, r2, ?_⟩)
    | (refine Gives.intro ⟨_, m2, ?_⟩)
    | (refine Gives.intro ⟨_, m1, ?_⟩)
    | (refine ⟨_, sm1 (u % 100) (by omega), ?_⟩)
    | (refine ⟨_, sm0 (u % 100) (by omega), ?_⟩)
    | (refine Gives.intro ⟨_, cD (u / 100) (by omega), ?_⟩)
    | (refine Outs.intro ⟨_, _, _, s0, ?_⟩)
    | (refine Outs.intro ⟨_, _, _, s1, ?_⟩)
    | (refine Outs.intro ⟨_, _, _, s2, ?_⟩)
    | (refine Need.intro (draw_of (by simp only [effAll, lookAll, and_self])) ?_)
    | fail)
  all_goals (conv => whnf)
  exact ⟨rfl, ⟨rfl, fun c hc => by simp only [AHeap.get_set, if_neg hc]⟩, g2⟩
set_option maxHeartbeats 4000000 in
theorem fb2_any (H : AHeap) (b e u : Nat) (hu : u < 100) (hg : H.get b = some (.cells (List.replicate 24 z8) e true)) :
    Does Tryd.prog orc 42 [.slice (some ⟨b, 1, none⟩) 2 23, .int .u64 u] H fun r H' => r = .ret (.tuple #[]) ∧ But b H H' ∧ H'.get b = some (.cells (z8 :: c8 (dA u) :: c8 (dB u) :: List.replicate 21 z8) e true) := by
  refine Does.of Tryd.func42 (fun _ _ => rfl) rfl ?_
  have s0 := st8 hg (dB u) (o := 2) (by simp)
  have g0 : (H.set b (.cells ((List.replicate 24 z8).set 2 (c8 (dB u))) e true)).get b = some (.cells ((List.replicate 24 z8).set 2 (c8 (dB u))) e true) := by rw [AHeap.get_set, if_pos rfl]
  have s1 := st8 g0 (dA u) (o := 1) (by simp)
  have g1 : ((H.set b (.cells ((List.replicate 24 z8).set 2 (c8 (dB u))) e true)).set b (.cells (((List.replicate 24 z8).set 2 (c8 (dB u))).set 1 (c8 (dA u))) e true)).get b = some (.cells (((List.replicate 24 z8).set 2 (c8 (dB u))).set 1 (c8 (dA u))) e true) := by rw [AHeap.get_set, if_pos rfl]
  have q2 := quoU u 100 100 rfl (by decide) (by omega)
  have r2 : aInt .rem .u32 (u : Int) 100 = some (.int .u32 (u : Nat)) := by rw [remU .u32 u 100 100 rfl (by decide), Nat.mod_eq_of_lt hu]
  have m2 := mulU u 2 2 rfl (by omega)
  have h1 : IntKind.u32.wrap (((u * 2 : Nat) : Int) + 1) = ((u * 2 + 1 : Nat) : Int) := by rw [show ((u * 2 : Nat) : Int) + 1 = ((u * 2 + 1 : Nat) : Int) by omega, u32wrap _ (by omega)]
  repeat' ((conv => whnf); first
    | (refine Both.intro ?_ ?_ <;> intro _ <;> try (exfalso; omega))
    | (refine Need.intro (by omega) ?_)
    | fail)
  all_goals (conv => whnf)
  refine Runs.loop (fun _ : Unit => [(4, .int .i64 2), (0, .slice (some ⟨b, 1, none⟩) 2 23), (1, .int .u64 u)]) (fun _ H' => H = H') (fun _ => 0) () ⟨rfl, rfl, rfl, trivial⟩ rfl ?_
  rintro _ _ rfl
  repeat' ((conv => whnf); first
    | (refine Both.intro ?_ ?_ <;> intro _ <;> try (exfalso; omega))
    | (refine Need.intro (by omega) ?_)
    | (refine Gives.intro ⟨_, cU64 u (by omega), ?_⟩)
    | (refine Gives.intro ⟨_, q2, ?_⟩)
    | (refine Gives.intro ⟨_, r2, ?_⟩)
    | (refine Gives.intro ⟨_, m2, ?_⟩)
    | (refine ⟨_, sm1 u (by omega), ?_⟩)
    | (refine ⟨_, sm0 u (by omega), ?_⟩)
    | (refine Outs.intro ⟨_, _, _, s0, ?_⟩)
    | (refine Outs.intro ⟨_, _, _, s1, ?_⟩)
    | (refine Need.intro (draw_of (by simp only [effAll, lookAll, and_self])) ?_)
    | fail)
  all_goals (conv => whnf)
  exact ⟨rfl, ⟨rfl, fun c hc => by simp only [AHeap.get_set, if_neg hc]⟩, g1⟩
set_option maxHeartbeats 4000000 in
theorem fb1_any (H : AHeap) (b e u : Nat) (hu : u < 10) (hg : H.get b = some (.cells (List.replicate 24 z8) e true)) :
    Does Tryd.prog orc 42 [.slice (some ⟨b, 1, none⟩) 1 23, .int .u64 u] H fun r H' => r = .ret (.tuple #[]) ∧ But b H H' ∧ H'.get b = some (.cells (z8 :: c8 (UInt8.ofNat (48 + u)) :: List.replicate 22 z8) e true) := by
  refine Does.of Tryd.func42 (fun _ _ => rfl) rfl ?_
  have s0 := st8 hg (UInt8.ofNat (48 + u)) (o := 1) (by simp)
  have g0 : (H.set b (.cells ((List.replicate 24 z8).set 1 (c8 (UInt8.ofNat (48 + u)))) e true)).get b = some (.cells ((List.replicate 24 z8).set 1 (c8 (UInt8.ofNat (48 + u)))) e true) := by rw [AHeap.get_set, if_pos rfl]
  repeat' ((conv => whnf); first
    | (refine Both.intro ?_ ?_ <;> intro _ <;> try (exfalso; omega))
    | (refine Need.intro (by omega) ?_)
    | fail)
  all_goals (conv => whnf)
  refine Runs.loop (fun _ : Unit => [(4, .int .i64 1), (0, .slice (some ⟨b, 1, none⟩) 1 23), (1, .int .u64 u)]) (fun _ H' => H = H') (fun _ => 0) () ⟨rfl, rfl, rfl, trivial⟩ rfl ?_
  rintro _ _ rfl
  repeat' ((conv => whnf); first
    | (refine Both.intro ?_ ?_ <;> intro _ <;> try (exfalso; omega))
    | (refine Need.intro (by omega) ?_)
    | (refine Gives.intro ⟨_, cU64 u (by omega), ?_⟩)
    | (refine Gives.intro ⟨_, cD u (by omega), ?_⟩)
    | (refine Outs.intro ⟨_, _, _, s0, ?_⟩)
    | (refine Need.intro (draw_of (by simp only [effAll, lookAll, and_self])) ?_)
    | fail)
  all_goals (conv => whnf)
  exact ⟨rfl, ⟨rfl, fun c hc => by simp only [AHeap.get_set, if_neg hc]⟩, g0⟩
end Go.AX.Tryd
