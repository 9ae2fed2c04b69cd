/- slices.Sort at uint64: cmp.Less, insertionSortOrdered. -/
import Derived.Test.YtffnjihgboeonaaLStk
import Derived.IntWalk
import Derived.Sort.LotA
import Derived.Sort.LotB
import Derived.Sort.LotC
import Derived.Sort.LotD3
import Derived.Sort.LotD5
namespace Go.AX.Lw
open Go Go.AX
theorem lookMix_same {ops : Array Oper} {j : Nat} {H : AHeap} : ∀ {tr : List (Nat × Ev)}, lookMix ops j H H tr
  | [] => True.intro
  | (i, e) :: r => by
    cases e with
    | look b o n => exact ⟨.inr rfl, lookMix_same⟩
    | make b o => exact ⟨.inr (.inr rfl), lookMix_same⟩
    | _ => exact lookMix_same (tr := r)
/-- What comes behind a loop is gone through once, whichever way the loop is left. -/
theorem _root_.Go.AX.Runs.cut {P : Program} {O : Orc} {N ng : Nat} {c : Code} {env : Env} {H : AHeap} {Q : AExit → Env → AHeap → Prop} {σ : Type} (ex : AExit) (E : σ → Env) (J : σ → AHeap → Prop)
    (h : Runs P O N ng c env H fun e env' H' => e = ex ∧ ∃ s, Sub (E s) env' ∧ J s H') (k : ∀ s H', J s H' → Q ex (E s) H') : Runs P O N ng c env H Q :=
  ⟨fun f hf => by
    obtain ⟨n, e, f1, H', env1, he, hf1, rfl, s, hs, hj⟩ := h.ends f hf
    exact ⟨n, _, f1, _, E s, he, hf1.less hs, k s _ hj⟩⟩
end Go.AX.Lw
namespace Go.AX.Try
open Go Go.AX Go.AX.Lw Go.Proofs
set_option linter.unusedVariables false
set_option linter.unusedSimpArgs false
set_option maxRecDepth 100000
abbrev ltN (x y : Nat) : Bool := decide (x < y)
def u64s (d : Array Nat) : List Value := d.toList.map fun (x : Nat) => Value.int .u64 (x : Int)
theorem u64s_len (d : Array Nat) : (u64s d).length = d.size := by simp [u64s]
theorem u64s_get {d : Array Nat} {i : Nat} (h : i < d.size) : (u64s d)[i]? = some (.int .u64 (d[i]! : Int)) := by
  unfold u64s
  rw [List.getElem?_map, Array.getElem?_toList, Array.getElem?_eq_getElem h, getElem!_pos d i h]
  rfl
theorem u64s_set {d : Array Nat} {i : Nat} {x : Nat} : (u64s d).set i (.int .u64 (x : Int)) = u64s (d.setIfInBounds i x) := by
  unfold u64s
  rw [Array.toList_setIfInBounds, List.map_set]
theorem less_any (H : AHeap) (x y : Nat) : Does Try.prog orc 36 [.int .u64 x, .int .u64 y] H fun r H' => r = .ret (.bool (ltN x y)) ∧ H = H' := by
  have hn : ∀ x : Nat, Does Try.prog orc 46 [.int .u64 x] H fun r H' => r = .ret (.bool false) ∧ H = H' := fun x => by
    refine Does.of Try.func46 (fun _ _ => rfl) rfl ?_
    repeat' ((conv => whnf); first
      | (refine Both.intro ?_ ?_ <;> intro _ <;> try (exfalso; omega))
      | (refine Need.intro (by omega) ?_)
      | fail)
    all_goals (conv => whnf)
    exact ⟨rfl, rfl⟩
  refine Does.of Try.func36 (fun _ _ => rfl) rfl ?_
  by_cases h : x < y
  · have e : ltN x y = true := decide_eq_true h
    rw [e]
    repeat' ((conv => whnf); first
      | (refine Both.intro ?_ ?_ <;> intro _ <;> try (exfalso; omega))
      | (refine Need.intro (by omega) ?_)
      | (refine Does.mono (hn _) ?_ ; rintro _ _ ⟨rfl, rfl⟩)
      | fail)
    all_goals (conv => whnf)
    exact ⟨rfl, rfl⟩
  · have e : ltN x y = false := decide_eq_false h
    rw [e]
    repeat' ((conv => whnf); first
      | (refine Both.intro ?_ ?_ <;> intro _ <;> try (exfalso; omega))
      | (refine Need.intro (by omega) ?_)
      | (refine Does.mono (hn _) ?_ ; rintro _ _ ⟨rfl, rfl⟩)
      | fail)
    all_goals (conv => whnf)
    exact ⟨rfl, rfl⟩
/-- The block of a row of numbers. -/
def Arr (H : AHeap) (b e : Nat) (d : Array Nat) : Prop := H.get b = some (.cells (u64s d) e true)
/-- A call that turned the row alone (and made blocks of its own). -/
structure Upd (b e : Nat) (H H' : AHeap) (d : Array Nat) : Prop where
  arr : Arr H' b e d
  wf : Wf H'
  next : H.next ≤ H'.next
  old : ∀ c, c < H.next → c ≠ b → H'.get c = H.get c
theorem Upd.refl {b e : Nat} {H : AHeap} {d : Array Nat} (h : Arr H b e d) (hw : Wf H) : Upd b e H H d := ⟨h, hw, Nat.le_refl _, fun _ _ _ => rfl⟩
theorem Upd.trans {b e : Nat} {H H1 H2 : AHeap} {d d' : Array Nat} (h : Upd b e H H1 d) (h' : Upd b e H1 H2 d') : Upd b e H H2 d' :=
  ⟨h'.arr, h'.wf, Nat.le_trans h.next h'.next, fun c hc hb => (h'.old c (Nat.lt_of_lt_of_le hc h.next) hb).trans (h.old c hc hb)⟩
theorem Arr.cell {H : AHeap} {b e : Nat} {d : Array Nat} (h : Arr H b e d) {i : Nat} (hi : i < d.size) : cellAt H b (0 + i) = some (.int .u64 (d[i]! : Int)) := cellAt_of h (u64s_get hi)
theorem Upd.set {b e : Nat} {H H1 : AHeap} {d : Array Nat} (h : Upd b e H H1 d) (d' : Array Nat) : Upd b e H (H1.set b (.cells (u64s d') e true)) d' :=
  ⟨by unfold Arr; rw [AHeap.get_set, if_pos rfl], h.wf.set h.arr _, by simpa using h.next, fun c hc hb => by rw [AHeap.get_set, if_neg hb]; exact h.old c hc hb⟩
theorem Arr.cellI {H : AHeap} {b e : Nat} {d : Array Nat} (h : Arr H b e d) {i : Nat} {z : Int} (hz : z = i) (hi : i < d.size) : cellAt H b (0 + z.toNat) = some (.int .u64 (d[i]! : Int)) := by
  subst hz; exact h.cell hi
theorem Arr.store {H : AHeap} {b e : Nat} {d : Array Nat} (h : Arr H b e d) {i : Nat} {z : Int} (x : Nat) (hz : z = i) (hi : i < d.size) :
    aStore Try.prog H 27 (.pointer (some ⟨b, 0 + z.toNat, none⟩)) (.int .u64 (x : Int)) = some (.val undef (H.set b (.cells (u64s (d.setIfInBounds i x)) e true)) (.eff H (H.set b (.cells (u64s (d.setIfInBounds i x)) e true)))) := by
  subst hz
  rw [← u64s_set]
  have := store_ok (P := Try.prog) (t := 27) (H := H) (b := b) (o := 0 + i) (v := .int .u64 (x : Int)) (by kernel_rfl) rfl rfl h (by rw [u64s_len]; omega)
  rw [Nat.zero_add] at this
  show aStore Try.prog H 27 (.pointer (some ⟨b, 0 + i, none⟩)) _ = _
  rw [Nat.zero_add]
  exact this
abbrev DV (b n c : Nat) (st : Option Nat) : Value := .slice (some ⟨b, 0, st⟩) n c
theorem quoN {z : Int} {x y : Nat} (hz : z = x) (hx : x ≤ 2 ^ 62) (hy : 1 ≤ y) : aInt .quo .i64 z (y : Int) = some (.int .i64 ((x / y : Nat) : Int)) := by
  subst hz
  unfold aInt
  simp only
  rw [if_neg (by omega), Go.IntWalk.i64_quo _ _ (by omega), ← Int.natCast_ediv]
theorem swp_size (d : Array Nat) (i j : Nat) : (Go.Sort.swp d i j).size = d.size := by simp [Go.Sort.swp]
theorem mulN {z w : Int} (x y : Nat) (hz : z = x) (hw : w = y) (h : x * y ≤ 2 ^ 62) : aInt .mul .i64 z w = some (.int .i64 ((x * y : Nat) : Int)) := by
  subst hz; subst hw
  unfold aInt
  simp only
  rw [← Int.natCast_mul, wrap_i64 (by omega)]
theorem insertion_any (H : AHeap) (hw : Wf H) (blk e c : Nat) (st : Option Nat) (d : Array Nat) (n : Nat) (hn : n = d.size) (hd : Arr H blk e d) (hc : n ≤ c) (hsz : n ≤ 2 ^ 40) (a b : Nat) (hb : b ≤ n) (ha : a ≤ b) :
    Does Try.prog orc 30 [DV blk n c st, .int .i64 a, .int .i64 b] H fun r H' => r = .ret (.tuple #[]) ∧ Upd blk e H H' (Go.Sort.insertionSort ltN d a b) := by
  subst hn
  refine Does.of Try.func30 (fun _ _ => rfl) rfl ?_
  repeat' ((conv => whnf); first
    | (refine Both.intro ?_ ?_ <;> intro _ <;> try (exfalso; omega))
    | (refine Need.intro (by omega) ?_)
    | fail)
  all_goals (conv => whnf)
  refine Runs.loop (fun s : Nat × Array Nat => [(6, .int .i64 s.1), (0, DV blk d.size c st), (1, .int .i64 a), (2, .int .i64 b)])
    (fun s H' => Upd blk e H H' s.2 ∧ s.2.size = d.size ∧ a + 1 ≤ s.1 ∧ s.1 ≤ b + 1 ∧ Go.Sort.insOuter ltN a b s.1 s.2 = Go.Sort.insertionSort ltN d a b) (fun s => b + 1 - s.1) (a + 1, d) ⟨rfl, rfl, rfl, rfl, trivial⟩ ⟨Upd.refl hd hw, rfl, Nat.le_refl _, by omega, rfl⟩ ?_
  rintro ⟨i, d1⟩ H1 ⟨up, hs, hi, hib, hT⟩
  dsimp only at up hs hi hib hT
  show vc _ _ _ _ _ [(6, .int .i64 i), (0, DV blk d.size c st), (1, .int .i64 a), (2, .int .i64 b)] _ _
  by_cases hlt : i < b
  · rw [Go.Sort.insOuter, if_pos hlt] at hT
    repeat' ((conv => whnf); first
      | (refine Both.intro ?_ ?_ <;> intro _ <;> try (exfalso; omega))
      | (refine Need.intro (by omega) ?_)
      | fail)
    all_goals (conv => whnf)
    refine Runs.loop (fun s : Nat × Array Nat => [(7, .int .i64 s.1), (6, .int .i64 i), (0, DV blk d.size c st), (1, .int .i64 a), (2, .int .i64 b)])
      (fun s H' => Upd blk e H H' s.2 ∧ s.2.size = d.size ∧ a ≤ s.1 ∧ s.1 ≤ i ∧ Go.Sort.insInner ltN a s.1 s.2 = Go.Sort.insInner ltN a i d1) (fun s => s.1) (i, d1) ⟨rfl, rfl, rfl, rfl, rfl, trivial⟩ ⟨up, hs, by dsimp only; omega, Nat.le_refl _, rfl⟩ ?_
    rintro ⟨j, d2⟩ H2 ⟨up2, hs2, haj, hji, hT2⟩
    dsimp only at up2 hs2 haj hji hT2
    show vc _ _ _ _ _ [(7, .int .i64 j), (6, .int .i64 i), (0, DV blk d.size c st), (1, .int .i64 a), (2, .int .i64 b)] _ _
    have leave : Go.Sort.insInner ltN a j d2 = d2 → Upd blk e H H2 d2 ∧ d2.size = d.size ∧ Go.Sort.insOuter ltN a b (i + 1) d2 = Go.Sort.insertionSort ltN d a b := fun h => ⟨up2, hs2, by rw [← hT, ← hT2, h]⟩
    by_cases hj : a < j
    · obtain ⟨k, rfl⟩ : ∃ k, j = k + 1 := ⟨j - 1, by omega⟩
      have hk : ((k + 1 : Nat) : Int) - 1 = (k : Int) := by omega
      rw [Go.Sort.insInner] at hT2
      by_cases hl : ltN d2[k + 1]! d2[k]! = true
      · rw [if_pos (by rw [hl, Bool.and_true]; exact decide_eq_true hj)] at hT2
        repeat' ((conv => whnf); first
          | (refine Both.intro ?_ ?_ <;> intro _ <;> try (exfalso; omega))
          | (refine Need.intro (by omega) ?_)
          | (refine ⟨_, up2.arr.cellI (i := k + 1) (by omega) (by omega), ?_⟩)
          | (refine ⟨_, up2.arr.cellI (i := k) (by omega) (by omega), ?_⟩)
          | (refine Does.mono (less_any _ _ _) ?_ ; rintro _ _ ⟨rfl, rfl⟩ ; first | rw [hl])
          | (refine Need.intro (draw_mix ⟨lookMix_same, True.intro⟩) ?_)
          | (refine ⟨_, up2.arr.cellI (i := k + 1) (by omega) (by omega), ?_⟩)
          | (refine ⟨_, up2.arr.cellI (i := k) (by omega) (by omega), ?_⟩)
          | (refine Outs.intro ⟨_, _, _, up2.arr.store (i := k + 1) _ (by omega) (by omega), ?_⟩)
          | (refine Outs.intro ⟨_, _, _, (up2.set _).arr.store (i := k) _ (by omega) (by rw [Array.size_setIfInBounds]; omega), ?_⟩)
          | (refine Need.intro (draw_mix ⟨⟨.inl (by kernel_rfl), .inl (by kernel_rfl), True.intro⟩, ⟨.inl (by kernel_rfl), .inl (by kernel_rfl), True.intro⟩, True.intro⟩) ?_)
          | fail)
        all_goals (conv => whnf)
        refine ⟨(k, Go.Sort.swp d2 (k + 1) k), ⟨by rw [← hk]; rfl, rfl, rfl, rfl, rfl, trivial⟩, ⟨((up2.set (d2.setIfInBounds (k + 1) d2[k]!)).set (Go.Sort.swp d2 (k + 1) (k))), by dsimp only; rw [swp_size]; exact hs2, by dsimp only; omega, by dsimp only; omega, hT2⟩, by dsimp only; omega⟩
      · have hl' : ltN d2[k + 1]! d2[k]! = false := by simpa using hl
        obtain ⟨l1, l2, l3⟩ := leave (by rw [Go.Sort.insInner, if_neg (by rw [hl', Bool.and_false]; decide)])
        repeat' ((conv => whnf); first
          | (refine Both.intro ?_ ?_ <;> intro _ <;> try (exfalso; omega))
          | (refine Need.intro (by omega) ?_)
          | (refine ⟨_, up2.arr.cellI (i := k + 1) (by omega) (by omega), ?_⟩)
          | (refine ⟨_, up2.arr.cellI (i := k) (by omega) (by omega), ?_⟩)
          | (refine Does.mono (less_any _ _ _) ?_ ; rintro _ _ ⟨rfl, rfl⟩ ; first | rw [hl'])
          | (refine Need.intro (draw_mix ⟨lookMix_same, True.intro⟩) ?_)
          | fail)
        all_goals (conv => whnf)
        exact ⟨(i + 1, d2), ⟨rfl, rfl, rfl, rfl, trivial⟩, ⟨l1, l2, by dsimp only; omega, by dsimp only; omega, l3⟩, by dsimp only; omega⟩
    · obtain rfl : j = a := by omega
      obtain ⟨l1, l2, l3⟩ := leave (by
        cases j with
        | zero => rfl
        | succ k => rw [Go.Sort.insInner, if_neg (by simp)])
      repeat' ((conv => whnf); first
        | (refine Both.intro ?_ ?_ <;> intro _ <;> try (exfalso; omega))
        | (refine Need.intro (by omega) ?_)
        | (refine Need.intro (DrawP.intro (by kernel_rfl)) ?_)
        | fail)
      all_goals (conv => whnf)
      exact ⟨(i + 1, d2), ⟨rfl, rfl, rfl, rfl, trivial⟩, ⟨l1, l2, by dsimp only; omega, by dsimp only; omega, l3⟩, by dsimp only; omega⟩
  · rw [Go.Sort.insOuter, if_neg hlt] at hT
    repeat' ((conv => whnf); first
      | (refine Both.intro ?_ ?_ <;> intro _ <;> try (exfalso; omega))
      | (refine Need.intro (by omega) ?_)
      | fail)
    all_goals (conv => whnf)
    exact ⟨rfl, hT ▸ up⟩
end Go.AX.Try
