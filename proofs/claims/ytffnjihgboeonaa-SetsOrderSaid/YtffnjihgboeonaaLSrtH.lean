/- slices.Clone, Equal, Compact, IndexFunc at uint64; sets.Same. -/
import Derived.Test.YtffnjihgboeonaaLSrtG
namespace Go.AX.Try
open Go Go.AX Go.AX.Lw Go.Proofs
set_option linter.unusedVariables false
set_option linter.unusedSimpArgs false
set_option maxRecDepth 100000
abbrev nums (l : List Nat) : List Value := l.map fun (x : Nat) => Value.int .u64 (x : Int)
theorem nums_arr (l : List Nat) : u64s l.toArray = nums l := by simp [u64s, nums]
theorem u64Ty : AppTy Try.prog #[22, 22] 27 8 where
  t0 := by kernel_rfl
  t1 := by kernel_rfl
  size := by kernel_rfl
  bytes := by kernel_rfl
  pos := by decide
  zero := ⟨.int .u64 0, by kernel_rfl, rfl⟩
theorem nums_one (l : List Nat) : allOne (nums l) = true := by
  unfold allOne; rw [List.all_eq_true]; intro x hx
  obtain ⟨y, _, rfl⟩ := List.mem_map.1 hx
  rfl
theorem nums_get {l : List Nat} {i : Nat} {x : Nat} (h : l[i]? = some x) : (nums l)[i]? = some (.int .u64 (x : Int)) := by simp [nums, h]
theorem same_any (H : AHeap) (a a' : Option Addr) (n n' c c' : Nat) (l m : List Nat) (hl : Row H a n c (nums l)) (hm : Row H a' n' c' (nums m)) (hn : n ≤ 2 ^ 40) (hn' : n' ≤ 2 ^ 40) :
    Does Try.prog orc 18 [.slice a n c, .slice a' n' c'] H fun r H' => ∃ b, r = .ret (.bool b) ∧ (b = true ↔ l = m) ∧ H = H' := by
  have h1 := hl.len; simp at h1
  have h2 := hm.len; simp at h2
  have hc1 := hl.cap
  have hc2 := hm.cap
  refine Does.of Try.func18 (fun _ _ => rfl) rfl ?_
  repeat' ((conv => whnf); first
    | (refine Both.intro ?_ ?_ <;> intro _ <;> try (exfalso; omega))
    | (refine Need.intro (by omega) ?_)
    | fail)
  all_goals (conv => whnf)
  · exact ⟨_, rfl, iff_of_false (by simp) (fun e => by subst e; omega), rfl⟩
  have hnn : n = n' := by omega
  subst hnn
  refine Runs.loop (fun k : Nat => [(13, .int .i64 k), (12, .int .i64 n), (0, .slice a n c), (1, .slice a' n c')]) (fun k H' => H = H' ∧ k ≤ n ∧ ∀ (j : Nat) x, j < k → l[j]? = some x → m[j]? = some x) (fun k => n - k) 0 ⟨rfl, rfl, rfl, rfl, trivial⟩ ⟨rfl, by omega, by omega⟩ ?_
  rintro k _ ⟨rfl, hk, hall⟩
  by_cases hlt : k < n
  · obtain ⟨x, hx⟩ := get_of (l := l) (k := k) (by omega)
    obtain ⟨y, hy⟩ := get_of (l := m) (k := k) (by omega)
    obtain ⟨b, o, st, rfl, hcell⟩ := hl.cell k _ (nums_get hx)
    obtain ⟨b', o', st', rfl, hcell'⟩ := hm.cell k _ (nums_get hy)
    by_cases hxy : x = y
    · skip
      repeat' ((conv => whnf); first
        | (refine Both.intro ?_ ?_ <;> intro _ <;> try (exfalso; omega))
        | (refine Need.intro (by omega) ?_)
        | (refine ⟨_, hcell, ?_⟩)
        | (refine ⟨_, hcell', ?_⟩)
        | (refine Need.intro (DrawP.intro (by kernel_rfl)) ?_)
        | fail)
      all_goals (conv => whnf)
      exact ⟨k + 1, ⟨rfl, rfl, rfl, rfl, trivial⟩, ⟨rfl, by omega, all_step (R := fun j x => m[j]? = some x) hall hx (by rw [hy, hxy])⟩, by omega⟩
    · skip
      repeat' ((conv => whnf); first
        | (refine Both.intro ?_ ?_ <;> intro _ <;> try (exfalso; omega))
        | (refine Need.intro (by omega) ?_)
        | (refine ⟨_, hcell, ?_⟩)
        | (refine ⟨_, hcell', ?_⟩)
        | (refine Need.intro (DrawP.intro (by kernel_rfl)) ?_)
        | fail)
      all_goals (conv => whnf)
      exact ⟨_, rfl, iff_of_false (by simp) (fun e => hxy (by subst e; rw [hx] at hy; cases hy; rfl)), rfl⟩
  · skip
    repeat' ((conv => whnf); first
      | (refine Both.intro ?_ ?_ <;> intro _ <;> try (exfalso; omega))
      | (refine Need.intro (by omega) ?_)
      | fail)
    all_goals (conv => whnf)
    exact ⟨_, rfl, iff_of_true rfl (list_eq_of (by omega) fun j x hj hx => hall j x (by omega) hx), rfl⟩
theorem clone_any (H : AHeap) (hw : Wf H) (a : Option Addr) (n c : Nat) (l : List Nat) (hl : Row H a n c (nums l)) (hn : n ≤ 2 ^ 40) :
    Does Try.prog orc 19 [.slice a n c] H fun r H' => ∃ a' c', r = .ret (.slice a' n c') ∧ Ext H H' ∧ Wf H' ∧ n ≤ c' ∧ (n = 0 ∨ ∃ b, a' = some ⟨b, 0, some 0⟩ ∧ H.next ≤ b ∧ c' = n ∧ H'.get b = some (.cells (nums l) (rowV 27 1) true)) := by
  have h1 := hl.len; simp at h1
  have hc1 := hl.cap
  refine Does.of Try.func19 (fun _ _ => rfl) rfl ?_
  cases a with
  | none =>
    have hz := hl.zero
    have hn0 : n = 0 := by rw [h1, List.map_eq_nil_iff.1 hz]; rfl
    repeat' ((conv => whnf); first
      | (refine Both.intro ?_ ?_ <;> intro _ <;> try (exfalso; omega))
      | (refine Need.intro (by omega) ?_)
      | (refine Gives.intro ⟨.bool true, by kernel_rfl, ?_⟩)
      | (refine Need.intro (DrawP.intro (by kernel_rfl)) ?_)
      | fail)
    all_goals (conv => whnf)
    exact ⟨none, 0, by rw [hn0]; rfl, Ext.refl _, hw, by omega, .inl hn0⟩
  | some a =>
    obtain ⟨Z, hZ⟩ : ∃ Z, Z = H.push (.cells [] 0 true) := ⟨_, rfl⟩
    have gZ : Z.get H.next = some (.cells [] 0 true) := by rw [hZ, get_new]
    have eZ : Ext H Z := by rw [hZ]; exact Ext.push _ _
    have wZ : Wf Z := by rw [hZ]; exact hw.push _
    have hsrc := (hl.ext hw eZ).src
    by_cases h0 : n = 0
    · have happ : aAppend Try.prog Z #[22, 22] [.slice (some ⟨H.next, 0, none⟩) 0 0, .slice (some a) n c] = some (.val (.slice (some ⟨H.next, 0, none⟩) 0 0) (Z.set H.next (.cells [] 0 true)) (.eff Z (Z.set H.next (.cells [] 0 true)))) := by
        rw [append_eq u64Ty hsrc, h0, show nums l = [] by rw [List.eq_nil_of_length_eq_zero (by omega : l.length = 0)]; rfl]
        unfold aAppendTo
        simp only [gZ]
        rfl
      rw [hZ] at happ
      repeat' ((conv => whnf); first
        | (refine Both.intro ?_ ?_ <;> intro _ <;> try (exfalso; omega))
        | (refine Need.intro (by omega) ?_)
        | (refine Gives.intro ⟨.bool false, by kernel_rfl, ?_⟩)
        | (refine Need.intro (DrawP.intro (by kernel_rfl)) ?_)
        | (refine ⟨[], by kernel_rfl, ?_⟩)
        | (refine Outs.intro ⟨_, _, _, happ, ?_⟩)
        | fail)
      all_goals (conv => whnf)
      exact ⟨_, 0, by rw [h0]; rfl, (Ext.push _ _).set (Nat.le_refl _) _, (hw.push _).set (get_new _ _) _, by omega, .inl h0⟩
    · have happ : aAppend Try.prog Z #[22, 22] [.slice (some ⟨H.next, 0, none⟩) 0 0, .slice (some a) n c] = some (.val (.slice (some ⟨Z.next, 0, some 0⟩) n n) (Z.push (.cells (nums l) (rowV 27 1) true)) (.eff Z (Z.push (.cells (nums l) (rowV 27 1) true)))) := by
        rw [append_eq u64Ty hsrc]
        unfold aAppendTo
        have c1 : (Nat.ble ((0 + n) * 8) (2 ^ 47) && Nat.ble (0 + n) (2 ^ 47) && Nat.beq (nums l).length (n * 1) && Nat.ble 0 0 && allOne (nums l)) = true := by
          rw [nums_one, show (nums l).length = n by simp [nums, h1], Nat.mul_one, nbeq, nble (by omega), nble (by omega)]; rfl
        simp only [c1, cond_true]
        rw [nble_no (show ¬ 0 + n ≤ 0 by omega)]
        simp only [cond_false, Nat.zero_add]
        rfl
      rw [hZ] at happ
      repeat' ((conv => whnf); first
        | (refine Both.intro ?_ ?_ <;> intro _ <;> try (exfalso; omega))
        | (refine Need.intro (by omega) ?_)
        | (refine Gives.intro ⟨.bool false, by kernel_rfl, ?_⟩)
        | (refine Need.intro (DrawP.intro (by kernel_rfl)) ?_)
        | (refine ⟨[], by kernel_rfl, ?_⟩)
        | (refine Outs.intro ⟨_, _, _, happ, ?_⟩)
        | fail)
      all_goals (conv => whnf)
      exact ⟨_, n, rfl, (Ext.push _ _).trans (Ext.push _ _), (hw.push _).push _, Nat.le_refl _, .inr ⟨_, rfl, by simp, rfl, get_new _ _⟩⟩
/-- A list without what stands twice in a row. -/
def compF : List Nat → List Nat
  | [] => []
  | [x] => [x]
  | x :: y :: r => if x = y then compF (y :: r) else x :: compF (y :: r)
theorem compF_snoc (x : Nat) : ∀ (l : List Nat), l ≠ [] → compF (l ++ [x]) = if l.getLast? = some x then compF l else compF l ++ [x]
  | [], h => absurd rfl h
  | [a], _ => by
    show (if a = x then compF [x] else a :: compF [x]) = _
    by_cases h : a = x
    · subst h; simp [compF]
    · simp [compF, h]
  | a :: b :: r, _ => by
    have ih := compF_snoc x (b :: r) (by simp)
    have e : (a :: b :: r).getLast? = (b :: r).getLast? := by simp
    show (if a = b then compF ((b :: r) ++ [x]) else a :: compF ((b :: r) ++ [x])) = _
    rw [e, ih]
    show _ = if _ then (if a = b then compF (b :: r) else a :: compF (b :: r)) else (if a = b then compF (b :: r) else a :: compF (b :: r)) ++ [x]
    by_cases h1 : a = b <;> by_cases h2 : (b :: r).getLast? = some x <;> simp [h1, h2]
theorem take_last {l : List Nat} {j : Nat} {x : Nat} (h : l[j]? = some x) : (l.take (j + 1)).getLast? = some x := by
  rw [List.take_add_one, h]; simp
theorem compF_step {l : List Nat} {j x y : Nat} (hx : l[j]? = some x) (hy : l[j + 1]? = some y) : compF (l.take (j + 2)) = if x = y then compF (l.take (j + 1)) else compF (l.take (j + 1)) ++ [y] := by
  have hl : l.take (j + 1) ≠ [] := by
    intro h; have := take_last hx; rw [h] at this; cases this
  rw [show l.take (j + 2) = l.take (j + 1) ++ [y] by rw [List.take_add_one, hy]; rfl, compF_snoc y _ hl, take_last hx]
  by_cases h : x = y
  · rw [if_pos h, if_pos (by rw [h])]
  · rw [if_neg h, if_neg (by simpa using h)]
theorem compF_len : ∀ l : List Nat, (compF l).length ≤ l.length
  | [] => Nat.le_refl _
  | [x] => Nat.le_refl _
  | x :: y :: r => by
    have := compF_len (y :: r)
    show (if x = y then compF (y :: r) else x :: compF (y :: r)).length ≤ _
    split <;> simp at this ⊢ <;> omega
theorem get_bang {l : List Nat} {i : Nat} (h : i < l.length) : l[i]? = some (l.toArray[i]!) := by
  rw [getElem!_pos l.toArray i (by simpa using h)]
  simp
theorem Arr.cellO {H : AHeap} {b e : Nat} {d : Array Nat} (h : Arr H b e d) {o i : Nat} {z : Int} (hz : z = i) (hi : o + i < d.size) : cellAt H b (0 + o * 1 + z.toNat) = some (.int .u64 (d[o + i]! : Int)) := by
  subst hz
  have := h.cell hi
  rw [Nat.mul_one, Nat.zero_add]
  rw [Nat.zero_add] at this
  exact this
theorem set_take {d : Array Nat} {k x : Nat} (hk : k < d.size) : (d.setIfInBounds k x).toList.take (k + 1) = d.toList.take k ++ [x] := by
  rw [Array.toList_setIfInBounds, List.take_add_one, List.take_set_of_le (Nat.le_refl _)]
  simp [hk]
theorem set_other {d : Array Nat} {k x i : Nat} (hi : i < d.size) (h : i ≠ k) : (d.setIfInBounds k x)[i]! = d[i]! := by
  rw [getElem!_pos _ i (by simpa using hi), getElem!_pos d i hi, Array.getElem_setIfInBounds_ne hi (fun e => h e.symm)]
theorem clearArr {H : AHeap} {blk e k n c : Nat} {d : Array Nat} (h : Arr H blk e d) (hs : d.size = n) (hk : k < n) (hc : n ≤ c) :
    ∃ d', aClear Try.prog H #[22] [.slice (some ⟨blk, 0 + k * 1, some 0⟩) (n - k) (c - k)] = some (.val (.tuple #[]) (H.set blk (.cells (u64s d') e true)) (.eff H (H.set blk (.cells (u64s d') e true)))) ∧ d'.size = n ∧ d'.toList.take k = d.toList.take k := by
  have hput := putAt_list (u64s d) (0 + k * 1) (repZ [Value.int .u64 0] (n - k)) (by rw [repZ_single, List.length_replicate, u64s_len]; omega)
  refine ⟨(d.toList.take k ++ List.replicate (n - k) 0).toArray, ?_, by simp; omega, ?_⟩
  · have t0 : Try.prog.underlying 22 = some (.slice 27) := by kernel_rfl
    have t1 : sizeT Try.prog 27 = some 1 := by kernel_rfl
    have t2 : zeroOf Try.prog 27 = some (.int .u64 0) := by kernel_rfl
    have e2 : (Value.int IntKind.u64 0).cells.toList = [.int .u64 0] := rfl
    have hcell : (u64s d).take (0 + k * 1) ++ repZ [Value.int .u64 0] (n - k) ++ (u64s d).drop (0 + k * 1 + (repZ [Value.int .u64 0] (n - k)).length) = u64s (d.toList.take k ++ List.replicate (n - k) 0).toArray := by
      rw [repZ_single, List.length_replicate, List.drop_eq_nil_of_le (by rw [u64s_len]; omega), List.append_nil, Nat.zero_add, Nat.mul_one]
      simp [u64s, List.map_take]
    rw [hcell] at hput
    unfold aClear
    have e0 : (#[22] : Array TypeId)[0]? = some 22 := rfl
    simp only [e0, t0, t1, t2]
    rw [nbeq_no (by omega)]
    simp only [cond_false, e2]
    have c1 : (Nat.beq (Value.int IntKind.u64 0).cells.size 1 && Nat.ble (n - k) (c - k) && allOne [Value.int IntKind.u64 0]) = true := by
      rw [nble (by omega)]; rfl
    simp only [c1, cond_true]
    have hg : H.get blk = some (.cells (u64s d) e true) := h
    simp only [hg, hput]
  · rw [List.take_append_of_le_length (by simp; omega), List.take_take, Nat.min_self]
theorem compact_any (H : AHeap) (hw : Wf H) (blk e c : Nat) (l : List Nat) (n : Nat) (hn : n = l.length) (hd : Arr H blk e l.toArray) (hc : n ≤ c) (hsz : n ≤ 4096) :
    Does Try.prog orc 21 [DV blk n c (some 0)] H fun r H' => r = .ret (.slice (some ⟨blk, 0, some 0⟩) (compF l).length c) ∧ ∃ d', Upd blk e H H' d' ∧ d'.size = n ∧ d'.toList.take (compF l).length = compF l := by
  refine Does.of Try.func21 (fun _ _ => rfl) rfl ?_
  have hsl : l.toArray.size = n := by rw [hn]; rfl
  have u0 := Upd.refl hd hw
  by_cases h2 : n < 2
  · have hcf : compF l = l := by
      match l, hn with
      | [], _ => rfl
      | [x], _ => rfl
      | x :: y :: r, hn => simp at hn; omega
    repeat' ((conv => whnf); first
      | (refine Both.intro ?_ ?_ <;> intro _ <;> try (exfalso; omega))
      | (refine Need.intro (by omega) ?_)
      | fail)
    all_goals (conv => whnf)
    rw [hcf, ← hn]
    exact ⟨rfl, l.toArray, u0, hsl, by rw [hn]; simp⟩
  repeat' ((conv => whnf); first
    | (refine Both.intro ?_ ?_ <;> intro _ <;> try (exfalso; omega))
    | (refine Need.intro (by omega) ?_)
    | fail)
  all_goals (conv => whnf)
  refine Runs.loop (fun k : Nat => [(3, .int .i64 k), (0, DV blk n c (some 0))]) (fun k H' => H = H' ∧ 1 ≤ k ∧ k ≤ n ∧ compF (l.take k) = l.take k) (fun k => n - k) 1 ⟨rfl, rfl, trivial⟩ ⟨rfl, Nat.le_refl _, by omega, by
    cases l with
    | nil => simp at hn; omega
    | cons x r => rfl⟩ ?_
  rintro k _ ⟨rfl, hk1, hk, hcf⟩
  by_cases hlt : k < n
  · obtain ⟨j, rfl⟩ : ∃ j, k = j + 1 := ⟨k - 1, by omega⟩
    have hx := get_bang (l := l) (i := j) (by omega)
    have hy := get_bang (l := l) (i := j + 1) (by omega)
    have hst := compF_step hx hy
    by_cases hxy : l.toArray[j]! = l.toArray[j + 1]!
    · rw [if_pos hxy, hcf] at hst
      repeat' ((conv => whnf); first
        | (refine Both.intro ?_ ?_ <;> intro _ <;> try (exfalso; omega))
        | (refine Need.intro (by omega) ?_)
        | (refine ⟨_, u0.arr.cellI (i := j + 1) (by omega) (by omega), ?_⟩)
        | (refine ⟨_, u0.arr.cellI (i := j) (by omega) (by omega), ?_⟩)
        | (refine Need.intro (DrawP.intro (by kernel_rfl)) ?_)
        | (refine Gives.intro ⟨_, slice_from (e := 27) (n := 1) (m := j + 1) (by kernel_rfl) (by kernel_rfl) (by omega) hc (by intro b o h; cases h), ?_⟩)
        | fail)
      all_goals (conv => whnf)
      have hyA : l.toArray.toList.take (j + 1) = l.take (j + 1) := rfl
      refine Runs.loop (fun s : Nat × Nat × Array Nat => [(5, .int .i64 (s.2.1 : Nat)), (4, .slice (some ⟨blk, 0 + (j + 1) * 1, some 0⟩) (n - (j + 1)) (c - (j + 1))), (3, .int .i64 (s.1 : Nat)), (0, DV blk n c (some 0))])
        (fun s H' => Upd blk e H H' s.2.2 ∧ s.2.2.size = n ∧ 1 ≤ s.2.1 ∧ s.2.1 ≤ n - (j + 1) ∧ j + 1 ≤ s.1 ∧ s.1 ≤ j + s.2.1 ∧ compF (l.take (j + 1 + s.2.1)) = s.2.2.toList.take s.1 ∧ ∀ i, j + s.2.1 ≤ i → i < n → s.2.2[i]! = l.toArray[i]!) (fun s => n - s.2.1) (j + 1, 1, l.toArray) ⟨rfl, rfl, rfl, rfl, trivial⟩
        ⟨u0, hsl, Nat.le_refl _, by dsimp only; omega, Nat.le_refl _, by dsimp only; omega, hst, fun i _ _ => rfl⟩ ?_
      rintro ⟨k, k2, d2⟩ H2 ⟨up, hs2, hk2, hk3, hjk, hkk, hcp, hold⟩
      dsimp only at up hs2 hk2 hk3 hjk hkk hcp hold
      show vc _ _ _ _ _ [(5, .int .i64 (k2 : Nat)), (4, .slice (some ⟨blk, 0 + (j + 1) * 1, some 0⟩) (n - (j + 1)) (c - (j + 1))), (3, .int .i64 (k : Nat)), (0, DV blk n c (some 0))] _ _
      by_cases hlt2 : k2 < n - (j + 1)
      · have hx2 := get_bang (l := l) (i := j + k2) (by omega)
        have hy2 := get_bang (l := l) (i := j + k2 + 1) (by omega)
        have hst2 := compF_step hx2 hy2
        have hcp' : compF (l.take (j + k2 + 1)) = d2.toList.take k := by rw [show j + k2 + 1 = j + 1 + k2 by omega]; exact hcp
        rw [hcp'] at hst2
        have o1 := hold (j + k2) (Nat.le_refl _) (by omega)
        have o2 := hold (j + k2 + 1) (by omega) (by omega)
        have q1 : ∀ z : Int, z = (k2 : Nat) → cellAt H2 blk (0 + (j + 1) * 1 + z.toNat) = some (.int .u64 (l.toArray[j + k2 + 1]! : Int)) := fun z hz => by
          rw [up.arr.cellO hz (by omega), show j + 1 + k2 = j + k2 + 1 by omega, o2]
        have q2 : ∀ z : Int, z = (k2 : Nat) - 1 → cellAt H2 blk (0 + (j + 1) * 1 + z.toNat) = some (.int .u64 (l.toArray[j + k2]! : Int)) := fun z hz => by
          rw [up.arr.cellO (i := k2 - 1) (by omega) (by omega), show j + 1 + (k2 - 1) = j + k2 by omega, o1]
        by_cases hxy2 : l.toArray[j + k2]! = l.toArray[j + k2 + 1]!
        · rw [if_pos hxy2] at hst2
          repeat' ((conv => whnf); first
            | (refine Both.intro ?_ ?_ <;> intro _ <;> try (exfalso; omega))
            | (refine Need.intro (by omega) ?_)
            | (refine ⟨_, q1 _ rfl, ?_⟩)
            | (refine ⟨_, q2 _ rfl, ?_⟩)
            | (refine Need.intro (DrawP.intro (by kernel_rfl)) ?_)
            | fail)
          all_goals (conv => whnf)
          exact ⟨(k, k2 + 1, d2), ⟨rfl, rfl, rfl, rfl, trivial⟩, ⟨up, hs2, by dsimp only; omega, by dsimp only; omega, hjk, by dsimp only; omega, by dsimp only; rw [show j + 1 + (k2 + 1) = j + k2 + 2 by omega, hst2], fun i h1 h2 => hold i (by dsimp only at h1; omega) h2⟩, by dsimp only; omega⟩
        · rw [if_neg hxy2] at hst2
          repeat' ((conv => whnf); first
            | (refine Both.intro ?_ ?_ <;> intro _ <;> try (exfalso; omega))
            | (refine Need.intro (by omega) ?_)
            | (refine ⟨_, q1 _ rfl, ?_⟩)
            | (refine ⟨_, q2 _ rfl, ?_⟩)
            | (refine Need.intro (DrawP.intro (by kernel_rfl)) ?_)
            | (refine Outs.intro ⟨_, _, _, up.arr.store (i := k) _ (by omega) (by omega), ?_⟩)
            | fail)
          all_goals (conv => whnf)
          exact ⟨(k + 1, k2 + 1, d2.setIfInBounds k l.toArray[j + k2 + 1]!), ⟨rfl, rfl, rfl, rfl, trivial⟩, ⟨up.set _, by dsimp only; rw [Array.size_setIfInBounds]; exact hs2, by dsimp only; omega, by dsimp only; omega, by dsimp only; omega, by dsimp only; omega, by dsimp only; rw [show j + 1 + (k2 + 1) = j + k2 + 2 by omega, hst2, set_take (by omega)], fun i h1 h2 => by dsimp only at h1 ⊢; rw [set_other (by omega) (by omega)]; exact hold i (by omega) h2⟩, by dsimp only; omega⟩
      · have hkn : k2 = n - (j + 1) := by omega
        rw [List.take_of_length_le (by omega)] at hcp
        obtain ⟨d3, hcl, hs3, ht3⟩ := clearArr up.arr hs2 (show k < n by omega) hc
        repeat' ((conv => whnf); first
          | (refine Both.intro ?_ ?_ <;> intro _ <;> try (exfalso; omega))
          | (refine Need.intro (by omega) ?_)
          | (refine Gives.intro ⟨_, slice_from (e := 27) (n := 1) (m := k) (by kernel_rfl) (by kernel_rfl) (by omega) hc (by intro b o h; cases h), ?_⟩)
          | (refine Outs.intro ⟨_, _, _, hcl, ?_⟩)
          | (refine Gives.intro ⟨_, slice_toN (e := 27) (n := 1) (m := k) (by kernel_rfl) (by kernel_rfl) (by omega), ?_⟩)
          | fail)
        all_goals (conv => whnf)
        have hlen : (compF l).length = k := by rw [hcp]; simp; omega
        rw [hlen]
        exact ⟨rfl, d3, up.set d3, hs3, by rw [ht3, hcp]⟩
    · rw [if_neg hxy, hcf] at hst
      repeat' ((conv => whnf); first
        | (refine Both.intro ?_ ?_ <;> intro _ <;> try (exfalso; omega))
        | (refine Need.intro (by omega) ?_)
        | (refine ⟨_, u0.arr.cellI (i := j + 1) (by omega) (by omega), ?_⟩)
        | (refine ⟨_, u0.arr.cellI (i := j) (by omega) (by omega), ?_⟩)
        | (refine Need.intro (DrawP.intro (by kernel_rfl)) ?_)
        | fail)
      all_goals (conv => whnf)
      exact ⟨j + 2, ⟨rfl, rfl, trivial⟩, ⟨rfl, by omega, by omega, by rw [hst, show l.take (j + 2) = l.take (j + 1) ++ [l.toArray[j + 1]!] by rw [List.take_add_one, hy]; rfl]⟩, by omega⟩
  · obtain rfl : k = n := by omega
    rw [hn, List.take_length] at hcf
    repeat' ((conv => whnf); first
      | (refine Both.intro ?_ ?_ <;> intro _ <;> try (exfalso; omega))
      | (refine Need.intro (by omega) ?_)
      | fail)
    all_goals (conv => whnf)
    rw [hcf, ← hn]
    exact ⟨rfl, l.toArray, u0, hsl, by rw [hn]; simp⟩
end Go.AX.Try
