/- slices.Concat, sets.Or, And, Holds, Same, Check, True. -/
import Derived.Test.YtffnjihgboeonaaLSrtJ
namespace Go.AX.Lw
open Go Go.AX
set_option linter.unusedVariables false
variable {P : Program}
/-- Elements that are appended where there is room. -/
theorem stk_room {H0 H : AHeap} (hw : Wf H) {ts : Array TypeId} {e : TypeId} {sz by_ : Nat} (ty : AppTyS P ts e sz by_) {b n c : Nat} {xs ys : List (List Value)} (hv : Stk H0 H (rowV e sz) sz (some ⟨b, 0, some 0⟩) n c xs)
    {x : Value} {m : Nat} (hx : srcCells H sz x = some (m, ys.flatten)) (hl : m = ys.length) (hy : ∀ y ∈ ys, y.length = sz) (hone : allOne ys.flatten = true) (hroom : n + m ≤ c) (hb : c * by_ ≤ 2 ^ 47) (hb1 : c ≤ 2 ^ 47) :
    ∃ cs', aAppend P H ts [.slice (some ⟨b, 0, some 0⟩) n c, x] = some (.val (.slice (some ⟨b, 0, some 0⟩) (n + m) c) (H.set b (.cells cs' (rowV e sz) true)) (.eff H (H.set b (.cells cs' (rowV e sz) true)))) ∧ Stk H0 (H.set b (.cells cs' (rowV e sz) true)) (rowV e sz) sz (some ⟨b, 0, some 0⟩) (n + m) c (xs ++ ys) ∧ Wf (H.set b (.cells cs' (rowV e sz) true)) := by
  obtain ⟨h1, h2, h3, ⟨h4, _⟩ | ⟨b', cs, h4, hg, hcl, hp, hb0⟩⟩ := hv
  · cases h4
  cases h4
  have hfx := flat_len h3
  have hfy := flat_len hy
  obtain ⟨rest, hrest⟩ := hp
  have hle : (n + m) * sz ≤ c * sz := Nat.mul_le_mul_right sz hroom
  rw [Nat.add_mul] at hle
  have hput := putAt_list cs (0 + n * sz) ys.flatten (by rw [hfy, ← hl, hcl]; omega)
  obtain ⟨cs', hcs'⟩ : ∃ cs', cs' = cs.take (0 + n * sz) ++ ys.flatten ++ cs.drop (0 + n * sz + ys.flatten.length) := ⟨_, rfl⟩
  rw [← hcs'] at hput
  have hnx : n * sz = xs.flatten.length := by rw [hfx, ← h1]
  have hpre : (xs ++ ys).flatten <+: cs' := by
    rw [hcs', List.flatten_append, Nat.zero_add, hnx, ← hrest, List.take_left]
    exact ⟨_, rfl⟩
  have hlen' : cs'.length = c * sz := by
    rw [hcs']
    simp only [List.length_append, List.length_take, List.length_drop]
    rw [hfy, ← hl, hcl]; omega
  refine ⟨cs', ?_, ⟨by simp [h1, hl], hroom, ?_, .inr ⟨b, cs', rfl, by rw [AHeap.get_set, if_pos rfl], hlen', hpre, hb0⟩⟩, hw.set hg _⟩
  · rw [appendS_eq ty hx]
    unfold aAppendTo
    have hm1 : n + m ≤ 2 ^ 47 := by omega
    have hmb : (n + m) * by_ ≤ 2 ^ 47 := Nat.le_trans (Nat.mul_le_mul_right _ hroom) hb
    have c1 : (Nat.ble ((n + m) * by_) (2 ^ 47) && Nat.ble (n + m) (2 ^ 47) && Nat.beq ys.flatten.length (m * sz) && Nat.ble n c && allOne ys.flatten) = true := by
      rw [hfy, ← hl]
      simp only [Bool.and_eq_true, nble hmb, nble hm1, nble h2, nbeq, hone, and_true]
    simp only [c1, cond_true, nble hroom, hg, Bool.true_or, hput]
  · intro y hy'
    rcases List.mem_append.1 hy' with h | h
    · exact h3 y h
    · exact hy y h
theorem repZ_len (z : List Value) : ∀ n, (repZ z n).length = n * z.length
  | 0 => by simp [repZ]
  | n + 1 => by simp only [repZ, List.length_append, repZ_len z n, Nat.succ_mul]; omega
theorem repZ_one {z : List Value} (h : allOne z = true) : ∀ n, allOne (repZ z n) = true
  | 0 => rfl
  | n + 1 => by
    have := repZ_one h n
    unfold allOne at this h ⊢
    simp only [repZ, List.all_append, h, this, Bool.and_self]
end Go.AX.Lw
namespace Go.AX.Try
open Go Go.AX Go.AX.Lw Go.Proofs
set_option linter.unusedVariables false
set_option linter.unusedSimpArgs false
set_option maxRecDepth 100000
abbrev cell1 (x : Nat) : List Value := [.int .u64 (x : Int)]
theorem cell1_flat (l : List Nat) : (l.map cell1).flatten = nums l := by
  induction l with
  | nil => rfl
  | cons x r ih => simp only [List.map_cons, List.flatten_cons, ih]; rfl
theorem row1 {H : AHeap} {a : Option Addr} {n c : Nat} {l : List Nat} (h : RowS H a n c 1 (l.map cell1)) : Row H a n c (nums l) :=
  ⟨by have := h.len; simpa using this, h.cap, fun i x hx => by
    obtain ⟨y, hy, rfl⟩ : ∃ y, l[i]? = some y ∧ x = .int .u64 (y : Int) := by
      simp only [nums, List.getElem?_map, Option.map_eq_some_iff] at hx
      obtain ⟨y, h1, h2⟩ := hx
      exact ⟨y, h1, h2.symm⟩
    obtain ⟨b, o, st, ha, hc⟩ := h.cell i (cell1 y) (by simp [hy])
    exact ⟨b, o, st, ha, by have := cellsAt_cell hc (j := 0) rfl; rwa [Nat.mul_one] at this⟩⟩
theorem zU64 : zeroOf Try.prog 27 = some (.int .u64 0) := by kernel_rfl
theorem u64TyS : AppTyS Try.prog #[22, 22] 27 1 8 where
  t0 := by kernel_rfl
  t1 := by kernel_rfl
  size := by kernel_rfl
  bytes := by kernel_rfl
  pos := by decide
  szp := by decide
  szl := by decide
  zero := ⟨.int .u64 0, by kernel_rfl, rfl⟩
theorem appGrow {H : AHeap} {n : Nat} (hn : 1 ≤ n ∧ n ≤ 2 ^ 30) :
    aAppend Try.prog H #[22, 3] [.slice none 0 0, .int .i64 n] = some (.val (.slice (some ⟨H.next, 0, some 0⟩) n n) (H.push (.cells (repZ [.int .u64 0] n) (rowV 27 1) true)) (.eff H (H.push (.cells (repZ [.int .u64 0] n) (rowV 27 1) true)))) := by
  have t0 : Try.prog.underlying 22 = some (.slice 27) := by kernel_rfl
  have t1 : Try.prog.underlying 3 = some (.int .i64) := by kernel_rfl
  have ts : sizeT Try.prog 27 = some 1 := by kernel_rfl
  have tb : bytesT Try.prog 27 = some 8 := by kernel_rfl
  have g0 : #[22, 3][0]? = some 22 := rfl
  have g1 : #[22, 3][1]? = some 3 := rfl
  unfold aAppend
  simp only [g0, g1, t0, t1, ts, tb, zU64, isIntD]
  rw [if_pos (by omega)]
  have c0 : (Nat.beq 1 0 || Nat.beq 8 0 || !(Nat.beq (Value.int .u64 0).cells.size 1) || Nat.ble 1073741824 1) = false := by decide
  simp only [c0, cond_false, Int.toNat_natCast]
  unfold aAppendTo
  have c1 : (Nat.ble ((0 + n) * 8) (2 ^ 47) && Nat.ble (0 + n) (2 ^ 47) && Nat.beq (repZ [.int .u64 0] n).length (n * 1) && Nat.ble 0 0 && allOne (repZ [.int .u64 0] n)) = true := by
    rw [repZ_len]
    simp only [Bool.and_eq_true, Nat.zero_add, nble (show n * 8 ≤ 2 ^ 47 by omega), nble (show n ≤ 2 ^ 47 by omega), nble (Nat.le_refl 0), repZ_one (show allOne [.int .u64 0] = true from rfl), and_true, List.length_cons, List.length_nil, nbeq]
  have c2 : (Value.int .u64 0).cells.toList = [.int .u64 0] := rfl
  simp only [c2, c1, cond_true]
  rw [show Nat.beq (0 + n) 0 = false from nbeq_no (by omega)]
  simp only [Nat.zero_add]
  rfl
theorem grow_u (H : AHeap) (hw : Wf H) (n : Nat) (hn : 1 ≤ n ∧ n ≤ 2 ^ 30) :
    Does Try.prog orc 29 [.slice none 0 0, .int .i64 n] H fun r H' => r = .ret (.slice (some ⟨H.next, 0, some 0⟩) 0 n) ∧ H' = H.push (.cells (repZ [.int .u64 0] n) (rowV 27 1) true) := by
  refine Does.of Try.func29 (fun _ _ => rfl) rfl ?_
  have s1 : aSlice Try.prog 22 (.slice none 0 0) none (some (.int .i64 0)) none = some (.slice none 0 0) := by kernel_rfl
  have s2 : aSlice Try.prog 22 (.slice (some ⟨H.next, 0, some 0⟩) n n) none (some (.int .i64 0)) none = some (.slice (some ⟨H.next, 0, some 0⟩) 0 n) := slice_toN (e := 27) (n := 1) (m := 0) (by kernel_rfl) (by kernel_rfl) (Nat.zero_le _)
  have hg := appGrow (H := H) hn
  have hz : ((n : Int) - (0 - 0)) = n := by omega
  repeat' ((conv => whnf); first
    | (refine Both.intro ?_ ?_ <;> intro _ <;> try (exfalso; omega))
    | (refine Need.intro (by omega) ?_)
    | (refine Gives.intro ⟨_, s1, ?_⟩)
    | (refine Outs.intro ⟨_, _, _, hz ▸ hg, ?_⟩)
    | (refine Gives.intro ⟨_, s2, ?_⟩)
    | fail)
  all_goals (conv => whnf)
  exact ⟨rfl, rfl⟩
theorem concat_any (H : AHeap) (hw : Wf H) (a : Option Addr) (k c : Nat) (vs : List Value) (ls : List (List Nat)) (hr : Row H a k c vs) (hl : vs.length = ls.length) (hk : k ≤ 3) (hf : ∀ (j : Nat) v l, vs[j]? = some v → ls[j]? = some l → ∃ a n c, v = .slice a n c ∧ Row H a n c (nums l)) (hpos : 1 ≤ ls.flatten.length) (hmax : ls.flatten.length ≤ 2 ^ 20) :
    Does Try.prog orc 24 [.slice a k c] H fun r H' => ∃ v, r = .ret v ∧ (∃ a n c, v = .slice a n c ∧ Row H' a n c (nums ls.flatten)) ∧ Ext H H' ∧ Wf H' := by
  have hlen := hr.len
  have hcap := hr.cap
  refine Does.of Try.func24 (fun _ _ => rfl) rfl ?_
  have hel : ∀ j, j < k → ∃ b o st aj nj cj l, a = some ⟨b, o, st⟩ ∧ cellAt H b (o + j) = some (.slice aj nj cj) ∧ ls[j]? = some l ∧ Row H aj nj cj (nums l) ∧ nj = l.length ∧ (ls.take (j + 1)).flatten.length = (ls.take j).flatten.length + nj := fun j hj => by
    have hx := List.getElem?_eq_getElem (l := vs) (i := j) (by omega)
    have hy := List.getElem?_eq_getElem (l := ls) (i := j) (by omega)
    obtain ⟨b, o, st, ha, hc⟩ := hr.cell j _ hx
    obtain ⟨aj, nj, cj, hv, hrow⟩ := hf j _ _ hx hy
    have hn := hrow.len; simp at hn
    exact ⟨b, o, st, aj, nj, cj, _, ha, by rw [hc, hv], hy, hrow, hn, by rw [List.take_add_one, hy, List.flatten_append, List.length_append, hn]; congr 1; exact congrArg List.length (List.append_nil _)⟩
  have hle : ∀ j, (ls.take j).flatten.length ≤ ls.flatten.length := fun j => by
    conv => rhs; rw [← List.take_append_drop j ls, List.flatten_append, List.length_append]
    omega
  repeat' ((conv => whnf); first
    | (refine Both.intro ?_ ?_ <;> intro _ <;> try (exfalso; omega))
    | (refine Need.intro (by omega) ?_)
    | fail)
  all_goals (conv => whnf)
  refine Runs.loop (fun j : Nat => [(11, .int .i64 j), (10, .int .i64 k), (9, .slice a k c), (3, .int .i64 (ls.take j).flatten.length), (0, .slice a k c)]) (fun j H' => H = H' ∧ j ≤ k) (fun j => k - j) 0 ⟨rfl, rfl, rfl, rfl, rfl, trivial⟩ ⟨rfl, Nat.zero_le _⟩ ?_
  rintro j _ ⟨rfl, hj⟩
  by_cases hlt : j < k
  · obtain ⟨b, o, st, aj, nj, cj, l, rfl, hc, hy, hrow, hnj, hsum⟩ := hel j hlt
    have h1 := hle j
    have h2 := hle (j + 1)
    repeat' ((conv => whnf); first
      | (refine Both.intro ?_ ?_ <;> intro _ <;> try (exfalso; omega))
      | (refine Need.intro (by omega) ?_)
      | (refine ⟨_, hc, ?_⟩)
      | fail)
    all_goals (conv => whnf)
    exact ⟨j + 1, ⟨rfl, rfl, rfl, by rw [hsum]; rfl, rfl, trivial⟩, ⟨rfl, by omega⟩, by omega⟩
  · have hjk : j = k := by omega
    have hall : (ls.take j).flatten.length = ls.flatten.length := by rw [List.take_of_length_le (by omega)]
    rw [hall]
    repeat' ((conv => whnf); first
      | (refine Both.intro ?_ ?_ <;> intro _ <;> try (exfalso; omega))
      | (refine Need.intro (by omega) ?_)
      | (refine Does.mono (grow_u H hw ls.flatten.length (by omega)) ?_ ; rintro _ G ⟨rfl, hG⟩)
      | fail)
    all_goals (conv => whnf)
    have eG : Ext H G := by rw [hG]; exact Ext.push _ _
    have wG : Wf G := by rw [hG]; exact hw.push _
    have st0 : Stk H G (rowV 27 1) 1 (some ⟨H.next, 0, some 0⟩) 0 ls.flatten.length [] :=
      ⟨rfl, Nat.zero_le _, by simp, .inr ⟨H.next, _, rfl, by rw [hG, get_new], by rw [repZ_len]; rfl, List.nil_prefix, Nat.le_refl _⟩⟩
    refine Runs.loop (fun i : Nat => [(27, .int .i64 i), (26, .int .i64 k), (25, .slice a k c), (6, .slice (some ⟨H.next, 0, some 0⟩) (ls.take i).flatten.length ls.flatten.length)])
      (fun i H' => i ≤ k ∧ Ext H H' ∧ Wf H' ∧ Stk H H' (rowV 27 1) 1 (some ⟨H.next, 0, some 0⟩) (ls.take i).flatten.length ls.flatten.length ((ls.take i).flatten.map cell1)) (fun i => k - i) 0 ⟨rfl, rfl, rfl, rfl, trivial⟩ ⟨Nat.zero_le _, eG, wG, st0⟩ ?_
    rintro i H1 ⟨hi, e1, w1, st1⟩
    by_cases hlt : i < k
    · obtain ⟨b, o, st, aj, nj, cj, l, rfl, hc, hy, hrow, hnj, hsum⟩ := hel i hlt
      have hc1 := cellAt_ext hw e1 hc
      have hrow1 := hrow.ext hw e1
      have hncap := hrow.cap
      have h2 := hle (i + 1)
      have hsrc : srcCells H1 1 (.slice aj nj cj) = some (nj, (l.map cell1).flatten) := by rw [cell1_flat]; exact hrow1.src
      obtain ⟨cs', happ, st2, w2⟩ := stk_room w1 u64TyS st1 hsrc (by simp [hnj]) (by intro y hy'; obtain ⟨t, _, rfl⟩ := List.mem_map.1 hy'; rfl) (by
        unfold allOne; rw [List.all_eq_true]; intro x hx
        obtain ⟨y, hy', hx'⟩ := List.mem_flatten.1 hx
        obtain ⟨t, _, rfl⟩ := List.mem_map.1 hy'
        simp [cell1] at hx'; rw [hx']; rfl) (by omega) (by omega) (by omega)
      repeat' ((conv => whnf); first
        | (refine Both.intro ?_ ?_ <;> intro _ <;> try (exfalso; omega))
        | (refine Need.intro (by omega) ?_)
        | (refine ⟨_, hc1, ?_⟩)
        | (refine Outs.intro ⟨_, _, _, happ, ?_⟩)
        | fail)
      all_goals (conv => whnf)
      refine ⟨i + 1, ⟨rfl, rfl, rfl, by rw [hsum]; rfl, trivial⟩, ⟨by omega, e1.set (Nat.le_refl _) _, w2, ?_⟩, by omega⟩
      have hcat : (ls.take (i + 1)).flatten.map cell1 = (ls.take i).flatten.map cell1 ++ l.map cell1 := by rw [List.take_add_one, hy]; simp
      rw [hsum, hcat]
      exact st2
    · skip
      repeat' ((conv => whnf); first
        | (refine Both.intro ?_ ?_ <;> intro _ <;> try (exfalso; omega))
        | (refine Need.intro (by omega) ?_)
        | fail)
      all_goals (conv => whnf)
      have hall : ls.take i = ls := List.take_of_length_le (by omega)
      rw [hall] at st1
      exact ⟨_, by rw [hall]; rfl, ⟨_, _, _, rfl, row1 st1.row⟩, e1, w1⟩
theorem concat0_any (H : AHeap) (hw : Wf H) (a : Option Addr) (k c : Nat) (vs : List Value) (hr : Row H a k c vs) (hk : k ≤ 3) (hf : ∀ v ∈ vs, ∃ a c, v = .slice a 0 c) :
    Does Try.prog orc 24 [.slice a k c] H fun r H' => r = .ret (.slice none 0 0) ∧ Ext H H' ∧ Wf H' := by
  have hlen := hr.len
  have hcap := hr.cap
  refine Does.of Try.func24 (fun _ _ => rfl) rfl ?_
  have hel : ∀ j, j < k → ∃ b o st aj cj, a = some ⟨b, o, st⟩ ∧ cellAt H b (o + j) = some (.slice aj 0 cj) := fun j hj => by
    have hx := List.getElem?_eq_getElem (l := vs) (i := j) (by omega)
    obtain ⟨b, o, st, ha, hc⟩ := hr.cell j _ hx
    obtain ⟨aj, cj, hv⟩ := hf _ (List.getElem_mem (show j < vs.length by omega))
    exact ⟨b, o, st, aj, cj, ha, by rw [hc, hv]⟩
  have gr : Does Try.prog orc 29 [.slice none 0 0, .int .i64 0] H fun r H' => r = .ret (.slice none 0 0) ∧ H = H' := by
    refine Does.of Try.func29 (fun _ _ => rfl) rfl ?_
    repeat' ((conv => whnf); first
      | (refine Both.intro ?_ ?_ <;> intro _ <;> try (exfalso; omega))
      | (refine Need.intro (by omega) ?_)
      | fail)
    all_goals (conv => whnf)
    exact ⟨rfl, rfl⟩
  repeat' ((conv => whnf); first
    | (refine Both.intro ?_ ?_ <;> intro _ <;> try (exfalso; omega))
    | (refine Need.intro (by omega) ?_)
    | fail)
  all_goals (conv => whnf)
  refine Runs.loop (fun j : Nat => [(11, .int .i64 j), (10, .int .i64 k), (9, .slice a k c), (3, .int .i64 0), (0, .slice a k c)]) (fun j H' => H = H' ∧ j ≤ k) (fun j => k - j) 0 ⟨rfl, rfl, rfl, rfl, rfl, trivial⟩ ⟨rfl, Nat.zero_le _⟩ ?_
  rintro j _ ⟨rfl, hj⟩
  by_cases hlt : j < k
  · obtain ⟨b, o, st, aj, cj, rfl, hc⟩ := hel j hlt
    repeat' ((conv => whnf); first
      | (refine Both.intro ?_ ?_ <;> intro _ <;> try (exfalso; omega))
      | (refine Need.intro (by omega) ?_)
      | (refine ⟨_, hc, ?_⟩)
      | fail)
    all_goals (conv => whnf)
    exact ⟨j + 1, ⟨rfl, rfl, rfl, rfl, rfl, trivial⟩, ⟨rfl, by omega⟩, by omega⟩
  · skip
    repeat' ((conv => whnf); first
      | (refine Both.intro ?_ ?_ <;> intro _ <;> try (exfalso; omega))
      | (refine Need.intro (by omega) ?_)
      | (refine Does.mono gr ?_ ; rintro _ _ ⟨rfl, rfl⟩)
      | fail)
    all_goals (conv => whnf)
    refine Runs.loop (fun i : Nat => [(27, .int .i64 i), (26, .int .i64 k), (25, .slice a k c), (6, .slice none 0 0)])
      (fun i H' => H = H' ∧ i ≤ k) (fun i => k - i) 0 ⟨rfl, rfl, rfl, rfl, trivial⟩ ⟨rfl, Nat.zero_le _⟩ ?_
    rintro i _ ⟨rfl, hi⟩
    by_cases hlt : i < k
    · obtain ⟨b, o, st, aj, cj, rfl, hc⟩ := hel i hlt
      have hsrc : srcCells H 1 (.slice aj 0 cj) = some (0, []) := by cases aj <;> rfl
      have happ : aAppend Try.prog H #[22, 22] [.slice none 0 0, .slice aj 0 cj] = some (.val (.slice none 0 0) H (.eff H H)) := by
        rw [append_eq u64Ty hsrc]; rfl
      repeat' ((conv => whnf); first
        | (refine Both.intro ?_ ?_ <;> intro _ <;> try (exfalso; omega))
        | (refine Need.intro (by omega) ?_)
        | (refine ⟨_, hc, ?_⟩)
        | (refine Outs.intro ⟨_, _, _, happ, ?_⟩)
        | fail)
      all_goals (conv => whnf)
      exact ⟨i + 1, ⟨rfl, rfl, rfl, rfl, trivial⟩, ⟨rfl, by omega⟩, by omega⟩
    · skip
      repeat' ((conv => whnf); first
        | (refine Both.intro ?_ ?_ <;> intro _ <;> try (exfalso; omega))
        | (refine Need.intro (by omega) ?_)
        | fail)
      all_goals (conv => whnf)
      exact ⟨rfl, Ext.refl _, hw⟩
/-- A list of sets in memory. -/
def SetV (H : AHeap) (v : Value) (l : List Nat) : Prop := ∃ a n c, v = .slice a n c ∧ Row H a n c (nums l)
theorem SetV.ext {H H' : AHeap} {v : Value} {l : List Nat} (h : SetV H v l) (hw : Wf H) (e : Ext H H') : SetV H' v l := by
  obtain ⟨a, n, c, h1, h2⟩ := h
  exact ⟨a, n, c, h1, h2.ext hw e⟩
theorem SetV.nil (H : AHeap) : SetV H (.slice none 0 0) [] := ⟨none, 0, 0, rfl, rfl, Nat.le_refl _, by simp⟩
theorem leastV (H : AHeap) (hw : Wf H) (v : Value) (l : List Nat) (hv : SetV H v l) (hn : l.length ≤ 4096) (hx : ∀ x ∈ l, x < 18446744073709551616) :
    Does Try.prog orc 10 [v] H fun r H' => ∃ a n c, r = .ret (.slice a n c) ∧ Row H' a n c (nums (leastF l)) ∧ Ext H H' ∧ Wf H' := by
  obtain ⟨a, n, c, rfl, hr⟩ := hv
  have h1 := hr.len; simp at h1
  refine (least_any H hw a n c l hr (by omega) hx).mono fun r H' ⟨v, h1, h2, h3, h4⟩ => ?_
  obtain ⟨a', h5, h6⟩ := h2.row
  exact ⟨a', _, _, by rw [h1, h5], h6, h3, h4⟩
theorem concatV (H : AHeap) (hw : Wf H) (v u : Value) (l m : List Nat) (hv : SetV H v l) (hu : SetV H u m) (hn : l.length + m.length ≤ 2 ^ 19) :
    Does Try.prog orc 24 [.slice (some ⟨H.next, 0, none⟩) 2 2] (H.push (.cells [v, u] 0 true)) fun r H' => ∃ v, r = .ret v ∧ SetV H' v (l ++ m) ∧ Ext H H' ∧ Wf H' := by
  have hrow : Row (H.push (.cells [v, u] 0 true)) (some ⟨H.next, 0, none⟩) 2 2 [v, u] := Row.of_block (get_new _ _) rfl (Nat.le_refl _) (List.prefix_refl _)
  by_cases h0 : l.length + m.length = 0
  · have hl : l = [] := List.eq_nil_of_length_eq_zero (by omega)
    have hm : m = [] := List.eq_nil_of_length_eq_zero (by omega)
    subst hl; subst hm
    obtain ⟨a, n, c, rfl, hr⟩ := hv
    obtain ⟨a', n', c', rfl, hr'⟩ := hu
    have h1 := hr.len; simp at h1
    have h2 := hr'.len; simp at h2
    subst h1; subst h2
    refine (concat0_any _ (hw.push _) _ 2 2 _ hrow (by decide) (fun v hv => ?_)).mono fun r H' ⟨h1, h2, h3⟩ => ⟨_, h1, SetV.nil _, (Ext.push _ _).trans h2, h3⟩
    simp at hv
    rcases hv with rfl | rfl
    · exact ⟨_, _, rfl⟩
    · exact ⟨_, _, rfl⟩
  · refine (concat_any _ (hw.push _) _ 2 2 _ [l, m] hrow rfl (by decide) (fun j x y hx hy => ?_) (by simp; omega) (by simp; omega)).mono fun r H' ⟨v, h1, h2, h3, h4⟩ => ⟨v, h1, by simpa [SetV] using h2, (Ext.push _ _).trans h3, h4⟩
    match j with
    | 0 => cases hx; cases hy; exact hv.ext hw (Ext.push _ _)
    | 1 => cases hx; cases hy; exact hu.ext hw (Ext.push _ _)
    | j + 2 => simp at hx
def orF (l m : List Nat) : List Nat := leastF (l ++ m)
theorem Or_any (H : AHeap) (hw : Wf H) (v u : Value) (l m : List Nat) (hv : SetV H v l) (hu : SetV H u m) (hn : l.length + m.length ≤ 1024) (hx : ∀ x ∈ l, x < 18446744073709551616) (hy : ∀ x ∈ m, x < 18446744073709551616) :
    Does Try.prog orc 12 [v, u] H fun r H' => ∃ a n c, r = .ret (.tuple #[.slice a n c, .int .i64 0]) ∧ Row H' a n c (nums (orF l m)) ∧ Ext H H' ∧ Wf H' := by
  obtain ⟨a, n, c, rfl, hr⟩ := hv
  obtain ⟨a', n', c', rfl, hr'⟩ := hu
  have h1 := hr.len; simp at h1
  have h2 := hr'.len; simp at h2
  have hc1 := hr.cap
  have hc2 := hr'.cap
  refine Does.of Try.func12 (fun _ _ => rfl) rfl ?_
  have hbs : aBuildSlice Try.prog 42 2 [(0, .slice a n c), (1, .slice a' n' c')] = mkSlice [.slice a n c, .slice a' n' c'] 2 2 := by kernel_rfl
  repeat' ((conv => whnf); first
    | (refine Both.intro ?_ ?_ <;> intro _ <;> try (exfalso; omega))
    | (refine Need.intro (by omega) ?_)
    | (refine ⟨_, hbs, ?_⟩)
    | (refine Does.mono (concatV H hw _ _ l m ⟨a, n, c, rfl, hr⟩ ⟨a', n', c', rfl, hr'⟩ (by omega)) ?_ ; rintro _ H1 ⟨w, rfl, sw, e1, w1⟩)
    | (refine Does.mono (leastV H1 w1 w (l ++ m) sw (by simp; omega) (by intro x hx'; rcases List.mem_append.1 hx' with h | h; exact hx x h; exact hy x h)) ?_ ; rintro _ H2 ⟨a2, n2, c2, rfl, r2, e2, w2⟩)
    | fail)
  all_goals (conv => whnf)
  exact ⟨a2, n2, c2, rfl, r2, e1.trans e2, w2⟩
theorem orU (x y : Nat) (hx : x < 18446744073709551616) (hy : y < 18446744073709551616) : aInt .or .u64 (x : Int) (y : Int) = some (.int .u64 ((x ||| y : Nat) : Int)) := by
  unfold aInt
  simp only
  rw [BitVec.toNat_or, u64bv x hx, u64bv y hy, u64wrap, Nat.mod_eq_of_lt (Nat.or_lt_two_pow (n := 64) (by omega) (by omega))]
/-- The unions of a set of the one and a set of the other. -/
def prodF (l m : List Nat) : List Nat := l.flatMap fun x => m.map fun y => x ||| y
def andF (l m : List Nat) : List Nat := leastF (prodF l m)
theorem prodF_len (l m : List Nat) : (prodF l m).length = l.length * m.length := by
  unfold prodF
  induction l with
  | nil => simp
  | cons x r ih => simp only [List.flatMap_cons, List.length_append, List.length_map, ih, List.length_cons]; rw [Nat.succ_mul]; omega
theorem And_any (H : AHeap) (hw : Wf H) (v u : Value) (l m : List Nat) (hv : SetV H v l) (hu : SetV H u m) (hn : l.length * m.length ≤ 1024) (hl : l.length ≤ 4096) (hm : m.length ≤ 4096) (hx : ∀ x ∈ l, x < 18446744073709551616) (hy : ∀ x ∈ m, x < 18446744073709551616) :
    Does Try.prog orc 13 [v, u] H fun r H' => ∃ a n c, r = .ret (.tuple #[.slice a n c, .int .i64 0]) ∧ Row H' a n c (nums (andF l m)) ∧ Ext H H' ∧ Wf H' := by
  obtain ⟨a, n, c, rfl, hr⟩ := hv
  obtain ⟨a', n', c', rfl, hr'⟩ := hu
  have h1 := hr.len; simp at h1
  have h2 := hr'.len; simp at h2
  have hc1 := hr.cap
  have hc2 := hr'.cap
  rw [← h1, ← h2] at hn
  refine Does.of Try.func13 (fun _ _ => rfl) rfl ?_
  have hq : n' = 0 ∨ n ≤ 1024 / n' := by
    by_cases h : n' = 0
    · exact .inl h
    · exact .inr ((Nat.le_div_iff_mul_le (by omega)).2 hn)
  have hprod : ∀ x ∈ prodF l m, x < 18446744073709551616 := fun z hz => by
    obtain ⟨x, h3, h4⟩ := List.mem_flatMap.1 hz
    obtain ⟨y, h5, rfl⟩ := List.mem_map.1 h4
    exact Nat.or_lt_two_pow (n := 64) (hx x h3) (hy y h5)
  have hplen : ∀ k, (prodF (l.take k) m).length ≤ 1024 := fun k => by
    rw [prodF_len, ← h2]
    exact Nat.le_trans (Nat.mul_le_mul_right _ (by rw [List.length_take]; omega : (l.take k).length ≤ n)) hn
  repeat' ((conv => whnf); first
    | (refine Both.intro ?_ ?_ <;> intro _ <;> try (exfalso; omega))
    | (refine Need.intro (by omega) ?_)
    | (refine Gives.intro ⟨_, quoN (x := 1024) (y := n') rfl (by decide) (by omega), ?_⟩)
    | (refine Need.intro (DrawP.intro (by kernel_rfl)) ?_)
    | fail)
  all_goals (conv => whnf)
  all_goals
    refine Runs.loop (fun s : Nat × Value => [(24, .int .i64 (s.1 : Nat)), (23, .int .i64 n), (22, .slice a n c), (6, s.2), (1, .slice a' n' c')])
      (fun s H' => s.1 ≤ n ∧ Ext H H' ∧ Wf H' ∧ Grown H H' (rowV 27 1) s.2 (nums (prodF (l.take s.1) m))) (fun s => n - s.1) (0, .slice none 0 0) ⟨rfl, rfl, rfl, rfl, rfl, trivial⟩ ⟨Nat.zero_le _, Ext.refl _, hw, .inl ⟨rfl, rfl⟩⟩ ?_
    rintro ⟨k, v⟩ H1 ⟨hk, e1, w1, gr⟩
    dsimp only at hk gr
    show vc _ _ _ _ _ [(24, .int .i64 (k : Nat)), (23, .int .i64 n), (22, .slice a n c), (6, v), (1, .slice a' n' c')] _ _
    by_cases hlt : k < n
    · obtain ⟨x, hxk⟩ := get_of (l := l) (k := k) (by omega)
      obtain ⟨b, o, st, hab, hcell⟩ := (hr.ext hw e1).cell k _ (nums_get hxk)
      subst hab
      have hxx := hx x (List.mem_of_getElem? hxk)
      repeat' ((conv => whnf); first
        | (refine Both.intro ?_ ?_ <;> intro _ <;> try (exfalso; omega))
        | (refine Need.intro (by omega) ?_)
        | (refine ⟨_, hcell, ?_⟩)
        | fail)
      all_goals (conv => whnf)
      refine Runs.loop (fun s : Nat × Value => [(30, .int .i64 (s.1 : Nat)), (29, .int .i64 n'), (28, .slice a' n' c'), (8, .int .u64 x), (24, .int .i64 (k : Nat)), (23, .int .i64 n), (22, .slice (some ⟨b, o, st⟩) n c), (6, s.2), (1, .slice a' n' c')])
        (fun s H' => s.1 ≤ n' ∧ Ext H H' ∧ Wf H' ∧ Grown H H' (rowV 27 1) s.2 (nums (prodF (l.take k) m ++ (m.take s.1).map fun y => x ||| y))) (fun s => n' - s.1) (0, v) ⟨rfl, rfl, rfl, rfl, rfl, rfl, rfl, rfl, rfl, trivial⟩ ⟨Nat.zero_le _, e1, w1, by simpa using gr⟩ ?_
      rintro ⟨j, v2⟩ H2 ⟨hj, e2, w2, gr2⟩
      dsimp only at hj gr2
      show vc _ _ _ _ _ [(30, .int .i64 (j : Nat)), (29, .int .i64 n'), (28, .slice a' n' c'), (8, .int .u64 x), (24, .int .i64 (k : Nat)), (23, .int .i64 n), (22, .slice (some ⟨b, o, st⟩) n c), (6, v2), (1, .slice a' n' c')] _ _
      have hcat : prodF (l.take (k + 1)) m = prodF (l.take k) m ++ m.map fun y => x ||| y := by
        unfold prodF
        rw [List.take_add_one, hxk]
        simp
      by_cases hlt2 : j < n'
      · obtain ⟨y, hyj⟩ := get_of (l := m) (k := j) (by omega)
        obtain ⟨b', o', st', hab', hcell'⟩ := (hr'.ext hw e2).cell j _ (nums_get hyj)
        subst hab'
        have hyy := hy y (List.mem_of_getElem? hyj)
        have hbs : aBuildSlice Try.prog 22 1 [(0, .int .u64 ((x ||| y : Nat) : Int))] = mkSlice [.int .u64 ((x ||| y : Nat) : Int)] 1 1 := by kernel_rfl
        have hlen3 : (nums (prodF (l.take k) m ++ (m.take j).map fun y => x ||| y)).length ≤ 8192 := by
          have q1 := hplen k
          have q2 : (m.take j).length ≤ 4096 := Nat.le_trans (by rw [List.length_take]; exact Nat.min_le_right _ _) hm
          simp only [nums, List.length_map, List.length_append]
          omega
        obtain ⟨v', H9, ev, happ, gr9, e9, w9⟩ := grown_ok (x := .slice (some ⟨H2.next, 0, none⟩) 1 1) (new := [.int .u64 ((x ||| y : Nat) : Int)]) (m := 1) (e2.trans (Ext.push H2 (.cells [.int .u64 ((x ||| y : Nat) : Int)] 0 true))) (w2.push _) u64Ty (gr2.ext w2 (Ext.push _ _)) (src_slice (get_new _ _) rfl (Nat.le_refl _) (by decide)) rfl rfl (by decide) (by omega) (by omega)
        have hcc : nums (prodF (l.take k) m ++ (m.take (j + 1)).map fun y => x ||| y) = nums (prodF (l.take k) m ++ (m.take j).map fun y => x ||| y) ++ [.int .u64 ((x ||| y : Nat) : Int)] := by rw [List.take_add_one, hyj]; simp [nums]
        rw [← hcc] at gr9
        repeat' ((conv => whnf); first
          | (refine Both.intro ?_ ?_ <;> intro _ <;> try (exfalso; omega))
          | (refine Need.intro (by omega) ?_)
          | (refine ⟨_, hcell', ?_⟩)
          | (refine Gives.intro ⟨_, orU x y hxx hyy, ?_⟩)
          | (refine ⟨_, hbs, ?_⟩)
          | (refine Outs.intro ⟨_, _, _, happ, ?_⟩)
          | fail)
        all_goals (conv => whnf)
        all_goals exact ⟨(j + 1, v'), ⟨rfl, rfl, rfl, rfl, rfl, rfl, rfl, rfl, rfl, trivial⟩, ⟨by dsimp only; omega, e9, w9, gr9⟩, by dsimp only; omega⟩
      · obtain rfl : j = n' := by omega
        rw [h2, List.take_length, ← hcat] at gr2
        repeat' ((conv => whnf); first
          | (refine Both.intro ?_ ?_ <;> intro _ <;> try (exfalso; omega))
          | (refine Need.intro (by omega) ?_)
          | fail)
        all_goals (conv => whnf)
        exact ⟨(k + 1, v2), ⟨rfl, rfl, rfl, rfl, rfl, trivial⟩, ⟨by dsimp only; omega, e2, w2, gr2⟩, by dsimp only; omega⟩
    · obtain rfl : k = n := by omega
      rw [h1, List.take_length] at gr
      obtain ⟨av, hv, rv⟩ := gr.row
      have hpl := prodF_len l m
      repeat' ((conv => whnf); first
        | (refine Both.intro ?_ ?_ <;> intro _ <;> try (exfalso; omega))
        | (refine Need.intro (by omega) ?_)
        | (refine Does.mono (leastV H1 w1 v (prodF l m) ⟨av, _, _, hv, rv⟩ (by rw [hpl, ← h1, ← h2]; omega) hprod) ?_ ; rintro _ H2 ⟨a2, n2, c2, rfl, r2, e2, w2⟩)
        | fail)
      all_goals (conv => whnf)
      exact ⟨a2, n2, c2, rfl, r2, e1.trans e2, w2⟩
theorem Holds_any (H : AHeap) (hw : Wf H) (v : Value) (l : List Nat) (hv : SetV H v l) (hn : l.length ≤ 4096) (hx : ∀ x ∈ l, x < 18446744073709551616) (s : Nat) (hs : s < 18446744073709551616) :
    Does Try.prog orc 15 [v, .int .u64 s] H fun r H' => r = .ret (.bool (l.any fun x => decide (Sub x s))) ∧ Ext H H' ∧ Wf H' := by
  obtain ⟨a, n, c, rfl, hr⟩ := hv
  have h1 := hr.len; simp at h1
  refine Does.of Try.func15 (fun _ _ => rfl) rfl ?_
  have hC := containsf_any (H.push (.cells [.int .u64 (s : Int)] 0 true)) a n c l (hr.ext hw (Ext.push _ _)) (by omega) 25 (.pointer (some ⟨H.next, 0, none⟩)) (fun x => decide (Sub x s)) (fun x hx' => holds1_any _ x s H.next (cellAt_of (get_new _ _) (o := 0) rfl) (hx x hx') hs)
  repeat' ((conv => whnf); first
    | (refine Both.intro ?_ ?_ <;> intro _ <;> try (exfalso; omega))
    | (refine Need.intro (by omega) ?_)
    | (refine Does.mono hC ?_ ; rintro _ _ ⟨rfl, rfl⟩)
    | fail)
  all_goals (conv => whnf)
  exact ⟨rfl, Ext.push _ _, hw.push _⟩
theorem Same_any (H : AHeap) (v u : Value) (l m : List Nat) (hv : SetV H v l) (hu : SetV H u m) (hn : l.length ≤ 4096) (hm : m.length ≤ 4096) :
    Does Try.prog orc 9 [v, u] H fun r H' => ∃ b, r = .ret (.bool b) ∧ (b = true ↔ l = m) ∧ H = H' := by
  obtain ⟨a, n, c, rfl, hr⟩ := hv
  obtain ⟨a', n', c', rfl, hr'⟩ := hu
  have h1 := hr.len; simp at h1
  have h2 := hr'.len; simp at h2
  refine Does.of Try.func9 (fun _ _ => rfl) rfl ?_
  repeat' ((conv => whnf); first
    | (refine Both.intro ?_ ?_ <;> intro _ <;> try (exfalso; omega))
    | (refine Need.intro (by omega) ?_)
    | (refine Does.mono (same_any H a a' n n' c c' l m hr hr' (by omega) (by omega)) ?_ ; rintro _ _ ⟨b, rfl, hb, rfl⟩)
    | fail)
  all_goals (conv => whnf)
  exact ⟨b, rfl, hb, rfl⟩
theorem Check_any (H : AHeap) (hw : Wf H) (v : Value) (l : List Nat) (hv : SetV H v l) (hn : l.length ≤ 4096) (hx : ∀ x ∈ l, x < 18446744073709551616) :
    Does Try.prog orc 16 [v] H fun r H' => ∃ b, r = .ret (.bool b) ∧ (b = true ↔ l = leastF l) ∧ Ext H H' ∧ Wf H' := by
  obtain ⟨a, n, c, rfl, hr⟩ := hv
  have h1 := hr.len; simp at h1
  have hll : (leastF l).length ≤ l.length := by
    unfold leastF
    have q1 := List.length_filter_le (isLeast (compF (srt l))) (compF (srt l))
    have q2 := compF_len (srt l)
    rw [srt_len] at q2
    omega
  refine Does.of Try.func16 (fun _ _ => rfl) rfl ?_
  repeat' ((conv => whnf); first
    | (refine Both.intro ?_ ?_ <;> intro _ <;> try (exfalso; omega))
    | (refine Need.intro (by omega) ?_)
    | (refine Does.mono (leastV H hw _ l ⟨a, n, c, rfl, hr⟩ hn hx) ?_ ; rintro _ H1 ⟨a2, n2, c2, rfl, r2, e1, w1⟩ ; have h2 := r2.len ; simp at h2)
    | (refine Does.mono (same_any H1 a a2 n n2 c c2 l (leastF l) (hr.ext hw e1) r2 (by omega) (by omega)) ?_ ; rintro _ _ ⟨b, rfl, hb, rfl⟩)
    | fail)
  all_goals (conv => whnf)
  exact ⟨b, rfl, hb, e1, w1⟩
theorem True_any (H : AHeap) (hw : Wf H) : Does Try.prog orc 14 [] H fun r H' => ∃ a n c, r = .ret (.slice a n c) ∧ Row H' a n c (nums [0]) ∧ Ext H H' ∧ Wf H' := by
  refine Does.of Try.func14 (fun _ _ => rfl) rfl ?_
  have hbs : aBuildSlice Try.prog 22 1 [(0, .int .u64 0)] = mkSlice [.int .u64 0] 1 1 := by kernel_rfl
  repeat' ((conv => whnf); first
    | (refine Both.intro ?_ ?_ <;> intro _ <;> try (exfalso; omega))
    | (refine Need.intro (by omega) ?_)
    | (refine ⟨_, hbs, ?_⟩)
    | fail)
  all_goals (conv => whnf)
  exact ⟨_, _, _, rfl, Row.of_block (get_new _ _) rfl (Nat.le_refl _) (List.prefix_refl _), Ext.push _ _, hw.push _⟩
end Go.AX.Try
