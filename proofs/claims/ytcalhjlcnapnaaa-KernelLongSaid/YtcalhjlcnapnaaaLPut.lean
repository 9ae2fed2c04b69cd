/- kernel.tok, dual, add, put. -/
import Derived.Test.YtcalhjlcnapnaaaLUn
namespace Go.AX.Lw
open Go Go.AX
set_option linter.unusedVariables false
set_option linter.unusedSimpArgs false
variable {P : Program}
/-- Elements that are appended. -/
theorem stk_app {H0 H : AHeap} (he : Ext H0 H) (hw : Wf H) {ts : Array TypeId} {e : TypeId} {sz by_ : Nat} (ty : AppTyS P ts e sz by_) {a : Option Addr} {n c : Nat} {xs ys : List (List Value)} (hv : Stk H0 H (rowV e sz) sz a n c xs)
    {x : Value} {m : Nat} (hx : srcCells H sz x = some (m, ys.flatten)) (hl : m = ys.length) (hy : ∀ y ∈ ys, y.length = sz) (hone : allOne ys.flatten = true) (hb : (n + m) * by_ ≤ 2 ^ 47) (hb1 : n + m ≤ 2 ^ 47) :
    ∃ a' c' H', aAppend P H ts [.slice a n c, x] = some (.val (.slice a' (n + m) c') H' (.eff H H')) ∧ Stk H0 H' (rowV e sz) sz a' (n + m) c' (xs ++ ys) ∧ Ext H0 H' ∧ Wf H' ∧ H.next ≤ H'.next := by
  obtain ⟨h1, h2, h3, h⟩ := hv
  have hfx := flat_len h3
  have hfy := flat_len hy
  have hall3 : ∀ y ∈ xs ++ ys, y.length = sz := fun y hy' => by
    rcases List.mem_append.1 hy' with h | h
    · exact h3 y h
    · exact hy y h
  have hnm : n + m = (xs ++ ys).length := by rw [List.length_append, h1, hl]
  rw [appendS_eq ty hx]
  have c1 : (Nat.ble ((n + m) * by_) (2 ^ 47) && Nat.ble (n + m) (2 ^ 47) && Nat.beq ys.flatten.length (m * sz) && Nat.ble n c && allOne ys.flatten) = true := by
    rw [hfy, ← hl]
    simp only [Bool.and_eq_true, nble hb, nble hb1, nble h2, nbeq, hone, and_true]
  unfold aAppendTo
  simp only [c1, cond_true]
  rcases h with ⟨rfl, rfl⟩ | ⟨b, cs, rfl, hg, hcl, hp, hb'⟩
  · obtain rfl : n = 0 := by omega
    obtain rfl := List.length_eq_zero_iff.1 h1.symm
    by_cases h0 : m = 0
    · subst h0
      obtain rfl := List.length_eq_zero_iff.1 hl.symm
      exact ⟨_, _, _, rfl, ⟨rfl, Nat.le_refl _, by simp, .inl ⟨rfl, rfl⟩⟩, he, hw, Nat.le_refl _⟩
    · have e1 : Nat.beq (0 + m) 0 = false := nbeq_no (by omega)
      have e2 : (Nat.beq 0 0 && Nat.beq 0 0) = true := rfl
      simp only [e1, e2, cond_false, cond_true]
      exact ⟨_, _, _, rfl, ⟨hnm, Nat.le_refl _, hall3, .inr ⟨H.next, _, rfl, by rw [AHeap.get_push, if_pos rfl], by rw [hfy, ← hl, Nat.zero_add], by simp, he.next⟩⟩, he.trans (Ext.push _ _), hw.push _, by simp⟩
  · obtain ⟨rest, hrest⟩ := hp
    have hnx : n * sz = xs.flatten.length := by rw [hfx, ← h1]
    by_cases hc : n + m ≤ c
    · have hle : (n + m) * sz ≤ c * sz := Nat.mul_le_mul_right sz hc
      rw [Nat.add_mul] at hle
      have hput := putAt_list cs (0 + n * sz) ys.flatten (by rw [hfy, ← hl, hcl]; omega)
      obtain ⟨cs', hcs'⟩ : ∃ cs', cs' = cs.take (0 + n * sz) ++ ys.flatten ++ cs.drop (0 + n * sz + ys.flatten.length) := ⟨_, rfl⟩
      rw [← hcs'] at hput
      have hpre : (xs ++ ys).flatten <+: cs' := by
        rw [hcs', List.flatten_append, Nat.zero_add, hnx, ← hrest, List.take_left]
        exact ⟨_, rfl⟩
      have hlen' : cs'.length = c * sz := by
        rw [hcs']
        simp only [List.length_append, List.length_take, List.length_drop]
        rw [hfy, ← hl, hcl]; omega
      simp only [nble hc, cond_true, hg, Bool.true_or, hput]
      exact ⟨_, _, _, rfl, ⟨hnm, hc, hall3, .inr ⟨b, cs', rfl, by rw [AHeap.get_set, if_pos rfl], hlen', hpre, hb'⟩⟩, he.set hb' _, hw.set hg _, by simp⟩
    · have hnb : Nat.ble (n + m) c = false := nble_no (by omega)
      have e1 : (Nat.beq (rowV e sz) (rowV e sz) && Nat.beq (0 + c * sz) cs.length && Nat.ble n c) = true := by
        simp only [Bool.and_eq_true, nbeq, Nat.zero_add, hcl, nble h2, and_true]
      have e2 : takeN (n * sz) (dropN 0 cs) = some xs.flatten := by
        refine takeN_of _ _ _ hnx.symm fun i x hx => ?_
        rw [dropN_get, Nat.zero_add, ← hrest, List.getElem?_append_left (List.getElem?_eq_some_iff.1 hx).1]; exact hx
      simp only [hnb, cond_false, hg, e1, cond_true, e2]
      refine ⟨_, _, _, rfl, ⟨hnm, Nat.le_refl _, hall3, .inr ⟨H.next, _, rfl, by rw [AHeap.get_push, if_pos (by rfl)], by rw [List.length_append, hfx, hfy, ← h1, ← hl, Nat.add_mul], by simp, he.next⟩⟩, (he.set hb' _).trans (Ext.push _ _), (hw.set hg _).push _, by simp⟩
end Go.AX.Lw
namespace Go.AX.Try
open Go Go.AX Go.AX.Lw Go.Proofs
set_option linter.unusedVariables false
set_option linter.unusedSimpArgs false
set_option maxRecDepth 100000
theorem tk_src {H : AHeap} {a : Option Addr} {n c : Nat} {l : List Tk} (h : RowS H a n c 2 (l.map Tk.cells)) : srcCells H 2 (.slice a n c) = some (n, (l.map Tk.cells).flatten) := by
  have hn := h.len; simp at hn
  have hncap := h.cap
  by_cases h0 : n = 0
  · have hl0 : l = [] := List.length_eq_zero_iff.1 (by omega)
    subst hl0
    rw [h0]
    cases a <;> rfl
  · obtain ⟨b', o', st', rfl, hcs⟩ := RowS.flat h (by omega) (by decide)
    unfold srcCells
    simp only [nbeq_no h0, cond_false, nble hncap, cond_true, hcs]
theorem tk_one (l : List Tk) : allOne (l.map Tk.cells).flatten = true := by
  unfold allOne; rw [List.all_eq_true]; intro x hx
  obtain ⟨y, hy', hx'⟩ := List.mem_flatten.1 hx
  obtain ⟨t, _, rfl⟩ := List.mem_map.1 hy'
  simp [Tk.cells] at hx'; rcases hx' with rfl | rfl <;> rfl
theorem tk_two (l : List Tk) : ∀ y ∈ l.map Tk.cells, y.length = 2 := by intro y hy'; obtain ⟨t, _, rfl⟩ := List.mem_map.1 hy'; rfl
theorem tok_any (H : AHeap) (hw : Wf H) (op : Nat) : Does Try.prog orc 136 [.int .u8 op] H fun r H' => r = .ret (.agg #[.int .u8 op, .int .u8 0]) ∧ Ext H H' ∧ Wf H' := by
  refine Does.of Try.func136 (fun _ _ => rfl) rfl ?_
  have hb : aBuild Try.prog 46 [(0, .int .u8 op)] = some (.agg #[.int .u8 op, .int .u8 0]) := by kernel_rfl
  have hz : zeroOf Try.prog 46 = some (.agg #[.int .u8 0, .int .u8 0]) := by kernel_rfl
  have hg := get_new H (.cells [.int .u8 0, .int .u8 0] (typedV 46) true)
  repeat' ((conv => whnf); first
    | (refine Both.intro ?_ ?_ <;> intro _ <;> try (exfalso; omega))
    | (refine Need.intro (by omega) ?_)
    | (refine Gives.intro ⟨_, hz, ?_⟩)
    | (refine Gives.intro ⟨_, hb, ?_⟩)
    | (refine Outs.intro ⟨_, _, _, storeAgg_ok (vs := [.int .u8 _, .int .u8 _]) (by kernel_rfl) rfl hg rfl, ?_⟩)
    | (refine ⟨_, cellsAt_all (n := 2) (by rw [AHeap.get_set, if_pos rfl]) rfl, ?_⟩)
    | fail)
  all_goals (conv => whnf)
  exact ⟨rfl, (Ext.push _ _).set (Nat.le_refl _) _, (hw.push _).set hg _⟩
def dualF (op : Nat) : Nat := if op = 11 then 12 else if op = 12 then 11 else if op = 7 then 8 else if op = 8 then 7 else if op = 15 then 16 else if op = 16 then 15 else if op = 17 then 18 else if op = 18 then 17 else op
set_option maxHeartbeats 2000000 in
theorem dual_any (H : AHeap) (hw : Wf H) (op : Nat) : Does Try.prog orc 138 [.int .u8 op] H fun r H' => r = .ret (.int .u8 (dualF op)) ∧ Ext H H' ∧ Wf H' := by
  refine Does.of Try.func138 (fun _ _ => rfl) rfl ?_
  have hb : ∀ a b : Nat, aBuild Try.prog 152 [(0, .int .u8 a), (1, .int .u8 b)] = some (.agg #[.int .u8 a, .int .u8 b]) := fun a b => by kernel_rfl
  have hbs : aBuildSlice Try.prog 153 4 [(0, .agg #[.int .u8 11, .int .u8 12]), (1, .agg #[.int .u8 7, .int .u8 8]), (2, .agg #[.int .u8 15, .int .u8 16]), (3, .agg #[.int .u8 17, .int .u8 18])] = mkSlice [.int .u8 11, .int .u8 12, .int .u8 7, .int .u8 8, .int .u8 15, .int .u8 16, .int .u8 17, .int .u8 18] 4 4 := by kernel_rfl
  obtain ⟨Z, h_Z⟩ : ∃ X, X = (H.push (.cells [.int .u8 11, .int .u8 12, .int .u8 7, .int .u8 8, .int .u8 15, .int .u8 16, .int .u8 17, .int .u8 18] 0 true)) := ⟨_, rfl⟩
  have n_Z : Z.next = H.next + 1 := by rw [h_Z]; rfl
  have e_Z : Ext H Z := by rw [h_Z]; exact (⟨by first | (simp; done) | (simp; omega), fun b hb => by (simp only [AHeap.get_push, AHeap.get_set, AHeap.next_push, AHeap.next_set]; repeat rw [if_neg (by omega)])⟩)
  have w_Z : Wf Z := by rw [h_Z]; exact (fun b hb => by (simp only [AHeap.get_push, AHeap.get_set, AHeap.next_push, AHeap.next_set] at hb ⊢; repeat rw [if_neg (by omega)]); exact hw b (by omega))
  have g_Z_0 : Z.get (H.next) = some (.cells [.int .u8 11, .int .u8 12, .int .u8 7, .int .u8 8, .int .u8 15, .int .u8 16, .int .u8 17, .int .u8 18] 0 true) := by rw [h_Z]; exact (by (simp only [AHeap.get_push, AHeap.get_set, AHeap.next_push, AHeap.next_set, if_true]); repeat (first | rw [if_pos rfl] | rw [if_neg (by omega)]))
  have o_Z : ∀ b, b < H.next → Z.get b = H.get b := e_Z.get
  have x_Z := h_Z
  repeat' ((conv => whnf); first
    | (refine Both.intro ?_ ?_ <;> intro _ <;> try (exfalso; omega))
    | (refine Need.intro (by omega) ?_)
    | (refine Gives.intro ⟨_, hb 11 12, ?_⟩)
    | (refine Gives.intro ⟨_, hb 7 8, ?_⟩)
    | (refine Gives.intro ⟨_, hb 15 16, ?_⟩)
    | (refine Gives.intro ⟨_, hb 17 18, ?_⟩)
    | (refine ⟨_, hbs, ?_⟩)
    | fail)
  all_goals (conv => whnf)
  refine Runs.loop (fun j : Nat => [(11, .int .i64 j), (10, .int .i64 (4 : Nat)), (9, .slice (some ⟨H.next, 0, none⟩) 4 4), (0, .int .u8 op)])
    (fun j H' => j ≤ 4 ∧ Ext Z H' ∧ Wf H' ∧ (0 < j → op ≠ 11 ∧ op ≠ 12) ∧ (1 < j → op ≠ 7 ∧ op ≠ 8) ∧ (2 < j → op ≠ 15 ∧ op ≠ 16) ∧ (3 < j → op ≠ 17 ∧ op ≠ 18)) (fun j => 4 - j) 0 ⟨rfl, rfl, rfl, rfl, trivial⟩ ⟨Nat.zero_le _, x_Z ▸ Ext.refl _, x_Z ▸ w_Z, by omega, by omega, by omega, by omega⟩ ?_
  rintro j H1 ⟨hj, e1, w1, q0, q1, q2, q3⟩
  have hg := e1.get H.next (by omega)
  rw [g_Z_0] at hg
  have hgx := get_new H1 (.cells [.int .u8 0, .int .u8 0] (typedV 152) true)
  have hz : zeroOf Try.prog 152 = some (.agg #[.int .u8 0, .int .u8 0]) := by kernel_rfl
  have e9 : ∀ a b : Nat, Ext H1 ((H1.push (.cells [.int .u8 0, .int .u8 0] (typedV 152) true)).set H1.next (.cells [.int .u8 a, .int .u8 b] (typedV 152) true)) := fun a b => (Ext.push _ _).set (Nat.le_refl _) _
  have w9 : ∀ a b : Nat, Wf ((H1.push (.cells [.int .u8 0, .int .u8 0] (typedV 152) true)).set H1.next (.cells [.int .u8 a, .int .u8 b] (typedV 152) true)) := fun a b => (w1.push _).set hgx _
  have eH : Ext H H1 := e_Z.trans e1
  match j with
  | 0 =>
    have hc : cellsAt H1 H.next (0 + 2 * 0) 2 = some [.int .u8 11, .int .u8 12] := by simp only [cellsAt, hg]; rfl
    repeat' ((conv => whnf); first
      | (refine Both.intro ?_ ?_ <;> intro _ <;> try (exfalso; omega))
      | (refine Need.intro (by omega) ?_)
      | (refine Gives.intro ⟨_, hz, ?_⟩)
      | (refine ⟨_, hc, ?_⟩)
      | (refine Outs.intro ⟨_, _, _, storeAgg_ok (vs := [.int .u8 11, .int .u8 12]) (by kernel_rfl) rfl hgx rfl, ?_⟩)
      | (refine ⟨_, cellAt_of (o := 0) (v := .int .u8 11) (by rw [AHeap.get_set, if_pos rfl]) rfl, ?_⟩)
      | (refine ⟨_, cellAt_of (o := 1) (v := .int .u8 12) (by rw [AHeap.get_set, if_pos rfl]) rfl, ?_⟩)
      | fail)
    all_goals (conv => whnf)
    · obtain rfl : op = 11 := by omega
      exact ⟨rfl, eH.trans (e9 _ _), w9 _ _⟩
    · obtain rfl : op = 12 := by omega
      exact ⟨rfl, eH.trans (e9 _ _), w9 _ _⟩
    · exact ⟨1, ⟨rfl, rfl, rfl, rfl, trivial⟩, ⟨by omega, e1.trans (e9 _ _), w9 _ _, by omega, by omega, by omega, by omega⟩, by omega⟩
  | 1 =>
    have hc : cellsAt H1 H.next (0 + 2 * 1) 2 = some [.int .u8 7, .int .u8 8] := by simp only [cellsAt, hg]; rfl
    repeat' ((conv => whnf); first
      | (refine Both.intro ?_ ?_ <;> intro _ <;> try (exfalso; omega))
      | (refine Need.intro (by omega) ?_)
      | (refine Gives.intro ⟨_, hz, ?_⟩)
      | (refine ⟨_, hc, ?_⟩)
      | (refine Outs.intro ⟨_, _, _, storeAgg_ok (vs := [.int .u8 7, .int .u8 8]) (by kernel_rfl) rfl hgx rfl, ?_⟩)
      | (refine ⟨_, cellAt_of (o := 0) (v := .int .u8 7) (by rw [AHeap.get_set, if_pos rfl]) rfl, ?_⟩)
      | (refine ⟨_, cellAt_of (o := 1) (v := .int .u8 8) (by rw [AHeap.get_set, if_pos rfl]) rfl, ?_⟩)
      | fail)
    all_goals (conv => whnf)
    · obtain rfl : op = 7 := by omega
      exact ⟨rfl, eH.trans (e9 _ _), w9 _ _⟩
    · obtain rfl : op = 8 := by omega
      exact ⟨rfl, eH.trans (e9 _ _), w9 _ _⟩
    · exact ⟨2, ⟨rfl, rfl, rfl, rfl, trivial⟩, ⟨by omega, e1.trans (e9 _ _), w9 _ _, by omega, by omega, by omega, by omega⟩, by omega⟩
  | 2 =>
    have hc : cellsAt H1 H.next (0 + 2 * 2) 2 = some [.int .u8 15, .int .u8 16] := by simp only [cellsAt, hg]; rfl
    repeat' ((conv => whnf); first
      | (refine Both.intro ?_ ?_ <;> intro _ <;> try (exfalso; omega))
      | (refine Need.intro (by omega) ?_)
      | (refine Gives.intro ⟨_, hz, ?_⟩)
      | (refine ⟨_, hc, ?_⟩)
      | (refine Outs.intro ⟨_, _, _, storeAgg_ok (vs := [.int .u8 15, .int .u8 16]) (by kernel_rfl) rfl hgx rfl, ?_⟩)
      | (refine ⟨_, cellAt_of (o := 0) (v := .int .u8 15) (by rw [AHeap.get_set, if_pos rfl]) rfl, ?_⟩)
      | (refine ⟨_, cellAt_of (o := 1) (v := .int .u8 16) (by rw [AHeap.get_set, if_pos rfl]) rfl, ?_⟩)
      | fail)
    all_goals (conv => whnf)
    · obtain rfl : op = 15 := by omega
      exact ⟨rfl, eH.trans (e9 _ _), w9 _ _⟩
    · obtain rfl : op = 16 := by omega
      exact ⟨rfl, eH.trans (e9 _ _), w9 _ _⟩
    · exact ⟨3, ⟨rfl, rfl, rfl, rfl, trivial⟩, ⟨by omega, e1.trans (e9 _ _), w9 _ _, by omega, by omega, by omega, by omega⟩, by omega⟩
  | 3 =>
    have hc : cellsAt H1 H.next (0 + 2 * 3) 2 = some [.int .u8 17, .int .u8 18] := by simp only [cellsAt, hg]; rfl
    repeat' ((conv => whnf); first
      | (refine Both.intro ?_ ?_ <;> intro _ <;> try (exfalso; omega))
      | (refine Need.intro (by omega) ?_)
      | (refine Gives.intro ⟨_, hz, ?_⟩)
      | (refine ⟨_, hc, ?_⟩)
      | (refine Outs.intro ⟨_, _, _, storeAgg_ok (vs := [.int .u8 17, .int .u8 18]) (by kernel_rfl) rfl hgx rfl, ?_⟩)
      | (refine ⟨_, cellAt_of (o := 0) (v := .int .u8 17) (by rw [AHeap.get_set, if_pos rfl]) rfl, ?_⟩)
      | (refine ⟨_, cellAt_of (o := 1) (v := .int .u8 18) (by rw [AHeap.get_set, if_pos rfl]) rfl, ?_⟩)
      | fail)
    all_goals (conv => whnf)
    · obtain rfl : op = 17 := by omega
      exact ⟨rfl, eH.trans (e9 _ _), w9 _ _⟩
    · obtain rfl : op = 18 := by omega
      exact ⟨rfl, eH.trans (e9 _ _), w9 _ _⟩
    · exact ⟨4, ⟨rfl, rfl, rfl, rfl, trivial⟩, ⟨by omega, e1.trans (e9 _ _), w9 _ _, by omega, by omega, by omega, by omega⟩, by omega⟩
  | j + 4 =>
    obtain rfl : j = 0 := by omega
    have hd : dualF op = op := by unfold dualF; rw [if_neg (by omega), if_neg (by omega), if_neg (by omega), if_neg (by omega), if_neg (by omega), if_neg (by omega), if_neg (by omega), if_neg (by omega)]
    repeat' ((conv => whnf); first
      | (refine Both.intro ?_ ?_ <;> intro _ <;> try (exfalso; omega))
      | (refine Need.intro (by omega) ?_)
      | fail)
    all_goals (conv => whnf)
    exact ⟨by rw [hd]; rfl, eH, w1⟩
def addF (l : List Nat) : Nat := l.foldl (fun s x => min (s + x) 2049) 1
theorem addF_le (l : List Nat) : addF l ≤ 2049 := by
  unfold addF
  have : ∀ (l : List Nat) s, s ≤ 2049 → l.foldl (fun s x => min (s + x) 2049) s ≤ 2049 := by
    intro l
    induction l with
    | nil => intro s h; exact h
    | cons x r ih => intro s h; exact ih _ (Nat.min_le_right _ _)
  exact this l 1 (by decide)
theorem add_any (H : AHeap) (a : Option Addr) (k c : Nat) (l : List Nat) (hr : Row H a k c (l.map fun (x : Nat) => Value.int .i64 (x : Int))) (hk : k ≤ 3) (hx : ∀ x ∈ l, x ≤ 2049) :
    Does Try.prog orc 135 [.slice a k c] H fun r H' => r = .ret (.int .i64 (addF l)) ∧ H = H' := by
  have hlen := hr.len; simp at hlen
  have hcap := hr.cap
  refine Does.of Try.func135 (fun _ _ => rfl) rfl ?_
  repeat' ((conv => whnf); first
    | (refine Both.intro ?_ ?_ <;> intro _ <;> try (exfalso; omega))
    | (refine Need.intro (by omega) ?_)
    | fail)
  all_goals (conv => whnf)
  refine Runs.loop (fun j : Nat => [(8, .int .i64 j), (7, .int .i64 k), (6, .slice a k c), (3, .int .i64 (addF (l.take j)))]) (fun j H' => H = H' ∧ j ≤ k) (fun j => k - j) 0 ⟨rfl, rfl, rfl, rfl, trivial⟩ ⟨rfl, Nat.zero_le _⟩ ?_
  rintro j _ ⟨rfl, hj⟩
  by_cases hlt : j < k
  · obtain ⟨x, hxj⟩ := get_of (l := l) (k := j) (by omega)
    obtain ⟨b, o, st, rfl, hc⟩ := hr.cell j (.int .i64 x) (by simp [hxj])
    have h1 := addF_le (l.take j)
    have h2 := hx x (List.mem_of_getElem? hxj)
    have hs : addF (l.take (j + 1)) = min (addF (l.take j) + x) 2049 := by unfold addF; rw [List.take_add_one, hxj]; simp
    repeat' ((conv => whnf); first
      | (refine Both.intro ?_ ?_ <;> intro _ <;> try (exfalso; omega))
      | (refine Need.intro (by omega) ?_)
      | (refine ⟨_, hc, ?_⟩)
      | fail)
    all_goals (conv => whnf)
    · have hz : addF (l.take (j + 1)) = 2049 := by rw [hs]; omega
      exact ⟨j + 1, ⟨rfl, rfl, rfl, by rw [hz]; rfl, trivial⟩, ⟨rfl, by omega⟩, by omega⟩
    · have hz : addF (l.take (j + 1)) = addF (l.take j) + x := by rw [hs]; omega
      exact ⟨j + 1, ⟨rfl, rfl, rfl, by rw [hz]; rfl, trivial⟩, ⟨rfl, by omega⟩, by omega⟩
  · obtain rfl : j = k := by omega
    repeat' ((conv => whnf); first
      | (refine Both.intro ?_ ?_ <;> intro _ <;> try (exfalso; omega))
      | (refine Need.intro (by omega) ?_)
      | fail)
    all_goals (conv => whnf)
    rw [List.take_of_length_le (by omega)]
    exact ⟨rfl, rfl⟩
/-- A formula's tokens, in a block of a set. -/
def FmS (S : Nat → Prop) (H : AHeap) (v : Value) (ts : List Tk) : Prop := ∃ a n c, v = .slice a n c ∧ RowS H a n c 2 (ts.map Tk.cells) ∧ ∀ b o s, a = some ⟨b, o, s⟩ → S b
theorem FmS.fm {S : Nat → Prop} {H : AHeap} {v : Value} {ts : List Tk} (h : FmS S H v ts) : Fm H v ts := by
  obtain ⟨a, n, c, h1, h2, -⟩ := h
  exact ⟨a, n, c, h1, h2⟩
theorem RowS.sameB {H H' : AHeap} {a : Option Addr} {n c sz : Nat} {xs : List (List Value)} (h : RowS H a n c sz xs) (hs : ∀ b o s, a = some ⟨b, o, s⟩ → H'.get b = H.get b) : RowS H' a n c sz xs :=
  ⟨h.len, h.cap, h.all, fun i x hx => by
    obtain ⟨b, o, st, ha, hc⟩ := h.cell i x hx
    exact ⟨b, o, st, ha, by rw [cellsAt_same (hs b o st ha)]; exact hc⟩⟩
theorem FmS.wide {S S' : Nat → Prop} {H H' : AHeap} {v : Value} {ts : List Tk} (h : FmS S H v ts) (hk : ∀ b, S b → H'.get b = H.get b) (hs : ∀ b, S b → S' b) : FmS S' H' v ts := by
  obtain ⟨a, n, c, h1, h2, h3⟩ := h
  exact ⟨a, n, c, h1, RowS.sameB h2 fun b o s e => hk b (h3 b o s e), fun b o s e => hs b (h3 b o s e)⟩
theorem FmS.ext {S S' : Nat → Prop} {H H' : AHeap} {v : Value} {ts : List Tk} (h : FmS S H v ts) (hw : Wf H) (e : Ext H H') (hs : ∀ b, S b → S' b) : FmS S' H' v ts := by
  obtain ⟨a, n, c, h1, h2, h3⟩ := h
  exact ⟨a, n, c, h1, h2.ext hw e, fun b o s e => hs b (h3 b o s e)⟩
/-- The blocks that came between two states of the memory. -/
abbrev New (H H' : AHeap) : Nat → Prop := fun b => H.next ≤ b ∧ b < H'.next
theorem put_any (H : AHeap) (hw : Wf H) (op : Nat) (a : Option Addr) (k c : Nat) (vs : List Value) (ls : List (List Tk)) (hr : Row H a k c vs) (hl : vs.length = ls.length) (hk : k ≤ 3) (hf : ∀ (j : Nat) v l, vs[j]? = some v → ls[j]? = some l → Fm H v l) (hmax : ls.flatten.length ≤ 2 ^ 20) :
    Does Try.prog orc 137 [.int .u8 op, .slice a k c] H fun r H' => ∃ v, r = .ret v ∧ FmS (New H H') H' v (ls.flatten ++ [opT op]) ∧ Ext H H' ∧ Wf H' := by
  have hlen := hr.len
  have hcap := hr.cap
  refine Does.of Try.func137 (fun _ _ => rfl) rfl ?_
  have hel : ∀ j, j < k → ∃ b o st aj nj cj l, a = some ⟨b, o, st⟩ ∧ cellAt H b (o + j) = some (.slice aj nj cj) ∧ ls[j]? = some l ∧ RowS H aj nj cj 2 (l.map Tk.cells) ∧ nj = l.length ∧ (ls.take (j + 1)).flatten.length = (ls.take j).flatten.length + nj := fun j hj => by
    have hx := List.getElem?_eq_getElem (l := vs) (i := j) (by omega)
    have hy := List.getElem?_eq_getElem (l := ls) (i := j) (by omega)
    obtain ⟨b, o, st, ha, hc⟩ := hr.cell j _ hx
    obtain ⟨aj, nj, cj, hv, hrow⟩ := hf j _ _ hx hy
    have hn := hrow.len; simp at hn
    exact ⟨b, o, st, aj, nj, cj, _, ha, by rw [hc, hv], hy, hrow, hn, by rw [List.take_add_one, hy, List.flatten_append, List.length_append, hn]; congr 1; exact congrArg List.length (List.append_nil _)⟩
  have hle : ∀ j, (ls.take j).flatten.length ≤ ls.flatten.length := fun j => by
    conv => rhs; rw [← List.take_append_drop j ls, List.flatten_append, List.length_append]
    omega
  repeat' ((conv => whnf); first
    | (refine Both.intro ?_ ?_ <;> intro _ <;> try (exfalso; omega))
    | (refine Need.intro (by omega) ?_)
    | fail)
  all_goals (conv => whnf)
  refine Runs.loop (fun s : Nat × Option Addr × Nat => [(10, .int .i64 s.1), (9, .int .i64 k), (8, .slice a k c), (5, .slice s.2.1 (ls.take s.1).flatten.length s.2.2), (0, .int .u8 op)])
    (fun s H' => s.1 ≤ k ∧ Ext H H' ∧ Wf H' ∧ Stk H H' (rowV 46 2) 2 s.2.1 (ls.take s.1).flatten.length s.2.2 ((ls.take s.1).flatten.map Tk.cells)) (fun s => k - s.1) (0, none, 0) ⟨rfl, rfl, rfl, rfl, rfl, trivial⟩ ⟨Nat.zero_le _, Ext.refl _, hw, Stk.nil _ _ _ _⟩ ?_
  rintro ⟨j, sa, sc⟩ H1 ⟨hj, e1, w1, st1⟩
  dsimp only at hj st1
  show vc _ _ _ _ _ [(10, .int .i64 j), (9, .int .i64 k), (8, .slice a k c), (5, .slice sa (ls.take j).flatten.length sc), (0, .int .u8 op)] _ _
  by_cases hlt : j < k
  · obtain ⟨b, o, st, aj, nj, cj, l, rfl, hc, hy, hrow, hnj, hsum⟩ := hel j hlt
    have hc1 := cellAt_ext hw e1 hc
    have h2 := hle (j + 1)
    obtain ⟨a', c', H9, happ, st9, e9, w9, n9⟩ := stk_app e1 w1 tokTy st1 (tk_src (hrow.ext hw e1)) (by simp [hnj]) (tk_two l) (tk_one l) (by omega) (by omega)
    repeat' ((conv => whnf); first
      | (refine Both.intro ?_ ?_ <;> intro _ <;> try (exfalso; omega))
      | (refine Need.intro (by omega) ?_)
      | (refine ⟨_, hc1, ?_⟩)
      | (refine Outs.intro ⟨_, _, _, happ, ?_⟩)
      | fail)
    all_goals (conv => whnf)
    refine ⟨(j + 1, a', c'), ⟨rfl, rfl, rfl, by dsimp only; rw [hsum]; rfl, rfl, trivial⟩, ⟨by dsimp only; omega, e9, w9, ?_⟩, by dsimp only; omega⟩
    dsimp only
    have hcat : (ls.take (j + 1)).flatten.map Tk.cells = (ls.take j).flatten.map Tk.cells ++ l.map Tk.cells := by rw [List.take_add_one, hy]; simp
    rw [hsum, hcat]
    exact st9
  · have hall : ls.take j = ls := List.take_of_length_le (by omega)
    rw [hall] at st1 ⊢
    have happ : ∀ (H2 : AHeap) (e2 : Ext H1 H2) (w2 : Wf H2), ∃ a' c' H9, aAppend Try.prog (H2.push (.cells [.int .u8 op, .int .u8 0] 0 true)) #[22, 22] [.slice sa ls.flatten.length sc, .slice (some ⟨H2.next, 0, none⟩) 1 1] = some (.val (.slice a' (ls.flatten.length + 1) c') H9 (.eff (H2.push (.cells [.int .u8 op, .int .u8 0] 0 true)) H9)) ∧ FmS (New H H9) H9 (.slice a' (ls.flatten.length + 1) c') (ls.flatten ++ [opT op]) ∧ Ext H H9 ∧ Wf H9 := fun H2 e2 w2 => by
      obtain ⟨a', c', H9, happ, st9, e9, w9, -⟩ := stk_push ((e1.trans e2).trans (Ext.push H2 (.cells [.int .u8 op, .int .u8 0] 0 true))) (w2.push _) tokTy ((st1.ext w1 e2).ext w2 (Ext.push H2 (.cells [.int .u8 op, .int .u8 0] 0 true))) (m := ls.flatten.length) (Nat.le_refl _) (srcS (get_new _ _) rfl) rfl rfl (by omega) (by omega)
      refine ⟨a', c', H9, happ, ⟨_, _, _, rfl, ?_, fun b o s ha => st9.lt w9 ha⟩, e9, w9⟩
      rw [List.take_of_length_le (by rw [List.length_map]; exact Nat.le_refl _)] at st9
      have := st9.row
      simpa [Tk.cells, opT] using this
    have hbs : aBuildSlice Try.prog 22 1 [(0, .agg #[.int .u8 op, .int .u8 0])] = mkSlice [.int .u8 op, .int .u8 0] 1 1 := by kernel_rfl
    repeat' ((conv => whnf); first
      | (refine Both.intro ?_ ?_ <;> intro _ <;> try (exfalso; omega))
      | (refine Need.intro (by omega) ?_)
      | (refine Does.mono (tok_any H1 w1 op) ?_ ; rintro _ H2 ⟨rfl, e2, w2⟩ ; obtain ⟨a9, c9, H9, hap, f9, e9, w9⟩ := happ H2 e2 w2)
      | (refine ⟨_, hbs, ?_⟩)
      | (refine Outs.intro ⟨_, _, _, hap, ?_⟩)
      | fail)
    all_goals (conv => whnf)
    exact ⟨_, rfl, f9, e9, w9⟩
end Go.AX.Try
