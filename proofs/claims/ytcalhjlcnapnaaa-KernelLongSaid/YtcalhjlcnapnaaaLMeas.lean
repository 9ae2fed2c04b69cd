/- kernel.measure. -/
import Derived.Test.YtcalhjlcnapnaaaLSize
namespace Go.AX.Try
open Go Go.AX Go.AX.Lw Go.Proofs
set_option linter.unusedVariables false
set_option linter.unusedSimpArgs false
set_option maxRecDepth 100000
theorem sizesTy : AppTyS Try.prog #[114, 114] 75 2 16 where
  t0 := by kernel_rfl
  t1 := by kernel_rfl
  size := by kernel_rfl
  bytes := by kernel_rfl
  pos := by decide
  szp := by decide
  szl := by decide
  zero := ⟨.agg #[.int .i64 0, .int .i64 0], by kernel_rfl, rfl⟩
def stepZ (st : Option (List Sz)) (t : Tk) : Option (List Sz) :=
  match st with
  | none => none
  | some ss => if t.op ≤ 23 ∧ takesF t.op ≤ ss.length then some (ss.take (ss.length - takesF t.op) ++ [longF t (ss.drop (ss.length - takesF t.op))]) else none
theorem foldZ_none (ts : List Tk) : ts.foldl stepZ none = none := by
  induction ts with
  | nil => rfl
  | cons t r ih => exact ih
theorem longF_le (t : Tk) (a : List Sz) (h : ∀ s ∈ a, s.yes ≤ 2049 ∧ s.no ≤ 2049) : (longF t a).yes ≤ 2049 ∧ (longF t a).no ≤ 2049 := by
  unfold longF
  split
  · exact ⟨by decide, by decide⟩
  split
  · exact ⟨by decide, by decide⟩
  split
  · exact ⟨by decide, by decide⟩
  split
  · have hx := h _ (List.mem_singleton.2 rfl)
    (repeat' split) <;> first | exact ⟨hx.2, hx.1⟩ | exact ⟨addF_le _, addF_le _⟩ | exact ⟨addF_le _, Nat.zero_le _⟩
  · (repeat' split) <;> first | exact ⟨addF_le _, addF_le _⟩ | exact ⟨addF_le _, Nat.zero_le _⟩
  · exact ⟨by decide, by decide⟩
theorem measure_any (H : AHeap) (hw : Wf H) (a : Option Addr) (n c : Nat) (ts : List Tk) (hr : RowS H a n c 2 (ts.map Tk.cells)) (hn : n ≤ 2 ^ 30) (z : Sz) (hz : ts.foldl stepZ (some []) = some [z]) :
    Does Try.prog orc 56 [.slice a n c] H fun r H' => r = .ret (.agg z.cells.toArray) ∧ Ext H H' ∧ Wf H' := by
  have hlen := hr.len; simp at hlen
  have hcap := hr.cap
  refine (Does.wf (Q := fun r H' => r = .ret (.agg z.cells.toArray) ∧ Ext H H') ?_ hw).mono fun r H' ⟨⟨h1, h2⟩, h3⟩ => ⟨h1, h2, h3⟩
  have hz0 : zeroOf Try.prog 75 = some (.agg #[.int .i64 0, .int .i64 0]) := by kernel_rfl
  have hzt : zeroOf Try.prog 46 = some (.agg #[.int .u8 0, .int .u8 0]) := by kernel_rfl
  refine Does.of Try.func56 (fun _ _ => rfl) rfl ?_
  have g0 := get_new H (.cells [.int .i64 0, .int .i64 0] (typedV 75) true)
  obtain ⟨Z, hZ⟩ : ∃ Z, Z = H.push (.cells [.int .i64 0, .int .i64 0] (typedV 75) true) := ⟨_, rfl⟩
  have eZ : Ext H Z := by rw [hZ]; exact Ext.push _ _
  have wZ : Wf Z := by rw [hZ]; exact hw.push _
  have nZ : Z.next = H.next + 1 := by rw [hZ]; rfl
  rw [← hZ] at g0
  repeat' ((conv => whnf); first
    | (refine Both.intro ?_ ?_ <;> intro _ <;> try (exfalso; omega))
    | (refine Need.intro (by omega) ?_)
    | (refine Gives.intro ⟨_, hz0, ?_⟩)
    | fail)
  all_goals (conv => whnf)
  refine Runs.loop (fun x : Nat × List Sz × Option Addr × Nat => [(9, .int .i64 x.1), (8, .int .i64 n), (7, .slice a n c), (3, .slice x.2.2.1 x.2.1.length x.2.2.2), (2, .pointer (some ⟨H.next, 0, none⟩))])
    (fun x H' => x.1 ≤ n ∧ x.2.1.length ≤ x.1 ∧ Ext Z H' ∧ Wf H' ∧ Stk Z H' (rowV 75 2) 2 x.2.2.1 x.2.1.length x.2.2.2 (x.2.1.map Sz.cells) ∧ (ts.take x.1).foldl stepZ (some []) = some x.2.1 ∧ ∀ s ∈ x.2.1, s.yes ≤ 2049 ∧ s.no ≤ 2049) (fun x => n - x.1) (0, [], none, 0)
    ⟨rfl, rfl, rfl, rfl, rfl, trivial⟩ ⟨by omega, by simp, hZ ▸ Ext.refl _, hZ ▸ wZ, Stk.nil _ _ _ _, rfl, by simp⟩ ?_
  rintro ⟨k, ss, sa, sc⟩ H1 ⟨hk, hsk, e1, w1, hst, hfold, hbd⟩
  dsimp only at hk hsk hst hfold hbd
  show vc _ _ _ _ _ [(9, .int .i64 k), (8, .int .i64 n), (7, .slice a n c), (3, .slice sa ss.length sc), (2, .pointer (some ⟨H.next, 0, none⟩))] _ _
  by_cases hlt : k < n
  · obtain ⟨t, ht⟩ := get_of (l := ts) (k := k) (by omega)
    have hr1 := hr.ext hw (eZ.trans e1)
    obtain ⟨b, o, st, rfl, hcell⟩ := hr1.cell k t.cells (by simp [ht])
    have g2 := get_new H1 (.cells [.int .u8 0, .int .u8 0] (typedV 46) true)
    have w2 := w1.push (.cells [.int .u8 0, .int .u8 0] (typedV 46) true)
    have g3 : ((H1.push (.cells [.int .u8 0, .int .u8 0] (typedV 46) true)).set H1.next (.cells t.cells (typedV 46) true)).get H1.next = some (.cells t.cells (typedV 46) true) := by rw [AHeap.get_set, if_pos rfl]
    have w3 := w2.set g2 (.cells t.cells (typedV 46) true)
    have e3 := ((Ext.refl H1).trans (Ext.push H1 (.cells [.int .u8 0, .int .u8 0] (typedV 46) true))).set (Nat.le_refl _) (.cells t.cells (typedV 46) true)
    have q0 := cellAt_of g3 (o := 0) (v := .int .u8 t.op) rfl
    have qa := cellsAt_all (n := 2) g3 rfl
    have hT := takesF_le t.op
    have hnext : (ts.take (k + 1)).foldl stepZ (some []) = stepZ (some ss) t := by
      rw [List.take_add_one, ht, List.foldl_append, hfold]; rfl
    have hall : ts.foldl stepZ (some []) = (ts.drop (k + 1)).foldl stepZ (stepZ (some ss) t) := by
      rw [← hnext, ← List.foldl_append, List.take_append_drop]
    have hneg : t.op ≤ 23 ∧ takesF t.op ≤ ss.length := by
      by_cases h : t.op ≤ 23 ∧ takesF t.op ≤ ss.length
      · exact h
      · rw [hall, stepZ, if_neg h, foldZ_none] at hz; cases hz
    have hsc := hst.2.1
    have hst3 := hst.ext w1 e3
    have hrest := hst3.rest (m := ss.length - takesF t.op) (by omega)
    rw [← List.map_drop] at hrest
    have hbd' : ∀ s ∈ ss.drop (ss.length - takesF t.op), s.yes ≤ 2049 ∧ s.no ≤ 2049 := fun s hs => hbd s (List.mem_of_mem_drop hs)
    have hlg := long_any _ w3 t hneg.1 _ _ _ (ss.drop (ss.length - takesF t.op)) hrest (by omega) hbd'
    have hle := longF_le t _ hbd'
    have hstep : stepZ (some ss) t = some (ss.take (ss.length - takesF t.op) ++ [longF t (ss.drop (ss.length - takesF t.op))]) := by simp only [stepZ, if_pos hneg]
    obtain ⟨s, hs⟩ : ∃ s, s = longF t (ss.drop (ss.length - takesF t.op)) := ⟨_, rfl⟩
    rw [← hs] at hlg hstep hle
    obtain ⟨hm, hhm⟩ : ∃ m, m = ss.length - takesF t.op := ⟨_, rfl⟩
    have hmi : ((ss.length : Int) - (takesF t.op : Int)) = (hm : Int) := by omega
    rw [← hhm] at hlg hstep
    obtain ⟨sy, sn⟩ := s
    have hbs : aBuildSlice Try.prog 114 1 [(0, .agg #[.int .i64 sy, .int .i64 sn])] = mkSlice [.int .i64 sy, .int .i64 sn] 1 1 := by kernel_rfl
    have hpush : ∀ (H5 : AHeap) (e5 : Ext ((H1.push (.cells [.int .u8 0, .int .u8 0] (typedV 46) true)).set H1.next (.cells t.cells (typedV 46) true)) H5) (w5 : Wf H5), ∃ a' c' H9, aAppend Try.prog (H5.push (.cells [.int .i64 sy, .int .i64 sn] 0 true)) #[114, 114] [.slice sa hm sc, .slice (some ⟨H5.next, 0, none⟩) 1 1] = some (.val (.slice a' (hm + 1) c') H9 (.eff (H5.push (.cells [.int .i64 sy, .int .i64 sn] 0 true)) H9)) ∧ Stk Z H9 (rowV 75 2) 2 a' (hm + 1) c' ((ss.map Sz.cells).take hm ++ [[.int .i64 sy, .int .i64 sn]]) ∧ Ext Z H9 ∧ Wf H9 := fun H5 e5 w5 => by
      obtain ⟨a', c', H9, h1, h2, h3, h4, -⟩ := stk_push (((e1.trans e3).trans e5).trans (Ext.push H5 (.cells [.int .i64 sy, .int .i64 sn] 0 true))) (w5.push _) sizesTy ((hst3.ext w3 e5).ext w5 (Ext.push H5 (.cells [.int .i64 sy, .int .i64 sn] 0 true))) (m := hm) (by omega) (srcS (get_new _ _) rfl) rfl rfl (by omega) (by omega)
      exact ⟨a', c', H9, h1, h2, h3, h4⟩
    repeat' ((conv => whnf); first
      | (refine Both.intro ?_ ?_ <;> intro _ <;> try (exfalso; omega))
      | (refine Need.intro (by omega) ?_)
      | (refine ⟨_, hcell, ?_⟩)
      | (refine Gives.intro ⟨_, hzt, ?_⟩)
      | (refine Outs.intro ⟨_, _, _, storeAgg_ok (vs := [.int .u8 _, .int .u8 _]) (by kernel_rfl) rfl g2 rfl, ?_⟩)
      | (refine ⟨_, q0, ?_⟩)
      | (refine Does.mono (takes_any _ t.op) ?_ ; rintro _ H' ⟨rfl, rfl⟩)
      | (refine ⟨_, qa, ?_⟩)
      | (refine Gives.intro ⟨_, slice_fromI (e := 75) (n := 2) (by kernel_rfl) (by kernel_rfl) hmi (by omega) hst.2.1 hst.spot, ?_⟩)
      | (refine Gives.intro ⟨_, slice_toI (e := 75) (n := 2) (by kernel_rfl) (by kernel_rfl) hmi (by omega), ?_⟩)
      | (refine Does.mono hlg ?_ ; rintro _ H5 ⟨rfl, e5, w5⟩ ; obtain ⟨a9, c9, H9, happ, st9, e9, w9⟩ := hpush H5 e5 w5)
      | (refine ⟨_, hbs, ?_⟩)
      | (refine Outs.intro ⟨_, _, _, happ, ?_⟩)
      | (refine Need.intro (DrawP.intro (by kernel_rfl)) ?_)
      | fail)
    all_goals (conv => whnf)
    have hln : (ss.take hm ++ [(⟨sy, sn⟩ : Sz)]).length = hm + 1 := by rw [List.length_append, List.length_take, Nat.min_eq_left (by omega)]; rfl
    have hst10 : Stk Z H9 (rowV 75 2) 2 a9 (ss.take hm ++ [(⟨sy, sn⟩ : Sz)]).length c9 ((ss.take hm ++ [(⟨sy, sn⟩ : Sz)]).map Sz.cells) := by rw [hln, List.map_append, List.map_take]; exact st9
    exact ⟨(k + 1, ss.take hm ++ [⟨sy, sn⟩], a9, c9), ⟨rfl, rfl, rfl, by dsimp only; rw [hln]; rfl, rfl, trivial⟩, ⟨by show k + 1 ≤ n; omega, by dsimp only; rw [hln]; omega, e9, w9, hst10, by dsimp only; rw [hnext, hstep], fun s hs => by
      rcases List.mem_append.1 hs with h | h
      · exact hbd s (List.mem_of_mem_take h)
      · rw [List.mem_singleton.1 h]; exact hle⟩, by dsimp only; omega⟩
  · obtain rfl : k = n := by omega
    rw [List.take_of_length_le (by omega), hz] at hfold
    cases hfold
    obtain ⟨b, o, st, rfl, hc⟩ := hst.row.cell 0 z.cells rfl
    have g1 := e1.get H.next (by omega)
    rw [g0] at g1
    have hsc : 1 ≤ sc := hst.2.1
    obtain ⟨zy, zn⟩ := z
    repeat' ((conv => whnf); first
      | (refine Both.intro ?_ ?_ <;> intro _ <;> try (exfalso; omega))
      | (refine Need.intro (by omega) ?_)
      | (refine Need.intro (by simp; omega) ?_)
      | (refine ⟨_, hc, ?_⟩)
      | (refine Outs.intro ⟨_, _, _, storeAgg_ok (vs := [.int .i64 _, .int .i64 _]) (by kernel_rfl) rfl g1 rfl, ?_⟩)
      | (refine ⟨_, cellsAt_all (n := 2) (by rw [AHeap.get_set, if_pos rfl]) rfl, ?_⟩)
      | fail)
    all_goals (conv => whnf)
    exact ⟨rfl, (eZ.trans e1).set (Nat.le_refl _) _⟩
end Go.AX.Try
