/- kernel.Check: what it answers hangs on the tokens alone. -/
import Derived.Test.YtcalhjlcnapnaaaLStk
namespace Go.AX.Try
open Go Go.AX Go.AX.Lw Go.Proofs
set_option linter.unusedVariables false
set_option maxRecDepth 100000
theorem sortTy : AppTyS Try.prog #[87, 87] 89 3 3 where
  t0 := by kernel_rfl
  t1 := by kernel_rfl
  size := by kernel_rfl
  bytes := by kernel_rfl
  pos := by decide
  szp := by decide
  szl := by decide
  zero := ⟨.agg #[.bool false, .bool false, .bool false], by kernel_rfl, rfl⟩
theorem takesF_le (op : Nat) : takesF op ≤ 2 := by unfold takesF; split <;> (try split) <;> omega
def stepS (st : Option (List So)) (t : Tk) : Option (List So) :=
  match st with
  | none => none
  | some ss =>
    if ss.length < takesF t.op then none else
    if (wordF t (ss.drop (ss.length - takesF t.op))).2 then some (ss.take (ss.length - takesF t.op) ++ [(wordF t (ss.drop (ss.length - takesF t.op))).1]) else none
def checkF (ts : List Tk) : Nat :=
  if 2048 < ts.length then 3 else
  match ts.foldl stepS (some []) with
  | some [s] => if s.path then 7 else 0
  | _ => 7
theorem foldS_none (ts : List Tk) : ts.foldl stepS none = none := by
  induction ts with
  | nil => rfl
  | cons t r ih => exact ih
theorem check_any (H : AHeap) (hw : Wf H) (a : Option Addr) (n c : Nat) (ts : List Tk) (hr : RowS H a n c 2 (ts.map Tk.cells)) (hn : n ≤ 2 ^ 60) :
    Does Try.prog orc 27 [.slice a n c] H fun r H' => r = .ret (.int .i64 (checkF ts)) ∧ Ext H H' ∧ Wf H' := by
  have hlen := hr.len; simp at hlen
  have hcap := hr.cap
  refine (Does.wf (Q := fun r H' => r = .ret (.int .i64 (checkF ts)) ∧ Ext H H') ?_ hw).mono fun r H' ⟨⟨h1, h2⟩, h3⟩ => ⟨h1, h2, h3⟩
  refine Does.of Try.func27 (fun _ _ => rfl) rfl ?_
  repeat' ((conv => whnf); first
    | (refine Both.intro ?_ ?_ <;> intro _ <;> try (exfalso; omega))
    | (refine Need.intro (by omega) ?_)
    | fail)
  all_goals (conv => whnf)
  · exact ⟨by unfold checkF; rw [if_pos (by omega)]; rfl, Ext.refl _⟩
  refine Runs.loop (fun x : Nat × List So × Option Addr × Nat => [(14, .int .i64 x.1), (13, .int .i64 n), (12, .slice a n c), (3, .slice x.2.2.1 x.2.1.length x.2.2.2)])
    (fun x H' => x.1 ≤ n ∧ x.2.1.length ≤ x.1 ∧ Ext H H' ∧ Wf H' ∧ Stk H H' (rowV 89 3) 3 x.2.2.1 x.2.1.length x.2.2.2 (x.2.1.map So.cells) ∧ (ts.take x.1).foldl stepS (some []) = some x.2.1) (fun x => n - x.1) (0, [], none, 0)
    ⟨rfl, rfl, rfl, rfl, trivial⟩ ⟨by omega, by simp, Ext.refl _, hw, Stk.nil _ _ _ _, rfl⟩ ?_
  rintro ⟨k, ss, sa, sc⟩ H1 ⟨hk, hsk, e1, w1, hst, hfold⟩
  dsimp only at hk hsk hst hfold
  show vc _ _ _ _ _ [(14, .int .i64 k), (13, .int .i64 n), (12, .slice a n c), (3, .slice sa ss.length sc)] _ _
  by_cases hlt : k < n
  · obtain ⟨t, ht⟩ := get_of (l := ts) (k := k) (by omega)
    have hr1 := hr.ext hw e1
    obtain ⟨b, o, st, rfl, hcell⟩ := hr1.cell k t.cells (by simp [ht])
    have g2 := get_new H1 (.cells [.int .u8 0, .int .u8 0] (typedV 46) true)
    have w2 := w1.push (.cells [.int .u8 0, .int .u8 0] (typedV 46) true)
    have g3 : ((H1.push (.cells [.int .u8 0, .int .u8 0] (typedV 46) true)).set H1.next (.cells t.cells (typedV 46) true)).get H1.next = some (.cells t.cells (typedV 46) true) := by rw [AHeap.get_set, if_pos rfl]
    have w3 := w2.set g2 (.cells t.cells (typedV 46) true)
    have e3 := ((Ext.refl H1).trans (Ext.push H1 (.cells [.int .u8 0, .int .u8 0] (typedV 46) true))).set (Nat.le_refl _) (.cells t.cells (typedV 46) true)
    have q0 := cellAt_of g3 (o := 0) (v := .int .u8 t.op) rfl
    have qa := cellsAt_all (n := 2) g3 rfl
    have hT := takesF_le t.op
    have hnext : (ts.take (k + 1)).foldl stepS (some []) = stepS (some ss) t := by
      rw [List.take_add_one, ht, List.foldl_append, hfold]; rfl
    have hall : ts.foldl stepS (some []) = (ts.drop (k + 1)).foldl stepS (stepS (some ss) t) := by
      rw [← hnext, ← List.foldl_append, List.take_append_drop]
    by_cases hneg : ss.length < takesF t.op
    · skip
      repeat' ((conv => whnf); first
        | (refine Both.intro ?_ ?_ <;> intro _ <;> try (exfalso; omega))
        | (refine Need.intro (by omega) ?_)
        | (refine ⟨_, hcell, ?_⟩)
        | (refine Gives.intro ⟨.agg #[.int .u8 _, .int .u8 _], rfl, ?_⟩)
        | (refine Outs.intro ⟨_, _, _, storeAgg_ok (vs := [.int .u8 _, .int .u8 _]) (by kernel_rfl) rfl g2 rfl, ?_⟩)
        | (refine Gives.intro ⟨.pointer (some ⟨_, 0 + 0, none⟩), rfl, ?_⟩)
        | (refine ⟨_, q0, ?_⟩)
        | (refine Does.mono (takes_any _ t.op) ?_ ; rintro _ H' ⟨rfl, rfl⟩)
        | fail)
      all_goals (conv => whnf)
      exact ⟨by unfold checkF; rw [if_neg (by omega), hall]; simp only [stepS, if_pos hneg, foldS_none]; rfl, e1.trans e3⟩
    · have hsc := hst.2.1
      have hst3 := hst.ext w1 e3
      have hrest := hst3.rest (m := ss.length - takesF t.op) (by omega)
      rw [← List.map_drop] at hrest
      have hwd := word_any _ w3 t _ _ _ (ss.drop (ss.length - takesF t.op)) hrest (by omega) (by omega)
      obtain ⟨p, hp⟩ : ∃ p, p = wordF t (ss.drop (ss.length - takesF t.op)) := ⟨_, rfl⟩
      have hstep : stepS (some ss) t = if p.2 then some (ss.take (ss.length - takesF t.op) ++ [p.1]) else none := by
        rw [hp]; simp only [stepS, if_neg hneg]
      rw [← hp] at hwd
      obtain ⟨s, ok⟩ := p
      obtain ⟨hm, hhm⟩ : ∃ m, m = ss.length - takesF t.op := ⟨_, rfl⟩
      have hmi : ((ss.length : Int) - (takesF t.op : Int)) = (hm : Int) := by omega
      rw [← hhm] at hwd hstep
      cases ok
      · skip
        repeat' ((conv => whnf); first
          | (refine Both.intro ?_ ?_ <;> intro _ <;> try (exfalso; omega))
          | (refine Need.intro (by omega) ?_)
          | (refine ⟨_, hcell, ?_⟩)
          | (refine Gives.intro ⟨.agg #[.int .u8 _, .int .u8 _], rfl, ?_⟩)
          | (refine Outs.intro ⟨_, _, _, storeAgg_ok (vs := [.int .u8 _, .int .u8 _]) (by kernel_rfl) rfl g2 rfl, ?_⟩)
          | (refine Gives.intro ⟨.pointer (some ⟨_, 0 + 0, none⟩), rfl, ?_⟩)
          | (refine ⟨_, q0, ?_⟩)
          | (refine Does.mono (takes_any _ t.op) ?_ ; rintro _ H' ⟨rfl, rfl⟩)
          | (refine ⟨_, qa, ?_⟩)
          | (refine Gives.intro ⟨_, slice_fromI (e := 89) (n := 3) (by kernel_rfl) (by kernel_rfl) hmi (by omega) hst.2.1 hst.spot, ?_⟩)
          | (refine Does.mono hwd ?_ ; rintro _ H5 ⟨rfl, e5, w5⟩)
          | fail)
        all_goals (conv => whnf)
        obtain ⟨sp, sl, sr⟩ := s
        have g6 := get_new H5 (.cells no.cells (typedV 89) true)
        have w6 := w5.push (.cells no.cells (typedV 89) true)
        have w7 := w6.set g6 (.cells [.bool sp, .bool sl, .bool sr] (typedV 89) true)
        have e7 : Ext H ((H5.push (.cells no.cells (typedV 89) true)).set H5.next (.cells [.bool sp, .bool sl, .bool sr] (typedV 89) true)) := (((e1.trans e3).trans e5).trans (Ext.push H5 _)).set (((e1.trans e3).trans e5).next) _
        have hz : zeroOf Try.prog 89 = some (.agg #[.bool false, .bool false, .bool false]) := by kernel_rfl
        have hbs : aBuildSlice Try.prog 87 1 [(0, .agg #[.bool sp, .bool sl, .bool sr])] = mkSlice [.bool sp, .bool sl, .bool sr] 1 1 := by kernel_rfl
        repeat' ((conv => whnf); first
          | (refine Both.intro ?_ ?_ <;> intro _ <;> try (exfalso; omega))
          | (refine Need.intro (by omega) ?_)
          | (refine Gives.intro ⟨_, hz, ?_⟩)
          | (refine ⟨_, hbs, ?_⟩)
          | (refine Outs.intro ⟨_, _, _, storeAgg_ok (vs := [.bool _, .bool _, .bool _]) (by kernel_rfl) rfl g6 rfl, ?_⟩)
          | (refine Need.intro (DrawP.intro (by kernel_rfl)) ?_)
          | (refine ⟨_, cellsAt_all (n := 3) (by rw [AHeap.get_set, if_pos rfl]) rfl, ?_⟩)
          | (refine Gives.intro ⟨_, slice_toI (e := 89) (n := 3) (by kernel_rfl) (by kernel_rfl) hmi (by omega), ?_⟩)
          | (refine Gives.intro ⟨.agg #[.bool _, .bool _, .bool _], rfl, ?_⟩)
          | fail)
        all_goals (conv => whnf)
        exact ⟨by unfold checkF; rw [if_neg (by omega), hall, hstep]; simp only [Bool.false_eq_true, if_false, foldS_none]; rfl, e7⟩
      · skip
        repeat' ((conv => whnf); first
          | (refine Both.intro ?_ ?_ <;> intro _ <;> try (exfalso; omega))
          | (refine Need.intro (by omega) ?_)
          | (refine ⟨_, hcell, ?_⟩)
          | (refine Gives.intro ⟨.agg #[.int .u8 _, .int .u8 _], rfl, ?_⟩)
          | (refine Outs.intro ⟨_, _, _, storeAgg_ok (vs := [.int .u8 _, .int .u8 _]) (by kernel_rfl) rfl g2 rfl, ?_⟩)
          | (refine Gives.intro ⟨.pointer (some ⟨_, 0 + 0, none⟩), rfl, ?_⟩)
          | (refine ⟨_, q0, ?_⟩)
          | (refine Does.mono (takes_any _ t.op) ?_ ; rintro _ H' ⟨rfl, rfl⟩)
          | (refine ⟨_, qa, ?_⟩)
          | (refine Gives.intro ⟨_, slice_fromI (e := 89) (n := 3) (by kernel_rfl) (by kernel_rfl) hmi (by omega) hst.2.1 hst.spot, ?_⟩)
          | (refine Does.mono hwd ?_ ; rintro _ H5 ⟨rfl, e5, w5⟩)
          | fail)
        all_goals (conv => whnf)
        obtain ⟨sp, sl, sr⟩ := s
        have g6 := get_new H5 (.cells no.cells (typedV 89) true)
        have w6 := w5.push (.cells no.cells (typedV 89) true)
        have w7 := w6.set g6 (.cells [.bool sp, .bool sl, .bool sr] (typedV 89) true)
        have e7 : Ext H ((H5.push (.cells no.cells (typedV 89) true)).set H5.next (.cells [.bool sp, .bool sl, .bool sr] (typedV 89) true)) := (((e1.trans e3).trans e5).trans (Ext.push H5 _)).set (((e1.trans e3).trans e5).next) _
        have hz : zeroOf Try.prog 89 = some (.agg #[.bool false, .bool false, .bool false]) := by kernel_rfl
        have hbs : aBuildSlice Try.prog 87 1 [(0, .agg #[.bool sp, .bool sl, .bool sr])] = mkSlice [.bool sp, .bool sl, .bool sr] 1 1 := by kernel_rfl
        have hst7 : Stk H _ (rowV 89 3) 3 sa ss.length sc (ss.map So.cells) := ((hst3.ext w3 e5).ext w5 (((Ext.refl H5).trans (Ext.push H5 (.cells no.cells (typedV 89) true))).set (Nat.le_refl _) (.cells [.bool sp, .bool sl, .bool sr] (typedV 89) true))).ext w7 (Ext.push _ (.cells [.bool sp, .bool sl, .bool sr] 0 true))
        obtain ⟨a', c', H9, happ, hst9, e9, w9, n9, hk9⟩ := stk_push (e7.trans (Ext.push _ _)) (w7.push _) sortTy hst7 (m := hm) (by omega) (srcS (get_new _ _) rfl) rfl rfl (by omega) (by omega)
        repeat' ((conv => whnf); first
          | (refine Both.intro ?_ ?_ <;> intro _ <;> try (exfalso; omega))
          | (refine Need.intro (by omega) ?_)
          | (refine Gives.intro ⟨_, hz, ?_⟩)
          | (refine ⟨_, hbs, ?_⟩)
          | (refine Outs.intro ⟨_, _, _, storeAgg_ok (vs := [.bool _, .bool _, .bool _]) (by kernel_rfl) rfl g6 rfl, ?_⟩)
          | (refine Need.intro (DrawP.intro (by kernel_rfl)) ?_)
          | (refine ⟨_, cellsAt_all (n := 3) (by rw [AHeap.get_set, if_pos rfl]) rfl, ?_⟩)
          | (refine Gives.intro ⟨_, slice_toI (e := 89) (n := 3) (by kernel_rfl) (by kernel_rfl) hmi (by omega), ?_⟩)
          | (refine Gives.intro ⟨.agg #[.bool _, .bool _, .bool _], rfl, ?_⟩)
          | (refine Outs.intro ⟨_, _, _, happ, ?_⟩)
          | fail)
        all_goals (conv => whnf)
        have hln : (ss.take hm ++ [(⟨sp, sl, sr⟩ : So)]).length = hm + 1 := by rw [List.length_append, List.length_take, Nat.min_eq_left (by omega)]; rfl
        have hst10 : Stk H H9 (rowV 89 3) 3 a' (ss.take hm ++ [(⟨sp, sl, sr⟩ : So)]).length c' ((ss.take hm ++ [(⟨sp, sl, sr⟩ : So)]).map So.cells) := by rw [hln, List.map_append, List.map_take]; exact hst9
        exact ⟨(k + 1, ss.take hm ++ [⟨sp, sl, sr⟩], a', c'), ⟨rfl, rfl, rfl, by dsimp only; rw [hln]; rfl, trivial⟩, ⟨by show k + 1 ≤ n; omega, by dsimp only; rw [hln]; omega, e9, w9, hst10, by dsimp only; rw [hnext, hstep]; rfl⟩, by dsimp only; omega⟩
  · obtain rfl : k = n := by omega
    rw [List.take_of_length_le (by omega)] at hfold
    obtain ⟨m, hm⟩ : ∃ m, m = ss.length := ⟨_, rfl⟩
    rw [← hm] at hst ⊢
    rcases ss with _ | ⟨s, _ | ⟨s2, r⟩⟩ <;> simp at hm
    · skip
      repeat' ((conv => whnf); first
        | (refine Both.intro ?_ ?_ <;> intro _ <;> try (exfalso; omega))
        | (refine Need.intro (by omega) ?_)
        | fail)
      all_goals (conv => whnf)
      exact ⟨by unfold checkF; rw [if_neg (by omega), hfold]; rfl, e1⟩
    · obtain ⟨b, o, st, rfl, hc⟩ := hst.row.cell 0 s.cells rfl
      have c0 := cellsAt_cell hc (j := 0) (v := .bool s.path) rfl
      obtain ⟨sp, sl, sr⟩ := s
      have hsc := hst.2.1
      cases sp
      all_goals
        repeat' ((conv => whnf); first
          | (refine Both.intro ?_ ?_ <;> intro _ <;> try (exfalso; omega))
          | (refine Need.intro (by omega) ?_)
          | (refine Gives.intro ⟨.pointer (some ⟨b, o + 0 * 3 + 0, none⟩), rfl, ?_⟩)
          | (refine ⟨_, c0, ?_⟩)
          | fail)
        all_goals (conv => whnf)
        exact ⟨by unfold checkF; rw [if_neg (by omega), hfold]; rfl, e1⟩
    · skip
      repeat' ((conv => whnf); first
        | (refine Both.intro ?_ ?_ <;> intro _ <;> try (exfalso; omega))
        | (refine Need.intro (by omega) ?_)
        | fail)
      all_goals (conv => whnf)
      exact ⟨by unfold checkF; rw [if_neg (by omega), hfold]; rfl, e1⟩
end Go.AX.Try
