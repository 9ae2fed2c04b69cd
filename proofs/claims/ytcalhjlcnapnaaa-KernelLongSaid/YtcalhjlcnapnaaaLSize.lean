/- kernel.long. -/
import Derived.Test.YtcalhjlcnapnaaaLPut
namespace Go.AX.Lw
open Go Go.AX
set_option linter.unusedVariables false
/-- Every effect but one leaves the memory as it is. -/
def effLast (j0 : Nat) : List (Nat × Ev) → Prop
  | [] => True
  | (j, .eff H H') :: r => (j = j0 ∨ H = H') ∧ effLast j0 r
  | _ :: r => effLast j0 r
/-- All that is looked at or made comes ahead of one effect. -/
def lastOk (ops : Array Oper) (j0 : Nat) : List (Nat × Ev) → Bool
  | [] => true
  | (i, .look _ _ _) :: r => orderedB ops i j0 && lastOk ops j0 r
  | (i, .make _ _) :: r => orderedB ops i j0 && lastOk ops j0 r
  | _ :: r => lastOk ops j0 r
theorem effLast_mem {j0 : Nat} : ∀ {l : List (Nat × Ev)}, effLast j0 l → ∀ j H H', (j, Ev.eff H H') ∈ l → j = j0 ∨ H = H'
  | [], _, _, _, _, h => by cases h
  | (i, e) :: r, h, j, H, H', hm => by
    cases e with
    | eff _ _ =>
      rcases List.mem_cons.1 hm with he | hm
      · cases he; exact h.1
      · exact effLast_mem h.2 j H H' hm
    | _ =>
      rcases List.mem_cons.1 hm with he | hm
      · cases he
      · exact effLast_mem (l := r) h j H H' hm
theorem lookMix_same {ops : Array Oper} {j : Nat} {H : AHeap} : ∀ {tr : List (Nat × Ev)}, lookMix ops j H H tr
  | [] => True.intro
  | (i, e) :: r => by
    cases e with
    | look b o n => exact ⟨.inr rfl, lookMix_same⟩
    | make b o => exact ⟨.inr (.inr rfl), lookMix_same⟩
    | _ => exact lookMix_same (tr := r)
theorem lookMix_last {ops : Array Oper} {j0 : Nat} {H H' : AHeap} : ∀ {tr : List (Nat × Ev)}, lastOk ops j0 tr = true → lookMix ops j0 H H' tr
  | [], _ => True.intro
  | (i, e) :: r, h => by
    cases e with
    | look b o n => simp only [lastOk, Bool.and_eq_true] at h; exact ⟨.inl h.1, lookMix_last h.2⟩
    | make b o => simp only [lastOk, Bool.and_eq_true] at h; exact ⟨.inr (.inl h.1), lookMix_last h.2⟩
    | _ => exact lookMix_last (tr := r) h
theorem draw_last {ops : Array Oper} {tr : List (Nat × Ev)} {j0 : Nat} (h : effLast j0 tr) (hk : lastOk ops j0 tr = true) : DrawP ops tr := by
  refine draw_mix ?_
  have : ∀ l : List (Nat × Ev), (∀ x ∈ l, x ∈ tr) → effMix ops tr l := by
    intro l
    induction l with
    | nil => intro _; exact True.intro
    | cons x r ih =>
      intro hx
      have hr := ih fun y hy => hx y (by simp [hy])
      obtain ⟨j, e⟩ := x
      cases e with
      | eff H H' =>
        refine ⟨?_, hr⟩
        rcases effLast_mem h j H H' (hx _ (by simp)) with rfl | rfl
        · exact lookMix_last hk
        · exact lookMix_same
      | _ => exact hr
  exact this tr fun _ h => h
end Go.AX.Lw
namespace Go.AX.Try
open Go Go.AX Go.AX.Lw Go.Proofs
set_option linter.unusedVariables false
set_option linter.unusedSimpArgs false
set_option maxRecDepth 100000
structure Sz where
  yes : Nat
  no : Nat
def Sz.cells (s : Sz) : List Value := [.int .i64 s.yes, .int .i64 s.no]
def longF (t : Tk) (a : List Sz) : Sz :=
  if t.op = 0 ∨ t.op = 1 ∨ t.op = 4 ∨ t.op = 5 then ⟨1, 1⟩ else
  if t.op = 2 then ⟨1, 2⟩ else
  if t.op = 3 then ⟨4, 4⟩ else
  match a with
  | [x] =>
    if t.op = 6 then ⟨x.no, x.yes⟩ else
    if t.op = 7 ∨ t.op = 8 then ⟨addF [x.yes], addF [x.no]⟩ else
    if t.op = 9 ∨ t.op = 10 then ⟨addF [1, x.yes], addF [1, x.no]⟩ else ⟨addF [x.yes], 0⟩
  | [x, y] =>
    if t.op = 11 ∨ t.op = 12 ∨ t.op = 15 ∨ t.op = 16 then ⟨addF [x.yes, y.yes], addF [x.no, y.no]⟩ else
    if t.op = 13 then ⟨addF [x.no, y.yes], addF [x.yes, y.no]⟩ else
    if t.op = 14 then ⟨addF [addF [x.yes, y.yes], addF [x.no, y.no]], addF [addF [x.yes, y.no], addF [x.no, y.yes]]⟩ else
    if t.op = 17 ∨ t.op = 18 then ⟨addF [x.yes, y.yes], addF [x.yes, y.no]⟩ else ⟨addF [x.yes, y.yes], 0⟩
  | _ => ⟨0, 0⟩
theorem add1 (X : AHeap) (x : Nat) (hx : x ≤ 2049) : Does Try.prog orc 135 [.slice (some ⟨X.next, 0, none⟩) 1 1] (X.push (.cells [.int .i64 x] 0 true)) fun r H' => r = .ret (.int .i64 (addF [x])) ∧ X.push (.cells [.int .i64 x] 0 true) = H' :=
  add_any _ _ 1 1 [x] (Row.of_block (get_new _ _) rfl (Nat.le_refl _) (List.prefix_refl _)) (by decide) (by intro z hz; simp at hz; omega)
theorem add2 (X : AHeap) (x y : Nat) (hx : x ≤ 2049) (hy : y ≤ 2049) : Does Try.prog orc 135 [.slice (some ⟨X.next, 0, none⟩) 2 2] (X.push (.cells [.int .i64 x, .int .i64 y] 0 true)) fun r H' => r = .ret (.int .i64 (addF [x, y])) ∧ X.push (.cells [.int .i64 x, .int .i64 y] 0 true) = H' :=
  add_any _ _ 2 2 [x, y] (Row.of_block (get_new _ _) rfl (Nat.le_refl _) (List.prefix_refl _)) (by decide) (by intro z hz; simp at hz; omega)
set_option maxHeartbeats 8000000 in
theorem long_any (H : AHeap) (hw : Wf H) (t : Tk) (hop : t.op ≤ 23) (a : Option Addr) (n c : Nat) (ss : List Sz) (hr : RowS H a n c 2 (ss.map Sz.cells)) (hn : n = takesF t.op) (hb : ∀ s ∈ ss, s.yes ≤ 2049 ∧ s.no ≤ 2049) :
    Does Try.prog orc 89 [.agg #[.int .u8 t.op, .int .u8 t.p], .slice a n c] H fun r H' => r = .ret (.agg (longF t ss).cells.toArray) ∧ Ext H H' ∧ Wf H' := by
  have hlen := hr.len; simp at hlen
  have hcap := hr.cap
  refine (Does.wf (Q := fun r H' => r = .ret (.agg (longF t ss).cells.toArray) ∧ Ext H H') ?_ hw).mono fun r H' ⟨⟨h1, h2⟩, h3⟩ => ⟨h1, h2, h3⟩
  have hz : zeroOf Try.prog 75 = some (.agg #[.int .i64 0, .int .i64 0]) := by kernel_rfl
  have hb2 : ∀ x y : Nat, aBuild Try.prog 75 [(0, .int .i64 x), (1, .int .i64 y)] = some (.agg #[.int .i64 x, .int .i64 y]) := fun x y => by kernel_rfl
  have hb1 : ∀ x : Nat, aBuild Try.prog 75 [(0, .int .i64 x)] = some (.agg #[.int .i64 x, .int .i64 0]) := fun x => by kernel_rfl
  have hs2 : ∀ x y : Nat, aBuildSlice Try.prog 54 2 [(0, .int .i64 x), (1, .int .i64 y)] = mkSlice [.int .i64 x, .int .i64 y] 2 2 := fun x y => by kernel_rfl
  have hs1 : ∀ x : Nat, aBuildSlice Try.prog 54 1 [(0, .int .i64 x)] = mkSlice [.int .i64 x] 1 1 := fun x => by kernel_rfl
  have hg2 : ((H.push (.cells t.cells 0 true)).push (.cells [.int .i64 0, .int .i64 0] (typedV 75) true)).get H.next = some (.cells t.cells 0 true) := by
    rw [AHeap.get_push, if_neg (by simp), get_new]
  have hg4 := get_new (H.push (.cells t.cells 0 true)) (.cells [.int .i64 0, .int .i64 0] (typedV 75) true)
  have he2 := (Ext.push H (.cells t.cells 0 true)).trans (Ext.push _ (.cells [.int .i64 0, .int .i64 0] (typedV 75) true))
  have c0 := cellAt_of hg2 (o := 0) (v := .int .u8 t.op) rfl
  have hgX : ∀ X, Ext ((H.push (.cells t.cells 0 true)).push (.cells [.int .i64 0, .int .i64 0] (typedV 75) true)) X → X.get (H.push (.cells t.cells 0 true)).next = some (.cells [.int .i64 0, .int .i64 0] (typedV 75) true) := fun X e => (e.get _ (by simp)).trans hg4
  refine Does.of Try.func89 (fun _ _ => rfl) rfl ?_
  obtain ⟨op, p⟩ := t
  dsimp only at hop hn c0 ⊢
  have hcase : (op = 0 ∨ op = 1 ∨ op = 2 ∨ op = 3 ∨ op = 4 ∨ op = 5) ∨ (op = 6 ∨ op = 7 ∨ op = 8 ∨ op = 9 ∨ op = 10 ∨ op = 19 ∨ op = 20 ∨ op = 23) ∨ (op = 11 ∨ op = 12 ∨ op = 13 ∨ op = 14 ∨ op = 15 ∨ op = 16 ∨ op = 17 ∨ op = 18 ∨ op = 21 ∨ op = 22) := by omega
  rcases hcase with hcase | hcase | hcase
  · rcases hcase with rfl | rfl | rfl | rfl | rfl | rfl
    repeat' ((conv => whnf); first
      | (refine Both.intro ?_ ?_ <;> intro _ <;> try (exfalso; omega))
      | (refine Need.intro (by omega) ?_)
      | (refine Gives.intro ⟨_, hz, ?_⟩)
      | (refine ⟨_, c0, ?_⟩)
      | (refine Gives.intro ⟨_, hb2 1 1, ?_⟩)
      | (refine Gives.intro ⟨_, hb2 1 2, ?_⟩)
      | (refine Gives.intro ⟨_, hb2 4 4, ?_⟩)
      | (refine Outs.intro ⟨_, _, _, storeAgg_ok (vs := [.int .i64 _, .int .i64 _]) (by kernel_rfl) rfl hg4 rfl, ?_⟩)
      | (refine ⟨_, cellsAt_all (n := 2) (by rw [AHeap.get_set, if_pos rfl]) rfl, ?_⟩)
      | fail)
    all_goals (conv => whnf)
    all_goals exact ⟨rfl, he2.set (by simp) _⟩
  · have h1 : takesF op = 1 := by rcases hcase with rfl | rfl | rfl | rfl | rfl | rfl | rfl | rfl <;> rfl
    rw [h1] at hn
    subst hn
    obtain ⟨x, rfl⟩ : ∃ x, ss = [x] := List.length_eq_one_iff.1 (by omega)
    obtain ⟨b, o, st, rfl, hc⟩ := hr.cell 0 x.cells rfl
    have bx := hb x (by simp)
    have by' := bx
    have cy : ∀ X, Ext H X → cellAt X b o = some (.int .i64 x.yes) := fun X e => cellAt_ext hw e (cellsAt_cell hc (j := 0) rfl)
    have cn : ∀ X, Ext H X → cellAt X b (o + 1) = some (.int .i64 x.no) := fun X e => cellAt_ext hw e (cellsAt_cell hc (j := 1) rfl)
    rcases hcase with rfl | rfl | rfl | rfl | rfl | rfl | rfl | rfl
    repeat' ((conv => whnf); first
      | (refine Both.intro ?_ ?_ <;> intro _ <;> try (exfalso; omega))
      | (refine Need.intro (by omega) ?_)
      | (refine Gives.intro ⟨_, hz, ?_⟩)
      | (refine ⟨_, c0, ?_⟩)
      | (refine ⟨_, cy _ (by repeat (first | exact he2 | refine Ext.trans ?_ (Ext.push _ _))), ?_⟩)
      | (refine ⟨_, cn _ (by repeat (first | exact he2 | refine Ext.trans ?_ (Ext.push _ _))), ?_⟩)
      | (refine ⟨_, hs1 _, ?_⟩)
      | (refine ⟨_, hs2 1 _, ?_⟩)
      | (refine ⟨_, hs2 _ _, ?_⟩)
      | (refine Does.mono (add1 _ _ (by first | exact bx.1 | exact bx.2 | exact by'.1 | exact by'.2 | exact addF_le _ | decide)) ?_ ; rintro _ _ ⟨rfl, rfl⟩)
      | (refine Does.mono (add2 _ _ _ (by first | exact bx.1 | exact bx.2 | exact by'.1 | exact by'.2 | exact addF_le _ | decide) (by first | exact bx.1 | exact bx.2 | exact by'.1 | exact by'.2 | exact addF_le _ | decide)) ?_ ; rintro _ _ ⟨rfl, rfl⟩)
      | (refine Gives.intro ⟨_, hb2 _ _, ?_⟩)
      | (refine Gives.intro ⟨_, hb1 _, ?_⟩)
      | (refine Need.intro (draw_last (by first | exact ⟨.inl rfl, True.intro⟩ | exact ⟨.inl rfl, .inr rfl, True.intro⟩ | exact ⟨.inl rfl, .inr rfl, .inr rfl, True.intro⟩ | exact ⟨.inl rfl, .inr rfl, .inr rfl, .inr rfl, .inr rfl, .inr rfl, .inr rfl, True.intro⟩) (by kernel_rfl)) ?_)
      | (refine Outs.intro ⟨_, _, _, storeAgg_ok (vs := [.int .i64 _, .int .i64 _]) (by kernel_rfl) rfl (hgX _ (by repeat (first | exact Ext.refl _ | refine Ext.trans ?_ (Ext.push _ _)))) rfl, ?_⟩)
      | (refine ⟨_, cellsAt_all (n := 2) (by rw [AHeap.get_set, if_pos rfl]) rfl, ?_⟩)
      | fail)
    all_goals (conv => whnf)
    all_goals exact ⟨rfl, Ext.set (by repeat (first | exact he2 | refine Ext.trans ?_ (Ext.push _ _))) (by simp) _⟩
  · have h1 : takesF op = 2 := by rcases hcase with rfl | rfl | rfl | rfl | rfl | rfl | rfl | rfl | rfl | rfl <;> rfl
    rw [h1] at hn
    subst hn
    obtain ⟨x, y, rfl⟩ : ∃ x y, ss = [x, y] := by match ss, hlen with | [x, y], _ => exact ⟨x, y, rfl⟩
    obtain ⟨b, o, st, rfl, hc⟩ := hr.cell 0 x.cells rfl
    obtain ⟨b', o', st', hbb, hd⟩ := hr.cell 1 y.cells rfl
    cases hbb
    have bx := hb x (by simp)
    have by' := hb y (by simp)
    have cy : ∀ X, Ext H X → cellAt X b o = some (.int .i64 x.yes) := fun X e => cellAt_ext hw e (cellsAt_cell hc (j := 0) rfl)
    have cn : ∀ X, Ext H X → cellAt X b (o + 1) = some (.int .i64 x.no) := fun X e => cellAt_ext hw e (cellsAt_cell hc (j := 1) rfl)
    have dy : ∀ X, Ext H X → cellAt X b (o + 2) = some (.int .i64 y.yes) := fun X e => cellAt_ext hw e (cellsAt_cell hd (j := 0) rfl)
    have dn : ∀ X, Ext H X → cellAt X b (o + 3) = some (.int .i64 y.no) := fun X e => cellAt_ext hw e (cellsAt_cell hd (j := 1) rfl)
    rcases hcase with rfl | rfl | rfl | rfl | rfl | rfl | rfl | rfl | rfl | rfl
    repeat' ((conv => whnf); first
      | (refine Both.intro ?_ ?_ <;> intro _ <;> try (exfalso; omega))
      | (refine Need.intro (by omega) ?_)
      | (refine Gives.intro ⟨_, hz, ?_⟩)
      | (refine ⟨_, c0, ?_⟩)
      | (refine ⟨_, cy _ (by repeat (first | exact he2 | refine Ext.trans ?_ (Ext.push _ _))), ?_⟩)
      | (refine ⟨_, cn _ (by repeat (first | exact he2 | refine Ext.trans ?_ (Ext.push _ _))), ?_⟩)
      | (refine ⟨_, dy _ (by repeat (first | exact he2 | refine Ext.trans ?_ (Ext.push _ _))), ?_⟩)
      | (refine ⟨_, dn _ (by repeat (first | exact he2 | refine Ext.trans ?_ (Ext.push _ _))), ?_⟩)
      | (refine ⟨_, hs1 _, ?_⟩)
      | (refine ⟨_, hs2 1 _, ?_⟩)
      | (refine ⟨_, hs2 _ _, ?_⟩)
      | (refine Does.mono (add1 _ _ (by first | exact bx.1 | exact bx.2 | exact by'.1 | exact by'.2 | exact addF_le _ | decide)) ?_ ; rintro _ _ ⟨rfl, rfl⟩)
      | (refine Does.mono (add2 _ _ _ (by first | exact bx.1 | exact bx.2 | exact by'.1 | exact by'.2 | exact addF_le _ | decide) (by first | exact bx.1 | exact bx.2 | exact by'.1 | exact by'.2 | exact addF_le _ | decide)) ?_ ; rintro _ _ ⟨rfl, rfl⟩)
      | (refine Gives.intro ⟨_, hb2 _ _, ?_⟩)
      | (refine Gives.intro ⟨_, hb1 _, ?_⟩)
      | (refine Need.intro (draw_last (by first | exact ⟨.inl rfl, True.intro⟩ | exact ⟨.inl rfl, .inr rfl, True.intro⟩ | exact ⟨.inl rfl, .inr rfl, .inr rfl, True.intro⟩ | exact ⟨.inl rfl, .inr rfl, .inr rfl, .inr rfl, .inr rfl, .inr rfl, .inr rfl, True.intro⟩) (by kernel_rfl)) ?_)
      | (refine Outs.intro ⟨_, _, _, storeAgg_ok (vs := [.int .i64 _, .int .i64 _]) (by kernel_rfl) rfl (hgX _ (by repeat (first | exact Ext.refl _ | refine Ext.trans ?_ (Ext.push _ _)))) rfl, ?_⟩)
      | (refine ⟨_, cellsAt_all (n := 2) (by rw [AHeap.get_set, if_pos rfl]) rfl, ?_⟩)
      | fail)
    all_goals (conv => whnf)
    all_goals exact ⟨rfl, Ext.set (by repeat (first | exact he2 | refine Ext.trans ?_ (Ext.push _ _))) (by simp) _⟩
end Go.AX.Try
