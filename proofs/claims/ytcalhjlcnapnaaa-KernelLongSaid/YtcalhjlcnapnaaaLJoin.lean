/- kernel.join. -/
import Derived.Test.YtcalhjlcnapnaaaLLeaf
namespace Go.AX.Lw
open Go Go.AX
set_option linter.unusedVariables false
/-- Every effect but one leaves the blocks below N as they are. -/
def effOld (N j0 : Nat) : List (Nat × Ev) → Prop
  | [] => True
  | (j, .eff H H') :: r => (j = j0 ∨ ∀ b, b < N → H'.get b = H.get b) ∧ effOld N j0 r
  | _ :: r => effOld N j0 r
/-- All looks lie below N. -/
def lookOld (N : Nat) : List (Nat × Ev) → Prop
  | [] => True
  | (_, .look b _ _) :: r => b < N ∧ lookOld N r
  | _ :: r => lookOld N r
/-- What is made is made ahead of the effects in order, or behind them. -/
def makeOk (ops : Array Oper) (j : Nat) : List (Nat × Ev) → Bool
  | [] => true
  | (i, .make _ _) :: r => (!(Nat.blt i j) || orderedB ops i j) && makeOk ops j r
  | _ :: r => makeOk ops j r
def makesOk (ops : Array Oper) (tr : List (Nat × Ev)) : List (Nat × Ev) → Bool
  | [] => true
  | (j, .eff _ _) :: r => makeOk ops j tr && makesOk ops tr r
  | _ :: r => makesOk ops tr r
theorem lookMix_old {ops : Array Oper} {N j : Nat} {H H' : AHeap} (h : ∀ b, b < N → H'.get b = H.get b) : ∀ {tr : List (Nat × Ev)}, lookOld N tr → makeOk ops j tr = true → lookMix ops j H H' tr
  | [], _, _ => True.intro
  | (i, e) :: r, hl, hm => by
    cases e with
    | look b o n => exact ⟨.inr (by unfold cellsAt; rw [h b hl.1]), lookMix_old h hl.2 hm⟩
    | make b o =>
      simp only [makeOk, Bool.and_eq_true, Bool.or_eq_true, Bool.not_eq_true'] at hm
      refine ⟨?_, lookMix_old h hl hm.2⟩
      rcases hm.1 with h1 | h1
      · exact .inl h1
      · exact .inr (.inl h1)
    | _ => exact lookMix_old (tr := r) h hl hm
theorem effOld_mem {N j0 : Nat} : ∀ {l : List (Nat × Ev)}, effOld N j0 l → ∀ j H H', (j, Ev.eff H H') ∈ l → j = j0 ∨ ∀ b, b < N → H'.get b = H.get b
  | [], _, _, _, _, h => by cases h
  | (i, e) :: r, h, j, H, H', hm => by
    cases e with
    | eff _ _ =>
      rcases List.mem_cons.1 hm with he | hm
      · cases he; exact h.1
      · exact effOld_mem h.2 j H H' hm
    | _ =>
      rcases List.mem_cons.1 hm with he | hm
      · cases he
      · exact effOld_mem (l := r) h j H H' hm
theorem makesOk_mem {ops : Array Oper} {tr : List (Nat × Ev)} : ∀ {l : List (Nat × Ev)}, makesOk ops tr l = true → ∀ j H H', (j, Ev.eff H H') ∈ l → makeOk ops j tr = true
  | [], _, _, _, _, h => by cases h
  | (i, e) :: r, h, j, H, H', hm => by
    cases e with
    | eff _ _ =>
      simp only [makesOk, Bool.and_eq_true] at h
      rcases List.mem_cons.1 hm with he | hm
      · cases he; exact h.1
      · exact makesOk_mem h.2 j H H' hm
    | _ =>
      rcases List.mem_cons.1 hm with he | hm
      · cases he
      · exact makesOk_mem (l := r) h j H H' hm
/-- A drawn region whose effects but the last keep all that is looked at. -/
theorem draw_old {ops : Array Oper} {tr : List (Nat × Ev)} {N j0 : Nat} (h : effOld N j0 tr) (hl : lookOld N tr) (hk : lastOk ops j0 tr = true) (hm : makesOk ops tr tr = true) : DrawP ops tr := by
  refine draw_mix ?_
  have : ∀ l : List (Nat × Ev), (∀ x ∈ l, x ∈ tr) → effMix ops tr l := by
    intro l
    induction l with
    | nil => intro _; exact True.intro
    | cons x r ih =>
      intro hx
      have hr := ih fun y hy => hx y (by simp [hy])
      obtain ⟨j, e⟩ := x
      cases e with
      | eff H H' =>
        refine ⟨?_, hr⟩
        rcases effOld_mem h j H H' (hx _ (by simp)) with rfl | ho
        · exact lookMix_last hk
        · exact lookMix_old ho hl (makesOk_mem hm j H H' (hx _ (by simp)))
      | _ => exact hr
  exact this tr fun _ h => h
end Go.AX.Lw
namespace Go.AX.Try
open Go Go.AX Go.AX.Lw Go.Proofs
set_option linter.unusedVariables false
set_option linter.unusedSimpArgs false
set_option maxRecDepth 100000
/-- A token behind two parts. -/
def put2 (op : Nat) (a b : List Tk) : List Tk := a ++ b ++ [opT op]
def joinP (op : Nat) (a : List Pr) : Pr :=
  match a with
  | [x] =>
    if op = 6 then ⟨x.no, x.yes⟩ else
    if op = 7 ∨ op = 8 then ⟨x.yes ++ [opT op], x.no ++ [opT (dualF op)]⟩ else
    if op = 9 then ⟨put2 15 [opT 0] x.yes, put2 16 [opT 1] x.no⟩ else
    if op = 10 then ⟨put2 16 [opT 1] x.yes, put2 15 [opT 0] x.no⟩ else ⟨x.yes ++ [opT op], []⟩
  | [x, y] =>
    if op = 11 ∨ op = 12 ∨ op = 15 ∨ op = 16 then ⟨put2 op x.yes y.yes, put2 (dualF op) x.no y.no⟩ else
    if op = 13 then ⟨put2 12 x.no y.yes, put2 11 x.yes y.no⟩ else
    if op = 14 then ⟨put2 12 (put2 11 x.yes y.yes) (put2 11 x.no y.no), put2 12 (put2 11 x.yes y.no) (put2 11 x.no y.yes)⟩ else
    if op = 17 ∨ op = 18 then ⟨put2 op x.yes y.yes, put2 (dualF op) x.yes y.no⟩ else ⟨put2 op x.yes y.yes, []⟩
  | _ => ⟨[], []⟩
theorem putOne (S : Nat → Prop) (X : AHeap) (w : Wf X) (op : Nat) (v : Value) (l : List Tk) (hf : FmS S X v l) (hm : l.length ≤ 2 ^ 19) : Does Try.prog orc 137 [.int .u8 op, .slice (some ⟨X.next, 0, none⟩) 1 1] (X.push (.cells [v] 0 true)) fun r H' => ∃ a n c, r = .ret (.slice a n c) ∧ FmS (New X H') H' (.slice a n c) (l ++ [opT op]) ∧ Ext X H' ∧ Wf H' := by
  have h := put_any (X.push (.cells [v] 0 true)) (w.push _) op (some ⟨X.next, 0, none⟩) 1 1 [v] [l] (Row.of_block (get_new _ _) rfl (Nat.le_refl _) (List.prefix_refl _)) rfl (by decide) (fun j x y hx hy => by
    match j with
    | 0 => cases hx; cases hy; exact hf.fm.ext w (Ext.push _ _)
    | j + 1 => simp at hx) (by simp; omega)
  refine h.mono fun r H' ⟨u, h1, h2, h3, h4⟩ => ?_
  obtain ⟨a', n', c', rfl, h5⟩ : ∃ a n c, u = .slice a n c ∧ True := by obtain ⟨a, n, c, e, _⟩ := h2; exact ⟨a, n, c, e, True.intro⟩
  refine ⟨a', n', c', h1, ?_, (Ext.push _ _).trans h3, h4⟩
  have : ([l].flatten ++ [opT op]) = l ++ [opT op] := by simp
  rw [this] at h2
  exact h2.wide (fun _ _ => rfl) fun b hb => ⟨by have := hb.1; simp at this; omega, hb.2⟩
theorem putTwo (S : Nat → Prop) (X : AHeap) (w : Wf X) (op : Nat) (v u : Value) (l m : List Tk) (hf : FmS S X v l) (hg : FmS S X u m) (hm : l.length ≤ 2 ^ 18) (hm2 : m.length ≤ 2 ^ 18) : Does Try.prog orc 137 [.int .u8 op, .slice (some ⟨X.next, 0, none⟩) 2 2] (X.push (.cells [v, u] 0 true)) fun r H' => ∃ a n c, r = .ret (.slice a n c) ∧ FmS (New X H') H' (.slice a n c) (put2 op l m) ∧ Ext X H' ∧ Wf H' := by
  have h := put_any (X.push (.cells [v, u] 0 true)) (w.push _) op (some ⟨X.next, 0, none⟩) 2 2 [v, u] [l, m] (Row.of_block (get_new _ _) rfl (Nat.le_refl _) (List.prefix_refl _)) rfl (by decide) (fun j x y hx hy => by
    match j with
    | 0 => cases hx; cases hy; exact hf.fm.ext w (Ext.push _ _)
    | 1 => cases hx; cases hy; exact hg.fm.ext w (Ext.push _ _)
    | j + 2 => simp at hx) (by simp; omega)
  refine h.mono fun r H' ⟨u, h1, h2, h3, h4⟩ => ?_
  obtain ⟨a', n', c', rfl, h5⟩ : ∃ a n c, u = .slice a n c ∧ True := by obtain ⟨a, n, c, e, _⟩ := h2; exact ⟨a, n, c, e, True.intro⟩
  refine ⟨a', n', c', h1, ?_, (Ext.push _ _).trans h3, h4⟩
  have : ([l, m].flatten ++ [opT op]) = put2 op l m := by simp [put2]
  rw [this] at h2
  exact h2.wide (fun _ _ => rfl) fun b hb => ⟨by have := hb.1; simp at this; omega, hb.2⟩
theorem effP {X H' : AHeap} {o : AObj} {N : Nat} (e : Ext X H') (hN : N ≤ X.next) : ∀ b, b < N → H'.get b = (X.push o).get b := fun b hb => by
  rw [e.get b (by omega), AHeap.get_push, if_neg (by omega)]
theorem effE {X H' : AHeap} {N : Nat} (e : Ext X H') (hN : N ≤ X.next) : ∀ b, b < N → H'.get b = X.get b := fun b hb => e.get b (by omega)
/-- Both forms of a part, in blocks of a set. -/
def PrC (S : Nat → Prop) (H : AHeap) (v1 v2 : Value) (x : Pr) : Prop := FmS S H v1 x.yes ∧ FmS S H v2 x.no
theorem finP {S : Nat → Prop} {H Y Z : AHeap} {o o' : AObj} (hS : ∀ b, S b → b < H.next) (eY : Ext H Y) (hn : H.next < Y.next) (wZ : Wf Z) (eZ : Ext Y Z) (gZ : Z.get H.next = some o) {v1 v2 : Value} {x : Pr} (f1 : FmS (SNew S Y Z) Z v1 x.yes) (f2 : FmS (SNew S Y Z) Z v2 x.no) :
    PrS (SNew S H (Z.set H.next o')) (Z.set H.next o') (.agg #[v1, v2]) x ∧ Ext H (Z.set H.next o') ∧ Wf (Z.set H.next o') := by
  have hk : ∀ b, SNew S Y Z b → (Z.set H.next o').get b = Z.get b := fun b hb => by
    rw [AHeap.get_set, if_neg]
    rcases hb with hb | hb
    · have := hS b hb; omega
    · omega
  have hs : ∀ b, SNew S Y Z b → SNew S H (Z.set H.next o') b := fun b hb => by
    rcases hb with hb | hb
    · exact .inl hb
    · exact .inr ⟨by omega, by simpa using hb.2⟩
  exact ⟨⟨_, _, rfl, f1.wide hk hs, f2.wide hk hs⟩, (eY.trans eZ).set (Nat.le_refl _) _, wZ.set gZ _⟩
-- GENJOIN
theorem fmS_nil (S : Nat → Prop) (H : AHeap) : FmS S H (.slice none 0 0) [] := ⟨_, _, _, rfl, ⟨rfl, Nat.le_refl _, by simp, by simp⟩, fun b o s h => by cases h⟩
set_option maxHeartbeats 8000000 in
theorem join1_any (S : Nat → Prop) (H : AHeap) (hw : Wf H) (op : Nat) (a : Option Addr) (n c : Nat) (v1 v2 : Value) (x : Pr) (hS : ∀ b, S b → b < H.next) (hr : RowS H a n c 2 [[v1, v2]]) (hv : PrC S H v1 v2 x) (hn : takesF op = 1) (hop : op ≤ 23) (hb : x.yes.length ≤ 2 ^ 16 ∧ x.no.length ≤ 2 ^ 16) :
    Does Try.prog orc 91 [.int .u8 op, .slice a n c] H fun r H' => ∃ v, r = .ret v ∧ PrS (SNew S H H') H' v (joinP op [x]) ∧ Ext H H' ∧ Wf H' := by
  have hlen := hr.len; simp at hlen
  have hcap := hr.cap
  subst hlen
  refine Does.of Try.func91 (fun _ _ => rfl) rfl ?_
  have hz : zeroOf Try.prog 78 = some (.agg #[.slice none 0 0, .slice none 0 0]) := by kernel_rfl
  have hs1 : ∀ x p : Nat, aBuildSlice Try.prog 22 1 [(0, .agg #[.int .u8 x, .int .u8 p])] = mkSlice [.int .u8 x, .int .u8 p] 1 1 := fun x p => by kernel_rfl
  have hm1 : ∀ (a : Option Addr) (n c : Nat), aBuildSlice Try.prog 43 1 [(0, .slice a n c)] = mkSlice [.slice a n c] 1 1 := fun a n c => by kernel_rfl
  have hm2 : ∀ (a b : Option Addr) (n m c d : Nat), aBuildSlice Try.prog 43 2 [(0, .slice a n c), (1, .slice b m d)] = mkSlice [.slice a n c, .slice b m d] 2 2 := fun a b n m c d => by kernel_rfl
  have hb2 : ∀ (a b : Option Addr) (n m c d : Nat), aBuild Try.prog 78 [(0, .slice a n c), (1, .slice b m d)] = some (.agg #[.slice a n c, .slice b m d]) := fun a b n m c d => by kernel_rfl
  have hb1 : ∀ (a : Option Addr) (n c : Nat), aBuild Try.prog 78 [(0, .slice a n c)] = some (.agg #[.slice a n c, .slice none 0 0]) := fun a n c => by kernel_rfl
  obtain ⟨b, o, st, rfl, hc⟩ := hr.cell 0 [v1, v2] rfl
  have hbl : b < H.next := cellAt_lt hw (cellsAt_cell hc (j := 0) rfl)
  obtain ⟨hy, hno⟩ := hv
  have hy' := hy
  have hno' := hno
  obtain ⟨a1, n1, c1, rfl, hy1, hy2⟩ := hy'
  obtain ⟨a2, n2, c2, rfl, hno1, hno2⟩ := hno'
  have cy : ∀ X, Ext H X → cellAt X b o = some (.slice a1 n1 c1) := fun X e => cellAt_ext hw e (cellsAt_cell hc (j := 0) rfl)
  have cn : ∀ X, Ext H X → cellAt X b (o + 1) = some (.slice a2 n2 c2) := fun X e => cellAt_ext hw e (cellsAt_cell hc (j := 1) rfl)
  have PRE : ∀ (T1 T2 : AHeap), Ext (H.push (.cells [.slice none 0 0, .slice none 0 0] (typedV 78) true)) T1 → Ext (T1.push (.cells [.int .u8 ((0 : Nat) : Int), .int .u8 ((0 : Nat) : Int)] 0 true)) T2 → Wf T1 → Wf T2 → ∀ Y, Y = T2.push (.cells [.int .u8 ((1 : Nat) : Int), .int .u8 ((0 : Nat) : Int)] 0 true) → H.next < Y.next ∧ Ext H Y ∧ Wf Y ∧ Y.get H.next = some (.cells [.slice none 0 0, .slice none 0 0] (typedV 78) true) ∧ FmS (New H Y) Y (.slice (some ⟨T1.next, 0, none⟩) 1 1) [opT 0] ∧ FmS (New H Y) Y (.slice (some ⟨T2.next, 0, none⟩) 1 1) [opT 1] := by
    rintro T1 T2 e1 e2 u1 u2 Y rfl
    have n1 := e1.next
    have n2 := e2.next
    simp at n1 n2
    refine ⟨by simp; omega, ((((Ext.push _ _).trans e1).trans (Ext.push _ _)).trans e2).trans (Ext.push _ _), u2.push _, ?_, fmS_block (e := 0) ?_ rfl ⟨by omega, by simp; omega⟩, fmS_block (e := 0) ?_ rfl ⟨by omega, by simp⟩⟩
    · rw [AHeap.get_push, if_neg (by omega), e2.get _ (by simp; omega), AHeap.get_push, if_neg (by omega), e1.get _ (by simp), get_new]
    · rw [AHeap.get_push, if_neg (by omega), e2.get _ (by simp), get_new]; rfl
    · rw [get_new]; rfl
  have hcs : op = 6 ∨ op = 7 ∨ op = 8 ∨ op = 9 ∨ op = 10 ∨ op = 19 ∨ op = 20 ∨ op = 23 := by
    unfold takesF at hn
    split at hn
    · cases hn
    · split at hn
      · first | omega | cases hn
      · first | omega | cases hn
  rcases hcs with rfl | rfl | rfl | rfl | rfl | rfl | rfl | rfl
  · skip
    repeat' ((conv => whnf); first
      | (refine Both.intro ?_ ?_ <;> intro _ <;> try (exfalso; omega))
      | (refine Need.intro (by omega) ?_)
      | (refine Gives.intro ⟨_, hz, ?_⟩)
      | (refine Does.mono (tok_any _ (hw.push _) _) ?_ ; rintro _ T1 ⟨rfl, t1, u1⟩)
      | (refine ⟨_, hs1 _ _, ?_⟩)
      | (refine Does.mono (tok_any _ (u1.push _) _) ?_ ; rintro _ T2 ⟨rfl, t2, u2⟩ ; obtain ⟨Y, hY⟩ : ∃ Y, Y = T2.push (.cells [.int .u8 ((1 : Nat) : Int), .int .u8 ((0 : Nat) : Int)] 0 true) := ⟨_, rfl⟩ ; obtain ⟨nY, eY, wY, gY, fy, fn⟩ := PRE T1 T2 t1 t2 u1 u2 Y hY)
      | fail)
    all_goals (conv => whnf)
    rw [← hY]
    repeat' ((conv => whnf); first
      | (refine Both.intro ?_ ?_ <;> intro _ <;> try (exfalso; omega))
      | (refine Need.intro (by omega) ?_)
      | (refine ⟨_, cy _ (by first | exact eY | exact eY.trans (Ext.push _ _)), ?_⟩)
      | (refine ⟨_, cn _ (by first | exact eY | exact eY.trans (Ext.push _ _)), ?_⟩)
      | (refine ⟨_, hm1 _ _ _, ?_⟩)
      | (refine ⟨_, hm2 _ _ _ _ _ _, ?_⟩)
      | (refine Gives.intro ⟨_, hb2 _ _ _ _ _ _, ?_⟩)
      | (refine Gives.intro ⟨_, hb1 _ _ _, ?_⟩)
      | fail)
    all_goals (conv => whnf)
    have gP := gY
    refine Outs.intro ⟨_, _, _, storeAgg_ok (vs := [.slice _ _ _, .slice _ _ _]) (by kernel_rfl) rfl gP rfl, ?_⟩
    conv => whnf
    refine Need.intro (draw_old (N := H.next) ⟨.inl rfl, True.intro⟩ ⟨hbl, hbl, True.intro⟩ (by kernel_rfl) (by kernel_rfl)) ?_
    conv => whnf
    refine ⟨_, cellsAt_all (n := 2) (by rw [AHeap.get_set, if_pos rfl]) rfl, ?_⟩
    conv => whnf
    have eZ := eY.set (Nat.le_refl _) (.cells [.slice a2 n2 c2, .slice a1 n1 c1] (typedV 78) true)
    exact ⟨_, rfl, ⟨_, _, rfl, hno.ext hw eZ fun b h => .inl h, hy.ext hw eZ fun b h => .inl h⟩, eZ, wY.set gY _⟩
  · skip
    repeat' ((conv => whnf); first
      | (refine Both.intro ?_ ?_ <;> intro _ <;> try (exfalso; omega))
      | (refine Need.intro (by omega) ?_)
      | (refine Gives.intro ⟨_, hz, ?_⟩)
      | (refine Does.mono (tok_any _ (hw.push _) _) ?_ ; rintro _ T1 ⟨rfl, t1, u1⟩)
      | (refine ⟨_, hs1 _ _, ?_⟩)
      | (refine Does.mono (tok_any _ (u1.push _) _) ?_ ; rintro _ T2 ⟨rfl, t2, u2⟩ ; obtain ⟨Y, hY⟩ : ∃ Y, Y = T2.push (.cells [.int .u8 ((1 : Nat) : Int), .int .u8 ((0 : Nat) : Int)] 0 true) := ⟨_, rfl⟩ ; obtain ⟨nY, eY, wY, gY, fy, fn⟩ := PRE T1 T2 t1 t2 u1 u2 Y hY)
      | fail)
    all_goals (conv => whnf)
    rw [← hY]
    repeat' ((conv => whnf); first
      | (refine Both.intro ?_ ?_ <;> intro _ <;> try (exfalso; omega))
      | (refine Need.intro (by omega) ?_)
      | (refine ⟨_, cy _ (by first | exact eY | exact (eY.trans d1) | exact (eY.trans (d1.trans d2)) | exact (eY.trans ((d1.trans d2).trans d3)) | exact eY.trans (Ext.push _ _) | exact (eY.trans d1).trans (Ext.push _ _) | exact (eY.trans (d1.trans d2)).trans (Ext.push _ _) | exact (eY.trans ((d1.trans d2).trans d3)).trans (Ext.push _ _)), ?_⟩)
      | (refine ⟨_, cn _ (by first | exact eY | exact (eY.trans d1) | exact (eY.trans (d1.trans d2)) | exact (eY.trans ((d1.trans d2).trans d3)) | exact eY.trans (Ext.push _ _) | exact (eY.trans d1).trans (Ext.push _ _) | exact (eY.trans (d1.trans d2)).trans (Ext.push _ _) | exact (eY.trans ((d1.trans d2).trans d3)).trans (Ext.push _ _)), ?_⟩)
      | (refine ⟨_, hm1 _ _ _, ?_⟩)
      | (refine ⟨_, hm2 _ _ _ _ _ _, ?_⟩)
      | (refine Does.mono (putOne (SNew S H Y) Y wY _ _ _ (hy.ext hw eY fun b h => .inl h) (by omega)) ?_ ; rintro _ P1 ⟨a11, n11, c11, rfl, q1, d1, z1⟩ ; have m1 := d1.next)
      | (refine Does.mono (dual_any P1 z1 _) ?_ ; rintro _ P2 ⟨rfl, d2, z2⟩ ; have m2 := d2.next)
      | (refine Does.mono (putOne (SNew S H P2) P2 z2 _ _ _ (hno.ext hw (eY.trans (d1.trans d2)) fun b h => .inl h) (by omega)) ?_ ; rintro _ P3 ⟨a13, n13, c13, rfl, q3, d3, z3⟩ ; have m3 := d3.next)
      | (refine Gives.intro ⟨_, hb2 _ _ _ _ _ _, ?_⟩)
      | (refine Gives.intro ⟨_, hb1 _ _ _, ?_⟩)
      | fail)
    all_goals (conv => whnf)
    have gP := ((d1.trans d2).trans d3).get H.next nY
    rw [gY] at gP
    refine Outs.intro ⟨_, _, _, storeAgg_ok (vs := [.slice _ _ _, .slice _ _ _]) (by kernel_rfl) rfl gP rfl, ?_⟩
    conv => whnf
    refine Need.intro (draw_old (N := H.next) ⟨.inl rfl, .inr (effP d3 (by omega)), .inr (effE d2 (by omega)), .inr (effP d1 (by omega)), True.intro⟩ ⟨hbl, hbl, True.intro⟩ (by kernel_rfl) (by kernel_rfl)) ?_
    conv => whnf
    refine ⟨_, cellsAt_all (n := 2) (by rw [AHeap.get_set, if_pos rfl]) rfl, ?_⟩
    conv => whnf
    obtain ⟨f1, f2, f3⟩ := finP (x := joinP 7 [x]) hS eY nY z3 ((d1.trans d2).trans d3) gP (q1.ext z1 (d2.trans d3) fun b h => .inr ⟨by have := h.1; omega, by have := h.2; omega⟩) (q3.ext z3 (Ext.refl _) fun b h => .inr ⟨by have := h.1; omega, by have := h.2; omega⟩)
    exact ⟨_, rfl, f1, f2, f3⟩
  · skip
    repeat' ((conv => whnf); first
      | (refine Both.intro ?_ ?_ <;> intro _ <;> try (exfalso; omega))
      | (refine Need.intro (by omega) ?_)
      | (refine Gives.intro ⟨_, hz, ?_⟩)
      | (refine Does.mono (tok_any _ (hw.push _) _) ?_ ; rintro _ T1 ⟨rfl, t1, u1⟩)
      | (refine ⟨_, hs1 _ _, ?_⟩)
      | (refine Does.mono (tok_any _ (u1.push _) _) ?_ ; rintro _ T2 ⟨rfl, t2, u2⟩ ; obtain ⟨Y, hY⟩ : ∃ Y, Y = T2.push (.cells [.int .u8 ((1 : Nat) : Int), .int .u8 ((0 : Nat) : Int)] 0 true) := ⟨_, rfl⟩ ; obtain ⟨nY, eY, wY, gY, fy, fn⟩ := PRE T1 T2 t1 t2 u1 u2 Y hY)
      | fail)
    all_goals (conv => whnf)
    rw [← hY]
    repeat' ((conv => whnf); first
      | (refine Both.intro ?_ ?_ <;> intro _ <;> try (exfalso; omega))
      | (refine Need.intro (by omega) ?_)
      | (refine ⟨_, cy _ (by first | exact eY | exact (eY.trans d1) | exact (eY.trans (d1.trans d2)) | exact (eY.trans ((d1.trans d2).trans d3)) | exact eY.trans (Ext.push _ _) | exact (eY.trans d1).trans (Ext.push _ _) | exact (eY.trans (d1.trans d2)).trans (Ext.push _ _) | exact (eY.trans ((d1.trans d2).trans d3)).trans (Ext.push _ _)), ?_⟩)
      | (refine ⟨_, cn _ (by first | exact eY | exact (eY.trans d1) | exact (eY.trans (d1.trans d2)) | exact (eY.trans ((d1.trans d2).trans d3)) | exact eY.trans (Ext.push _ _) | exact (eY.trans d1).trans (Ext.push _ _) | exact (eY.trans (d1.trans d2)).trans (Ext.push _ _) | exact (eY.trans ((d1.trans d2).trans d3)).trans (Ext.push _ _)), ?_⟩)
      | (refine ⟨_, hm1 _ _ _, ?_⟩)
      | (refine ⟨_, hm2 _ _ _ _ _ _, ?_⟩)
      | (refine Does.mono (putOne (SNew S H Y) Y wY _ _ _ (hy.ext hw eY fun b h => .inl h) (by omega)) ?_ ; rintro _ P1 ⟨a11, n11, c11, rfl, q1, d1, z1⟩ ; have m1 := d1.next)
      | (refine Does.mono (dual_any P1 z1 _) ?_ ; rintro _ P2 ⟨rfl, d2, z2⟩ ; have m2 := d2.next)
      | (refine Does.mono (putOne (SNew S H P2) P2 z2 _ _ _ (hno.ext hw (eY.trans (d1.trans d2)) fun b h => .inl h) (by omega)) ?_ ; rintro _ P3 ⟨a13, n13, c13, rfl, q3, d3, z3⟩ ; have m3 := d3.next)
      | (refine Gives.intro ⟨_, hb2 _ _ _ _ _ _, ?_⟩)
      | (refine Gives.intro ⟨_, hb1 _ _ _, ?_⟩)
      | fail)
    all_goals (conv => whnf)
    have gP := ((d1.trans d2).trans d3).get H.next nY
    rw [gY] at gP
    refine Outs.intro ⟨_, _, _, storeAgg_ok (vs := [.slice _ _ _, .slice _ _ _]) (by kernel_rfl) rfl gP rfl, ?_⟩
    conv => whnf
    refine Need.intro (draw_old (N := H.next) ⟨.inl rfl, .inr (effP d3 (by omega)), .inr (effE d2 (by omega)), .inr (effP d1 (by omega)), True.intro⟩ ⟨hbl, hbl, True.intro⟩ (by kernel_rfl) (by kernel_rfl)) ?_
    conv => whnf
    refine ⟨_, cellsAt_all (n := 2) (by rw [AHeap.get_set, if_pos rfl]) rfl, ?_⟩
    conv => whnf
    obtain ⟨f1, f2, f3⟩ := finP (x := joinP 8 [x]) hS eY nY z3 ((d1.trans d2).trans d3) gP (q1.ext z1 (d2.trans d3) fun b h => .inr ⟨by have := h.1; omega, by have := h.2; omega⟩) (q3.ext z3 (Ext.refl _) fun b h => .inr ⟨by have := h.1; omega, by have := h.2; omega⟩)
    exact ⟨_, rfl, f1, f2, f3⟩
  · skip
    repeat' ((conv => whnf); first
      | (refine Both.intro ?_ ?_ <;> intro _ <;> try (exfalso; omega))
      | (refine Need.intro (by omega) ?_)
      | (refine Gives.intro ⟨_, hz, ?_⟩)
      | (refine Does.mono (tok_any _ (hw.push _) _) ?_ ; rintro _ T1 ⟨rfl, t1, u1⟩)
      | (refine ⟨_, hs1 _ _, ?_⟩)
      | (refine Does.mono (tok_any _ (u1.push _) _) ?_ ; rintro _ T2 ⟨rfl, t2, u2⟩ ; obtain ⟨Y, hY⟩ : ∃ Y, Y = T2.push (.cells [.int .u8 ((1 : Nat) : Int), .int .u8 ((0 : Nat) : Int)] 0 true) := ⟨_, rfl⟩ ; obtain ⟨nY, eY, wY, gY, fy, fn⟩ := PRE T1 T2 t1 t2 u1 u2 Y hY)
      | fail)
    all_goals (conv => whnf)
    rw [← hY]
    repeat' ((conv => whnf); first
      | (refine Both.intro ?_ ?_ <;> intro _ <;> try (exfalso; omega))
      | (refine Need.intro (by omega) ?_)
      | (refine ⟨_, cy _ (by first | exact eY | exact (eY.trans d1) | exact (eY.trans (d1.trans d2)) | exact eY.trans (Ext.push _ _) | exact (eY.trans d1).trans (Ext.push _ _) | exact (eY.trans (d1.trans d2)).trans (Ext.push _ _)), ?_⟩)
      | (refine ⟨_, cn _ (by first | exact eY | exact (eY.trans d1) | exact (eY.trans (d1.trans d2)) | exact eY.trans (Ext.push _ _) | exact (eY.trans d1).trans (Ext.push _ _) | exact (eY.trans (d1.trans d2)).trans (Ext.push _ _)), ?_⟩)
      | (refine ⟨_, hm1 _ _ _, ?_⟩)
      | (refine ⟨_, hm2 _ _ _ _ _ _, ?_⟩)
      | (refine Does.mono (putTwo (SNew S H Y) Y wY _ _ _ _ _ (fy.ext wY (Ext.refl _) fun b h => .inr ⟨h.1, by have := h.2; omega⟩) (hy.ext hw eY fun b h => .inl h) (by first | omega | (simp [put2, opT]; done) | (simp [put2, opT]; omega)) (by first | omega | (simp [put2, opT]; done) | (simp [put2, opT]; omega))) ?_ ; rintro _ P1 ⟨a11, n11, c11, rfl, q1, d1, z1⟩ ; have m1 := d1.next)
      | (refine Does.mono (putTwo (SNew S H P1) P1 z1 _ _ _ _ _ (fn.ext wY d1 fun b h => .inr ⟨h.1, by have := h.2; omega⟩) (hno.ext hw (eY.trans d1) fun b h => .inl h) (by first | omega | (simp [put2, opT]; done) | (simp [put2, opT]; omega)) (by first | omega | (simp [put2, opT]; done) | (simp [put2, opT]; omega))) ?_ ; rintro _ P2 ⟨a12, n12, c12, rfl, q2, d2, z2⟩ ; have m2 := d2.next)
      | (refine Gives.intro ⟨_, hb2 _ _ _ _ _ _, ?_⟩)
      | (refine Gives.intro ⟨_, hb1 _ _ _, ?_⟩)
      | fail)
    all_goals (conv => whnf)
    have gP := (d1.trans d2).get H.next nY
    rw [gY] at gP
    refine Outs.intro ⟨_, _, _, storeAgg_ok (vs := [.slice _ _ _, .slice _ _ _]) (by kernel_rfl) rfl gP rfl, ?_⟩
    conv => whnf
    refine Need.intro (draw_old (N := H.next) ⟨.inl rfl, .inr (effP d2 (by omega)), .inr (effP d1 (by omega)), True.intro⟩ ⟨hbl, hbl, True.intro⟩ (by kernel_rfl) (by kernel_rfl)) ?_
    conv => whnf
    refine ⟨_, cellsAt_all (n := 2) (by rw [AHeap.get_set, if_pos rfl]) rfl, ?_⟩
    conv => whnf
    obtain ⟨f1, f2, f3⟩ := finP (x := joinP 9 [x]) hS eY nY z2 (d1.trans d2) gP (q1.ext z1 d2 fun b h => .inr ⟨by have := h.1; omega, by have := h.2; omega⟩) (q2.ext z2 (Ext.refl _) fun b h => .inr ⟨by have := h.1; omega, by have := h.2; omega⟩)
    exact ⟨_, rfl, f1, f2, f3⟩
  · skip
    repeat' ((conv => whnf); first
      | (refine Both.intro ?_ ?_ <;> intro _ <;> try (exfalso; omega))
      | (refine Need.intro (by omega) ?_)
      | (refine Gives.intro ⟨_, hz, ?_⟩)
      | (refine Does.mono (tok_any _ (hw.push _) _) ?_ ; rintro _ T1 ⟨rfl, t1, u1⟩)
      | (refine ⟨_, hs1 _ _, ?_⟩)
      | (refine Does.mono (tok_any _ (u1.push _) _) ?_ ; rintro _ T2 ⟨rfl, t2, u2⟩ ; obtain ⟨Y, hY⟩ : ∃ Y, Y = T2.push (.cells [.int .u8 ((1 : Nat) : Int), .int .u8 ((0 : Nat) : Int)] 0 true) := ⟨_, rfl⟩ ; obtain ⟨nY, eY, wY, gY, fy, fn⟩ := PRE T1 T2 t1 t2 u1 u2 Y hY)
      | fail)
    all_goals (conv => whnf)
    rw [← hY]
    repeat' ((conv => whnf); first
      | (refine Both.intro ?_ ?_ <;> intro _ <;> try (exfalso; omega))
      | (refine Need.intro (by omega) ?_)
      | (refine ⟨_, cy _ (by first | exact eY | exact (eY.trans d1) | exact (eY.trans (d1.trans d2)) | exact eY.trans (Ext.push _ _) | exact (eY.trans d1).trans (Ext.push _ _) | exact (eY.trans (d1.trans d2)).trans (Ext.push _ _)), ?_⟩)
      | (refine ⟨_, cn _ (by first | exact eY | exact (eY.trans d1) | exact (eY.trans (d1.trans d2)) | exact eY.trans (Ext.push _ _) | exact (eY.trans d1).trans (Ext.push _ _) | exact (eY.trans (d1.trans d2)).trans (Ext.push _ _)), ?_⟩)
      | (refine ⟨_, hm1 _ _ _, ?_⟩)
      | (refine ⟨_, hm2 _ _ _ _ _ _, ?_⟩)
      | (refine Does.mono (putTwo (SNew S H Y) Y wY _ _ _ _ _ (fn.ext wY (Ext.refl _) fun b h => .inr ⟨h.1, by have := h.2; omega⟩) (hy.ext hw eY fun b h => .inl h) (by first | omega | (simp [put2, opT]; done) | (simp [put2, opT]; omega)) (by first | omega | (simp [put2, opT]; done) | (simp [put2, opT]; omega))) ?_ ; rintro _ P1 ⟨a11, n11, c11, rfl, q1, d1, z1⟩ ; have m1 := d1.next)
      | (refine Does.mono (putTwo (SNew S H P1) P1 z1 _ _ _ _ _ (fy.ext wY d1 fun b h => .inr ⟨h.1, by have := h.2; omega⟩) (hno.ext hw (eY.trans d1) fun b h => .inl h) (by first | omega | (simp [put2, opT]; done) | (simp [put2, opT]; omega)) (by first | omega | (simp [put2, opT]; done) | (simp [put2, opT]; omega))) ?_ ; rintro _ P2 ⟨a12, n12, c12, rfl, q2, d2, z2⟩ ; have m2 := d2.next)
      | (refine Gives.intro ⟨_, hb2 _ _ _ _ _ _, ?_⟩)
      | (refine Gives.intro ⟨_, hb1 _ _ _, ?_⟩)
      | fail)
    all_goals (conv => whnf)
    have gP := (d1.trans d2).get H.next nY
    rw [gY] at gP
    refine Outs.intro ⟨_, _, _, storeAgg_ok (vs := [.slice _ _ _, .slice _ _ _]) (by kernel_rfl) rfl gP rfl, ?_⟩
    conv => whnf
    refine Need.intro (draw_old (N := H.next) ⟨.inl rfl, .inr (effP d2 (by omega)), .inr (effP d1 (by omega)), True.intro⟩ ⟨hbl, hbl, True.intro⟩ (by kernel_rfl) (by kernel_rfl)) ?_
    conv => whnf
    refine ⟨_, cellsAt_all (n := 2) (by rw [AHeap.get_set, if_pos rfl]) rfl, ?_⟩
    conv => whnf
    obtain ⟨f1, f2, f3⟩ := finP (x := joinP 10 [x]) hS eY nY z2 (d1.trans d2) gP (q1.ext z1 d2 fun b h => .inr ⟨by have := h.1; omega, by have := h.2; omega⟩) (q2.ext z2 (Ext.refl _) fun b h => .inr ⟨by have := h.1; omega, by have := h.2; omega⟩)
    exact ⟨_, rfl, f1, f2, f3⟩
  · skip
    repeat' ((conv => whnf); first
      | (refine Both.intro ?_ ?_ <;> intro _ <;> try (exfalso; omega))
      | (refine Need.intro (by omega) ?_)
      | (refine Gives.intro ⟨_, hz, ?_⟩)
      | (refine Does.mono (tok_any _ (hw.push _) _) ?_ ; rintro _ T1 ⟨rfl, t1, u1⟩)
      | (refine ⟨_, hs1 _ _, ?_⟩)
      | (refine Does.mono (tok_any _ (u1.push _) _) ?_ ; rintro _ T2 ⟨rfl, t2, u2⟩ ; obtain ⟨Y, hY⟩ : ∃ Y, Y = T2.push (.cells [.int .u8 ((1 : Nat) : Int), .int .u8 ((0 : Nat) : Int)] 0 true) := ⟨_, rfl⟩ ; obtain ⟨nY, eY, wY, gY, fy, fn⟩ := PRE T1 T2 t1 t2 u1 u2 Y hY)
      | fail)
    all_goals (conv => whnf)
    rw [← hY]
    repeat' ((conv => whnf); first
      | (refine Both.intro ?_ ?_ <;> intro _ <;> try (exfalso; omega))
      | (refine Need.intro (by omega) ?_)
      | (refine ⟨_, cy _ (by first | exact eY | exact (eY.trans d1) | exact eY.trans (Ext.push _ _) | exact (eY.trans d1).trans (Ext.push _ _)), ?_⟩)
      | (refine ⟨_, cn _ (by first | exact eY | exact (eY.trans d1) | exact eY.trans (Ext.push _ _) | exact (eY.trans d1).trans (Ext.push _ _)), ?_⟩)
      | (refine ⟨_, hm1 _ _ _, ?_⟩)
      | (refine ⟨_, hm2 _ _ _ _ _ _, ?_⟩)
      | (refine Does.mono (putOne (SNew S H Y) Y wY _ _ _ (hy.ext hw eY fun b h => .inl h) (by omega)) ?_ ; rintro _ P1 ⟨a11, n11, c11, rfl, q1, d1, z1⟩ ; have m1 := d1.next)
      | (refine Gives.intro ⟨_, hb2 _ _ _ _ _ _, ?_⟩)
      | (refine Gives.intro ⟨_, hb1 _ _ _, ?_⟩)
      | fail)
    all_goals (conv => whnf)
    have gP := d1.get H.next nY
    rw [gY] at gP
    refine Outs.intro ⟨_, _, _, storeAgg_ok (vs := [.slice _ _ _, .slice _ _ _]) (by kernel_rfl) rfl gP rfl, ?_⟩
    conv => whnf
    try (refine Need.intro (draw_old (N := H.next) ⟨.inl rfl, .inr (effP d1 (by omega)), True.intro⟩ ⟨hbl, True.intro⟩ (by kernel_rfl) (by kernel_rfl)) ?_)
    conv => whnf
    refine ⟨_, cellsAt_all (n := 2) (by rw [AHeap.get_set, if_pos rfl]) rfl, ?_⟩
    conv => whnf
    obtain ⟨f1, f2, f3⟩ := finP (x := joinP 19 [x]) hS eY nY z1 d1 gP (q1.ext z1 (Ext.refl _) fun b h => .inr ⟨by have := h.1; omega, by have := h.2; omega⟩) (fmS_nil _ _)
    exact ⟨_, rfl, f1, f2, f3⟩
  · skip
    repeat' ((conv => whnf); first
      | (refine Both.intro ?_ ?_ <;> intro _ <;> try (exfalso; omega))
      | (refine Need.intro (by omega) ?_)
      | (refine Gives.intro ⟨_, hz, ?_⟩)
      | (refine Does.mono (tok_any _ (hw.push _) _) ?_ ; rintro _ T1 ⟨rfl, t1, u1⟩)
      | (refine ⟨_, hs1 _ _, ?_⟩)
      | (refine Does.mono (tok_any _ (u1.push _) _) ?_ ; rintro _ T2 ⟨rfl, t2, u2⟩ ; obtain ⟨Y, hY⟩ : ∃ Y, Y = T2.push (.cells [.int .u8 ((1 : Nat) : Int), .int .u8 ((0 : Nat) : Int)] 0 true) := ⟨_, rfl⟩ ; obtain ⟨nY, eY, wY, gY, fy, fn⟩ := PRE T1 T2 t1 t2 u1 u2 Y hY)
      | fail)
    all_goals (conv => whnf)
    rw [← hY]
    repeat' ((conv => whnf); first
      | (refine Both.intro ?_ ?_ <;> intro _ <;> try (exfalso; omega))
      | (refine Need.intro (by omega) ?_)
      | (refine ⟨_, cy _ (by first | exact eY | exact (eY.trans d1) | exact eY.trans (Ext.push _ _) | exact (eY.trans d1).trans (Ext.push _ _)), ?_⟩)
      | (refine ⟨_, cn _ (by first | exact eY | exact (eY.trans d1) | exact eY.trans (Ext.push _ _) | exact (eY.trans d1).trans (Ext.push _ _)), ?_⟩)
      | (refine ⟨_, hm1 _ _ _, ?_⟩)
      | (refine ⟨_, hm2 _ _ _ _ _ _, ?_⟩)
      | (refine Does.mono (putOne (SNew S H Y) Y wY _ _ _ (hy.ext hw eY fun b h => .inl h) (by omega)) ?_ ; rintro _ P1 ⟨a11, n11, c11, rfl, q1, d1, z1⟩ ; have m1 := d1.next)
      | (refine Gives.intro ⟨_, hb2 _ _ _ _ _ _, ?_⟩)
      | (refine Gives.intro ⟨_, hb1 _ _ _, ?_⟩)
      | fail)
    all_goals (conv => whnf)
    have gP := d1.get H.next nY
    rw [gY] at gP
    refine Outs.intro ⟨_, _, _, storeAgg_ok (vs := [.slice _ _ _, .slice _ _ _]) (by kernel_rfl) rfl gP rfl, ?_⟩
    conv => whnf
    try (refine Need.intro (draw_old (N := H.next) ⟨.inl rfl, .inr (effP d1 (by omega)), True.intro⟩ ⟨hbl, True.intro⟩ (by kernel_rfl) (by kernel_rfl)) ?_)
    conv => whnf
    refine ⟨_, cellsAt_all (n := 2) (by rw [AHeap.get_set, if_pos rfl]) rfl, ?_⟩
    conv => whnf
    obtain ⟨f1, f2, f3⟩ := finP (x := joinP 20 [x]) hS eY nY z1 d1 gP (q1.ext z1 (Ext.refl _) fun b h => .inr ⟨by have := h.1; omega, by have := h.2; omega⟩) (fmS_nil _ _)
    exact ⟨_, rfl, f1, f2, f3⟩
  · skip
    repeat' ((conv => whnf); first
      | (refine Both.intro ?_ ?_ <;> intro _ <;> try (exfalso; omega))
      | (refine Need.intro (by omega) ?_)
      | (refine Gives.intro ⟨_, hz, ?_⟩)
      | (refine Does.mono (tok_any _ (hw.push _) _) ?_ ; rintro _ T1 ⟨rfl, t1, u1⟩)
      | (refine ⟨_, hs1 _ _, ?_⟩)
      | (refine Does.mono (tok_any _ (u1.push _) _) ?_ ; rintro _ T2 ⟨rfl, t2, u2⟩ ; obtain ⟨Y, hY⟩ : ∃ Y, Y = T2.push (.cells [.int .u8 ((1 : Nat) : Int), .int .u8 ((0 : Nat) : Int)] 0 true) := ⟨_, rfl⟩ ; obtain ⟨nY, eY, wY, gY, fy, fn⟩ := PRE T1 T2 t1 t2 u1 u2 Y hY)
      | fail)
    all_goals (conv => whnf)
    rw [← hY]
    repeat' ((conv => whnf); first
      | (refine Both.intro ?_ ?_ <;> intro _ <;> try (exfalso; omega))
      | (refine Need.intro (by omega) ?_)
      | (refine ⟨_, cy _ (by first | exact eY | exact (eY.trans d1) | exact eY.trans (Ext.push _ _) | exact (eY.trans d1).trans (Ext.push _ _)), ?_⟩)
      | (refine ⟨_, cn _ (by first | exact eY | exact (eY.trans d1) | exact eY.trans (Ext.push _ _) | exact (eY.trans d1).trans (Ext.push _ _)), ?_⟩)
      | (refine ⟨_, hm1 _ _ _, ?_⟩)
      | (refine ⟨_, hm2 _ _ _ _ _ _, ?_⟩)
      | (refine Does.mono (putOne (SNew S H Y) Y wY _ _ _ (hy.ext hw eY fun b h => .inl h) (by omega)) ?_ ; rintro _ P1 ⟨a11, n11, c11, rfl, q1, d1, z1⟩ ; have m1 := d1.next)
      | (refine Gives.intro ⟨_, hb2 _ _ _ _ _ _, ?_⟩)
      | (refine Gives.intro ⟨_, hb1 _ _ _, ?_⟩)
      | fail)
    all_goals (conv => whnf)
    have gP := d1.get H.next nY
    rw [gY] at gP
    refine Outs.intro ⟨_, _, _, storeAgg_ok (vs := [.slice _ _ _, .slice _ _ _]) (by kernel_rfl) rfl gP rfl, ?_⟩
    conv => whnf
    try (refine Need.intro (draw_old (N := H.next) ⟨.inl rfl, .inr (effP d1 (by omega)), True.intro⟩ ⟨hbl, True.intro⟩ (by kernel_rfl) (by kernel_rfl)) ?_)
    conv => whnf
    refine ⟨_, cellsAt_all (n := 2) (by rw [AHeap.get_set, if_pos rfl]) rfl, ?_⟩
    conv => whnf
    obtain ⟨f1, f2, f3⟩ := finP (x := joinP 23 [x]) hS eY nY z1 d1 gP (q1.ext z1 (Ext.refl _) fun b h => .inr ⟨by have := h.1; omega, by have := h.2; omega⟩) (fmS_nil _ _)
    exact ⟨_, rfl, f1, f2, f3⟩
set_option maxHeartbeats 8000000 in
theorem join2_any (S : Nat → Prop) (H : AHeap) (hw : Wf H) (op : Nat) (a : Option Addr) (n c : Nat) (v1 v2 v3 v4 : Value) (x y : Pr) (hS : ∀ b, S b → b < H.next) (hr : RowS H a n c 2 [[v1, v2], [v3, v4]]) (hv : PrC S H v1 v2 x) (hv2 : PrC S H v3 v4 y) (hn : takesF op = 2) (hop : op ≤ 23) (hb : x.yes.length ≤ 2 ^ 16 ∧ x.no.length ≤ 2 ^ 16) (hb2 : y.yes.length ≤ 2 ^ 16 ∧ y.no.length ≤ 2 ^ 16) :
    Does Try.prog orc 91 [.int .u8 op, .slice a n c] H fun r H' => ∃ v, r = .ret v ∧ PrS (SNew S H H') H' v (joinP op [x, y]) ∧ Ext H H' ∧ Wf H' := by
  have hlen := hr.len; simp at hlen
  have hcap := hr.cap
  subst hlen
  refine Does.of Try.func91 (fun _ _ => rfl) rfl ?_
  have hz : zeroOf Try.prog 78 = some (.agg #[.slice none 0 0, .slice none 0 0]) := by kernel_rfl
  have hs1 : ∀ x p : Nat, aBuildSlice Try.prog 22 1 [(0, .agg #[.int .u8 x, .int .u8 p])] = mkSlice [.int .u8 x, .int .u8 p] 1 1 := fun x p => by kernel_rfl
  have hm1 : ∀ (a : Option Addr) (n c : Nat), aBuildSlice Try.prog 43 1 [(0, .slice a n c)] = mkSlice [.slice a n c] 1 1 := fun a n c => by kernel_rfl
  have hm2 : ∀ (a b : Option Addr) (n m c d : Nat), aBuildSlice Try.prog 43 2 [(0, .slice a n c), (1, .slice b m d)] = mkSlice [.slice a n c, .slice b m d] 2 2 := fun a b n m c d => by kernel_rfl
  have hbp2 : ∀ (a b : Option Addr) (n m c d : Nat), aBuild Try.prog 78 [(0, .slice a n c), (1, .slice b m d)] = some (.agg #[.slice a n c, .slice b m d]) := fun a b n m c d => by kernel_rfl
  have hbp1 : ∀ (a : Option Addr) (n c : Nat), aBuild Try.prog 78 [(0, .slice a n c)] = some (.agg #[.slice a n c, .slice none 0 0]) := fun a n c => by kernel_rfl
  obtain ⟨b, o, st, rfl, hc⟩ := hr.cell 0 [v1, v2] rfl
  have hbl : b < H.next := cellAt_lt hw (cellsAt_cell hc (j := 0) rfl)
  obtain ⟨hy, hno⟩ := hv
  have hy' := hy
  have hno' := hno
  obtain ⟨a1, n1, c1, rfl, hy1, hy2⟩ := hy'
  obtain ⟨a2, n2, c2, rfl, hno1, hno2⟩ := hno'
  have cy : ∀ X, Ext H X → cellAt X b o = some (.slice a1 n1 c1) := fun X e => cellAt_ext hw e (cellsAt_cell hc (j := 0) rfl)
  have cn : ∀ X, Ext H X → cellAt X b (o + 1) = some (.slice a2 n2 c2) := fun X e => cellAt_ext hw e (cellsAt_cell hc (j := 1) rfl)
  obtain ⟨b', o', st', hbb, hd⟩ := hr.cell 1 [v3, v4] rfl
  cases hbb
  obtain ⟨hy1x, hno1x⟩ := hv2
  have hy1' := hy1x
  have hno1' := hno1x
  obtain ⟨a3, n3, c3, rfl, -, -⟩ := hy1'
  obtain ⟨a4, n4, c4, rfl, -, -⟩ := hno1'
  have dy : ∀ X, Ext H X → cellAt X b (o + 2) = some (.slice a3 n3 c3) := fun X e => cellAt_ext hw e (cellsAt_cell hd (j := 0) rfl)
  have dn : ∀ X, Ext H X → cellAt X b (o + 3) = some (.slice a4 n4 c4) := fun X e => cellAt_ext hw e (cellsAt_cell hd (j := 1) rfl)
  have PRE : ∀ (T1 T2 : AHeap), Ext (H.push (.cells [.slice none 0 0, .slice none 0 0] (typedV 78) true)) T1 → Ext (T1.push (.cells [.int .u8 ((0 : Nat) : Int), .int .u8 ((0 : Nat) : Int)] 0 true)) T2 → Wf T1 → Wf T2 → ∀ Y, Y = T2.push (.cells [.int .u8 ((1 : Nat) : Int), .int .u8 ((0 : Nat) : Int)] 0 true) → H.next < Y.next ∧ Ext H Y ∧ Wf Y ∧ Y.get H.next = some (.cells [.slice none 0 0, .slice none 0 0] (typedV 78) true) ∧ FmS (New H Y) Y (.slice (some ⟨T1.next, 0, none⟩) 1 1) [opT 0] ∧ FmS (New H Y) Y (.slice (some ⟨T2.next, 0, none⟩) 1 1) [opT 1] := by
    rintro T1 T2 e1 e2 u1 u2 Y rfl
    have n1 := e1.next
    have n2 := e2.next
    simp at n1 n2
    refine ⟨by simp; omega, ((((Ext.push _ _).trans e1).trans (Ext.push _ _)).trans e2).trans (Ext.push _ _), u2.push _, ?_, fmS_block (e := 0) ?_ rfl ⟨by omega, by simp; omega⟩, fmS_block (e := 0) ?_ rfl ⟨by omega, by simp⟩⟩
    · rw [AHeap.get_push, if_neg (by omega), e2.get _ (by simp; omega), AHeap.get_push, if_neg (by omega), e1.get _ (by simp), get_new]
    · rw [AHeap.get_push, if_neg (by omega), e2.get _ (by simp), get_new]; rfl
    · rw [get_new]; rfl
  have hcs : op = 11 ∨ op = 12 ∨ op = 13 ∨ op = 14 ∨ op = 15 ∨ op = 16 ∨ op = 17 ∨ op = 18 ∨ op = 21 ∨ op = 22 := by
    unfold takesF at hn
    split at hn
    · cases hn
    · split at hn
      · first | omega | cases hn
      · first | omega | cases hn
  rcases hcs with rfl | rfl | rfl | rfl | rfl | rfl | rfl | rfl | rfl | rfl
  · skip
    repeat' ((conv => whnf); first
      | (refine Both.intro ?_ ?_ <;> intro _ <;> try (exfalso; omega))
      | (refine Need.intro (by omega) ?_)
      | (refine Gives.intro ⟨_, hz, ?_⟩)
      | (refine Does.mono (tok_any _ (hw.push _) _) ?_ ; rintro _ T1 ⟨rfl, t1, u1⟩)
      | (refine ⟨_, hs1 _ _, ?_⟩)
      | (refine Does.mono (tok_any _ (u1.push _) _) ?_ ; rintro _ T2 ⟨rfl, t2, u2⟩ ; obtain ⟨Y, hY⟩ : ∃ Y, Y = T2.push (.cells [.int .u8 ((1 : Nat) : Int), .int .u8 ((0 : Nat) : Int)] 0 true) := ⟨_, rfl⟩ ; obtain ⟨nY, eY, wY, gY, fy, fn⟩ := PRE T1 T2 t1 t2 u1 u2 Y hY)
      | fail)
    all_goals (conv => whnf)
    rw [← hY]
    repeat' ((conv => whnf); first
      | (refine Both.intro ?_ ?_ <;> intro _ <;> try (exfalso; omega))
      | (refine Need.intro (by omega) ?_)
      | (refine ⟨_, cy _ (by first | exact eY | exact (eY.trans d1) | exact (eY.trans (d1.trans d2)) | exact (eY.trans ((d1.trans d2).trans d3)) | exact eY.trans (Ext.push _ _) | exact (eY.trans d1).trans (Ext.push _ _) | exact (eY.trans (d1.trans d2)).trans (Ext.push _ _) | exact (eY.trans ((d1.trans d2).trans d3)).trans (Ext.push _ _)), ?_⟩)
      | (refine ⟨_, cn _ (by first | exact eY | exact (eY.trans d1) | exact (eY.trans (d1.trans d2)) | exact (eY.trans ((d1.trans d2).trans d3)) | exact eY.trans (Ext.push _ _) | exact (eY.trans d1).trans (Ext.push _ _) | exact (eY.trans (d1.trans d2)).trans (Ext.push _ _) | exact (eY.trans ((d1.trans d2).trans d3)).trans (Ext.push _ _)), ?_⟩)
      | (refine ⟨_, dy _ (by first | exact eY | exact (eY.trans d1) | exact (eY.trans (d1.trans d2)) | exact (eY.trans ((d1.trans d2).trans d3)) | exact eY.trans (Ext.push _ _) | exact (eY.trans d1).trans (Ext.push _ _) | exact (eY.trans (d1.trans d2)).trans (Ext.push _ _) | exact (eY.trans ((d1.trans d2).trans d3)).trans (Ext.push _ _)), ?_⟩)
      | (refine ⟨_, dn _ (by first | exact eY | exact (eY.trans d1) | exact (eY.trans (d1.trans d2)) | exact (eY.trans ((d1.trans d2).trans d3)) | exact eY.trans (Ext.push _ _) | exact (eY.trans d1).trans (Ext.push _ _) | exact (eY.trans (d1.trans d2)).trans (Ext.push _ _) | exact (eY.trans ((d1.trans d2).trans d3)).trans (Ext.push _ _)), ?_⟩)
      | (refine ⟨_, hm1 _ _ _, ?_⟩)
      | (refine ⟨_, hm2 _ _ _ _ _ _, ?_⟩)
      | (refine Does.mono (putTwo (SNew S H Y) Y wY _ _ _ _ _ (hy.ext hw eY fun b h => .inl h) (hy1x.ext hw eY fun b h => .inl h) (by first | omega | (simp [put2, opT]; done) | (simp [put2, opT]; omega)) (by first | omega | (simp [put2, opT]; done) | (simp [put2, opT]; omega))) ?_ ; rintro _ P1 ⟨a11, n11, c11, rfl, q1, d1, z1⟩ ; have m1 := d1.next)
      | (refine Does.mono (dual_any P1 z1 _) ?_ ; rintro _ P2 ⟨rfl, d2, z2⟩ ; have m2 := d2.next)
      | (refine Does.mono (putTwo (SNew S H P2) P2 z2 _ _ _ _ _ (hno.ext hw (eY.trans (d1.trans d2)) fun b h => .inl h) (hno1x.ext hw (eY.trans (d1.trans d2)) fun b h => .inl h) (by first | omega | (simp [put2, opT]; done) | (simp [put2, opT]; omega)) (by first | omega | (simp [put2, opT]; done) | (simp [put2, opT]; omega))) ?_ ; rintro _ P3 ⟨a13, n13, c13, rfl, q3, d3, z3⟩ ; have m3 := d3.next)
      | (refine Gives.intro ⟨_, hbp2 _ _ _ _ _ _, ?_⟩)
      | (refine Gives.intro ⟨_, hbp1 _ _ _, ?_⟩)
      | fail)
    all_goals (conv => whnf)
    have gP := ((d1.trans d2).trans d3).get H.next nY
    rw [gY] at gP
    refine Outs.intro ⟨_, _, _, storeAgg_ok (vs := [.slice _ _ _, .slice _ _ _]) (by kernel_rfl) rfl gP rfl, ?_⟩
    conv => whnf
    refine Need.intro (draw_old (N := H.next) ⟨.inl rfl, .inr (effP d3 (by omega)), .inr (effE d2 (by omega)), .inr (effP d1 (by omega)), True.intro⟩ ⟨hbl, hbl, hbl, hbl, True.intro⟩ (by kernel_rfl) (by kernel_rfl)) ?_
    conv => whnf
    refine ⟨_, cellsAt_all (n := 2) (by rw [AHeap.get_set, if_pos rfl]) rfl, ?_⟩
    conv => whnf
    obtain ⟨f1, f2, f3⟩ := finP (x := joinP 11 [x, y]) hS eY nY z3 ((d1.trans d2).trans d3) gP (q1.ext z1 (d2.trans d3) fun b h => .inr ⟨by have := h.1; omega, by have := h.2; omega⟩) (q3.ext z3 (Ext.refl _) fun b h => .inr ⟨by have := h.1; omega, by have := h.2; omega⟩)
    exact ⟨_, rfl, f1, f2, f3⟩
  · skip
    repeat' ((conv => whnf); first
      | (refine Both.intro ?_ ?_ <;> intro _ <;> try (exfalso; omega))
      | (refine Need.intro (by omega) ?_)
      | (refine Gives.intro ⟨_, hz, ?_⟩)
      | (refine Does.mono (tok_any _ (hw.push _) _) ?_ ; rintro _ T1 ⟨rfl, t1, u1⟩)
      | (refine ⟨_, hs1 _ _, ?_⟩)
      | (refine Does.mono (tok_any _ (u1.push _) _) ?_ ; rintro _ T2 ⟨rfl, t2, u2⟩ ; obtain ⟨Y, hY⟩ : ∃ Y, Y = T2.push (.cells [.int .u8 ((1 : Nat) : Int), .int .u8 ((0 : Nat) : Int)] 0 true) := ⟨_, rfl⟩ ; obtain ⟨nY, eY, wY, gY, fy, fn⟩ := PRE T1 T2 t1 t2 u1 u2 Y hY)
      | fail)
    all_goals (conv => whnf)
    rw [← hY]
    repeat' ((conv => whnf); first
      | (refine Both.intro ?_ ?_ <;> intro _ <;> try (exfalso; omega))
      | (refine Need.intro (by omega) ?_)
      | (refine ⟨_, cy _ (by first | exact eY | exact (eY.trans d1) | exact (eY.trans (d1.trans d2)) | exact (eY.trans ((d1.trans d2).trans d3)) | exact eY.trans (Ext.push _ _) | exact (eY.trans d1).trans (Ext.push _ _) | exact (eY.trans (d1.trans d2)).trans (Ext.push _ _) | exact (eY.trans ((d1.trans d2).trans d3)).trans (Ext.push _ _)), ?_⟩)
      | (refine ⟨_, cn _ (by first | exact eY | exact (eY.trans d1) | exact (eY.trans (d1.trans d2)) | exact (eY.trans ((d1.trans d2).trans d3)) | exact eY.trans (Ext.push _ _) | exact (eY.trans d1).trans (Ext.push _ _) | exact (eY.trans (d1.trans d2)).trans (Ext.push _ _) | exact (eY.trans ((d1.trans d2).trans d3)).trans (Ext.push _ _)), ?_⟩)
      | (refine ⟨_, dy _ (by first | exact eY | exact (eY.trans d1) | exact (eY.trans (d1.trans d2)) | exact (eY.trans ((d1.trans d2).trans d3)) | exact eY.trans (Ext.push _ _) | exact (eY.trans d1).trans (Ext.push _ _) | exact (eY.trans (d1.trans d2)).trans (Ext.push _ _) | exact (eY.trans ((d1.trans d2).trans d3)).trans (Ext.push _ _)), ?_⟩)
      | (refine ⟨_, dn _ (by first | exact eY | exact (eY.trans d1) | exact (eY.trans (d1.trans d2)) | exact (eY.trans ((d1.trans d2).trans d3)) | exact eY.trans (Ext.push _ _) | exact (eY.trans d1).trans (Ext.push _ _) | exact (eY.trans (d1.trans d2)).trans (Ext.push _ _) | exact (eY.trans ((d1.trans d2).trans d3)).trans (Ext.push _ _)), ?_⟩)
      | (refine ⟨_, hm1 _ _ _, ?_⟩)
      | (refine ⟨_, hm2 _ _ _ _ _ _, ?_⟩)
      | (refine Does.mono (putTwo (SNew S H Y) Y wY _ _ _ _ _ (hy.ext hw eY fun b h => .inl h) (hy1x.ext hw eY fun b h => .inl h) (by first | omega | (simp [put2, opT]; done) | (simp [put2, opT]; omega)) (by first | omega | (simp [put2, opT]; done) | (simp [put2, opT]; omega))) ?_ ; rintro _ P1 ⟨a11, n11, c11, rfl, q1, d1, z1⟩ ; have m1 := d1.next)
      | (refine Does.mono (dual_any P1 z1 _) ?_ ; rintro _ P2 ⟨rfl, d2, z2⟩ ; have m2 := d2.next)
      | (refine Does.mono (putTwo (SNew S H P2) P2 z2 _ _ _ _ _ (hno.ext hw (eY.trans (d1.trans d2)) fun b h => .inl h) (hno1x.ext hw (eY.trans (d1.trans d2)) fun b h => .inl h) (by first | omega | (simp [put2, opT]; done) | (simp [put2, opT]; omega)) (by first | omega | (simp [put2, opT]; done) | (simp [put2, opT]; omega))) ?_ ; rintro _ P3 ⟨a13, n13, c13, rfl, q3, d3, z3⟩ ; have m3 := d3.next)
      | (refine Gives.intro ⟨_, hbp2 _ _ _ _ _ _, ?_⟩)
      | (refine Gives.intro ⟨_, hbp1 _ _ _, ?_⟩)
      | fail)
    all_goals (conv => whnf)
    have gP := ((d1.trans d2).trans d3).get H.next nY
    rw [gY] at gP
    refine Outs.intro ⟨_, _, _, storeAgg_ok (vs := [.slice _ _ _, .slice _ _ _]) (by kernel_rfl) rfl gP rfl, ?_⟩
    conv => whnf
    refine Need.intro (draw_old (N := H.next) ⟨.inl rfl, .inr (effP d3 (by omega)), .inr (effE d2 (by omega)), .inr (effP d1 (by omega)), True.intro⟩ ⟨hbl, hbl, hbl, hbl, True.intro⟩ (by kernel_rfl) (by kernel_rfl)) ?_
    conv => whnf
    refine ⟨_, cellsAt_all (n := 2) (by rw [AHeap.get_set, if_pos rfl]) rfl, ?_⟩
    conv => whnf
    obtain ⟨f1, f2, f3⟩ := finP (x := joinP 12 [x, y]) hS eY nY z3 ((d1.trans d2).trans d3) gP (q1.ext z1 (d2.trans d3) fun b h => .inr ⟨by have := h.1; omega, by have := h.2; omega⟩) (q3.ext z3 (Ext.refl _) fun b h => .inr ⟨by have := h.1; omega, by have := h.2; omega⟩)
    exact ⟨_, rfl, f1, f2, f3⟩
  · skip
    repeat' ((conv => whnf); first
      | (refine Both.intro ?_ ?_ <;> intro _ <;> try (exfalso; omega))
      | (refine Need.intro (by omega) ?_)
      | (refine Gives.intro ⟨_, hz, ?_⟩)
      | (refine Does.mono (tok_any _ (hw.push _) _) ?_ ; rintro _ T1 ⟨rfl, t1, u1⟩)
      | (refine ⟨_, hs1 _ _, ?_⟩)
      | (refine Does.mono (tok_any _ (u1.push _) _) ?_ ; rintro _ T2 ⟨rfl, t2, u2⟩ ; obtain ⟨Y, hY⟩ : ∃ Y, Y = T2.push (.cells [.int .u8 ((1 : Nat) : Int), .int .u8 ((0 : Nat) : Int)] 0 true) := ⟨_, rfl⟩ ; obtain ⟨nY, eY, wY, gY, fy, fn⟩ := PRE T1 T2 t1 t2 u1 u2 Y hY)
      | fail)
    all_goals (conv => whnf)
    rw [← hY]
    repeat' ((conv => whnf); first
      | (refine Both.intro ?_ ?_ <;> intro _ <;> try (exfalso; omega))
      | (refine Need.intro (by omega) ?_)
      | (refine ⟨_, cy _ (by first | exact eY | exact (eY.trans d1) | exact (eY.trans (d1.trans d2)) | exact eY.trans (Ext.push _ _) | exact (eY.trans d1).trans (Ext.push _ _) | exact (eY.trans (d1.trans d2)).trans (Ext.push _ _)), ?_⟩)
      | (refine ⟨_, cn _ (by first | exact eY | exact (eY.trans d1) | exact (eY.trans (d1.trans d2)) | exact eY.trans (Ext.push _ _) | exact (eY.trans d1).trans (Ext.push _ _) | exact (eY.trans (d1.trans d2)).trans (Ext.push _ _)), ?_⟩)
      | (refine ⟨_, dy _ (by first | exact eY | exact (eY.trans d1) | exact (eY.trans (d1.trans d2)) | exact eY.trans (Ext.push _ _) | exact (eY.trans d1).trans (Ext.push _ _) | exact (eY.trans (d1.trans d2)).trans (Ext.push _ _)), ?_⟩)
      | (refine ⟨_, dn _ (by first | exact eY | exact (eY.trans d1) | exact (eY.trans (d1.trans d2)) | exact eY.trans (Ext.push _ _) | exact (eY.trans d1).trans (Ext.push _ _) | exact (eY.trans (d1.trans d2)).trans (Ext.push _ _)), ?_⟩)
      | (refine ⟨_, hm1 _ _ _, ?_⟩)
      | (refine ⟨_, hm2 _ _ _ _ _ _, ?_⟩)
      | (refine Does.mono (putTwo (SNew S H Y) Y wY _ _ _ _ _ (hno.ext hw eY fun b h => .inl h) (hy1x.ext hw eY fun b h => .inl h) (by first | omega | (simp [put2, opT]; done) | (simp [put2, opT]; omega)) (by first | omega | (simp [put2, opT]; done) | (simp [put2, opT]; omega))) ?_ ; rintro _ P1 ⟨a11, n11, c11, rfl, q1, d1, z1⟩ ; have m1 := d1.next)
      | (refine Does.mono (putTwo (SNew S H P1) P1 z1 _ _ _ _ _ (hy.ext hw (eY.trans d1) fun b h => .inl h) (hno1x.ext hw (eY.trans d1) fun b h => .inl h) (by first | omega | (simp [put2, opT]; done) | (simp [put2, opT]; omega)) (by first | omega | (simp [put2, opT]; done) | (simp [put2, opT]; omega))) ?_ ; rintro _ P2 ⟨a12, n12, c12, rfl, q2, d2, z2⟩ ; have m2 := d2.next)
      | (refine Gives.intro ⟨_, hbp2 _ _ _ _ _ _, ?_⟩)
      | (refine Gives.intro ⟨_, hbp1 _ _ _, ?_⟩)
      | fail)
    all_goals (conv => whnf)
    have gP := (d1.trans d2).get H.next nY
    rw [gY] at gP
    refine Outs.intro ⟨_, _, _, storeAgg_ok (vs := [.slice _ _ _, .slice _ _ _]) (by kernel_rfl) rfl gP rfl, ?_⟩
    conv => whnf
    refine Need.intro (draw_old (N := H.next) ⟨.inl rfl, .inr (effP d2 (by omega)), .inr (effP d1 (by omega)), True.intro⟩ ⟨hbl, hbl, hbl, hbl, True.intro⟩ (by kernel_rfl) (by kernel_rfl)) ?_
    conv => whnf
    refine ⟨_, cellsAt_all (n := 2) (by rw [AHeap.get_set, if_pos rfl]) rfl, ?_⟩
    conv => whnf
    obtain ⟨f1, f2, f3⟩ := finP (x := joinP 13 [x, y]) hS eY nY z2 (d1.trans d2) gP (q1.ext z1 d2 fun b h => .inr ⟨by have := h.1; omega, by have := h.2; omega⟩) (q2.ext z2 (Ext.refl _) fun b h => .inr ⟨by have := h.1; omega, by have := h.2; omega⟩)
    exact ⟨_, rfl, f1, f2, f3⟩
  · skip
    repeat' ((conv => whnf); first
      | (refine Both.intro ?_ ?_ <;> intro _ <;> try (exfalso; omega))
      | (refine Need.intro (by omega) ?_)
      | (refine Gives.intro ⟨_, hz, ?_⟩)
      | (refine Does.mono (tok_any _ (hw.push _) _) ?_ ; rintro _ T1 ⟨rfl, t1, u1⟩)
      | (refine ⟨_, hs1 _ _, ?_⟩)
      | (refine Does.mono (tok_any _ (u1.push _) _) ?_ ; rintro _ T2 ⟨rfl, t2, u2⟩ ; obtain ⟨Y, hY⟩ : ∃ Y, Y = T2.push (.cells [.int .u8 ((1 : Nat) : Int), .int .u8 ((0 : Nat) : Int)] 0 true) := ⟨_, rfl⟩ ; obtain ⟨nY, eY, wY, gY, fy, fn⟩ := PRE T1 T2 t1 t2 u1 u2 Y hY)
      | fail)
    all_goals (conv => whnf)
    rw [← hY]
    repeat' ((conv => whnf); first
      | (refine Both.intro ?_ ?_ <;> intro _ <;> try (exfalso; omega))
      | (refine Need.intro (by omega) ?_)
      | (refine ⟨_, cy _ (by first | exact eY | exact (eY.trans d1) | exact (eY.trans (d1.trans d2)) | exact (eY.trans ((d1.trans d2).trans d3)) | exact (eY.trans (((d1.trans d2).trans d3).trans d4)) | exact (eY.trans ((((d1.trans d2).trans d3).trans d4).trans d5)) | exact (eY.trans (((((d1.trans d2).trans d3).trans d4).trans d5).trans d6)) | exact eY.trans (Ext.push _ _) | exact (eY.trans d1).trans (Ext.push _ _) | exact (eY.trans (d1.trans d2)).trans (Ext.push _ _) | exact (eY.trans ((d1.trans d2).trans d3)).trans (Ext.push _ _) | exact (eY.trans (((d1.trans d2).trans d3).trans d4)).trans (Ext.push _ _) | exact (eY.trans ((((d1.trans d2).trans d3).trans d4).trans d5)).trans (Ext.push _ _) | exact (eY.trans (((((d1.trans d2).trans d3).trans d4).trans d5).trans d6)).trans (Ext.push _ _)), ?_⟩)
      | (refine ⟨_, cn _ (by first | exact eY | exact (eY.trans d1) | exact (eY.trans (d1.trans d2)) | exact (eY.trans ((d1.trans d2).trans d3)) | exact (eY.trans (((d1.trans d2).trans d3).trans d4)) | exact (eY.trans ((((d1.trans d2).trans d3).trans d4).trans d5)) | exact (eY.trans (((((d1.trans d2).trans d3).trans d4).trans d5).trans d6)) | exact eY.trans (Ext.push _ _) | exact (eY.trans d1).trans (Ext.push _ _) | exact (eY.trans (d1.trans d2)).trans (Ext.push _ _) | exact (eY.trans ((d1.trans d2).trans d3)).trans (Ext.push _ _) | exact (eY.trans (((d1.trans d2).trans d3).trans d4)).trans (Ext.push _ _) | exact (eY.trans ((((d1.trans d2).trans d3).trans d4).trans d5)).trans (Ext.push _ _) | exact (eY.trans (((((d1.trans d2).trans d3).trans d4).trans d5).trans d6)).trans (Ext.push _ _)), ?_⟩)
      | (refine ⟨_, dy _ (by first | exact eY | exact (eY.trans d1) | exact (eY.trans (d1.trans d2)) | exact (eY.trans ((d1.trans d2).trans d3)) | exact (eY.trans (((d1.trans d2).trans d3).trans d4)) | exact (eY.trans ((((d1.trans d2).trans d3).trans d4).trans d5)) | exact (eY.trans (((((d1.trans d2).trans d3).trans d4).trans d5).trans d6)) | exact eY.trans (Ext.push _ _) | exact (eY.trans d1).trans (Ext.push _ _) | exact (eY.trans (d1.trans d2)).trans (Ext.push _ _) | exact (eY.trans ((d1.trans d2).trans d3)).trans (Ext.push _ _) | exact (eY.trans (((d1.trans d2).trans d3).trans d4)).trans (Ext.push _ _) | exact (eY.trans ((((d1.trans d2).trans d3).trans d4).trans d5)).trans (Ext.push _ _) | exact (eY.trans (((((d1.trans d2).trans d3).trans d4).trans d5).trans d6)).trans (Ext.push _ _)), ?_⟩)
      | (refine ⟨_, dn _ (by first | exact eY | exact (eY.trans d1) | exact (eY.trans (d1.trans d2)) | exact (eY.trans ((d1.trans d2).trans d3)) | exact (eY.trans (((d1.trans d2).trans d3).trans d4)) | exact (eY.trans ((((d1.trans d2).trans d3).trans d4).trans d5)) | exact (eY.trans (((((d1.trans d2).trans d3).trans d4).trans d5).trans d6)) | exact eY.trans (Ext.push _ _) | exact (eY.trans d1).trans (Ext.push _ _) | exact (eY.trans (d1.trans d2)).trans (Ext.push _ _) | exact (eY.trans ((d1.trans d2).trans d3)).trans (Ext.push _ _) | exact (eY.trans (((d1.trans d2).trans d3).trans d4)).trans (Ext.push _ _) | exact (eY.trans ((((d1.trans d2).trans d3).trans d4).trans d5)).trans (Ext.push _ _) | exact (eY.trans (((((d1.trans d2).trans d3).trans d4).trans d5).trans d6)).trans (Ext.push _ _)), ?_⟩)
      | (refine ⟨_, hm1 _ _ _, ?_⟩)
      | (refine ⟨_, hm2 _ _ _ _ _ _, ?_⟩)
      | (refine Does.mono (putTwo (SNew S H Y) Y wY _ _ _ _ _ (hy.ext hw eY fun b h => .inl h) (hy1x.ext hw eY fun b h => .inl h) (by first | omega | (simp [put2, opT]; done) | (simp [put2, opT]; omega)) (by first | omega | (simp [put2, opT]; done) | (simp [put2, opT]; omega))) ?_ ; rintro _ P1 ⟨a11, n11, c11, rfl, q1, d1, z1⟩ ; have m1 := d1.next)
      | (refine Does.mono (putTwo (SNew S H P1) P1 z1 _ _ _ _ _ (hno.ext hw (eY.trans d1) fun b h => .inl h) (hno1x.ext hw (eY.trans d1) fun b h => .inl h) (by first | omega | (simp [put2, opT]; done) | (simp [put2, opT]; omega)) (by first | omega | (simp [put2, opT]; done) | (simp [put2, opT]; omega))) ?_ ; rintro _ P2 ⟨a12, n12, c12, rfl, q2, d2, z2⟩ ; have m2 := d2.next)
      | (refine Does.mono (putTwo (SNew S H P2) P2 z2 _ _ _ _ _ (q1.ext z1 d2 fun b h => .inr ⟨by have := h.1; omega, by have := h.2; omega⟩) (q2.ext z2 (Ext.refl _) fun b h => .inr ⟨by have := h.1; omega, by have := h.2; omega⟩) (by first | omega | (simp [put2, opT]; done) | (simp [put2, opT]; omega)) (by first | omega | (simp [put2, opT]; done) | (simp [put2, opT]; omega))) ?_ ; rintro _ P3 ⟨a13, n13, c13, rfl, q3, d3, z3⟩ ; have m3 := d3.next)
      | (refine Does.mono (putTwo (SNew S H P3) P3 z3 _ _ _ _ _ (hy.ext hw (eY.trans ((d1.trans d2).trans d3)) fun b h => .inl h) (hno1x.ext hw (eY.trans ((d1.trans d2).trans d3)) fun b h => .inl h) (by first | omega | (simp [put2, opT]; done) | (simp [put2, opT]; omega)) (by first | omega | (simp [put2, opT]; done) | (simp [put2, opT]; omega))) ?_ ; rintro _ P4 ⟨a14, n14, c14, rfl, q4, d4, z4⟩ ; have m4 := d4.next)
      | (refine Does.mono (putTwo (SNew S H P4) P4 z4 _ _ _ _ _ (hno.ext hw (eY.trans (((d1.trans d2).trans d3).trans d4)) fun b h => .inl h) (hy1x.ext hw (eY.trans (((d1.trans d2).trans d3).trans d4)) fun b h => .inl h) (by first | omega | (simp [put2, opT]; done) | (simp [put2, opT]; omega)) (by first | omega | (simp [put2, opT]; done) | (simp [put2, opT]; omega))) ?_ ; rintro _ P5 ⟨a15, n15, c15, rfl, q5, d5, z5⟩ ; have m5 := d5.next)
      | (refine Does.mono (putTwo (SNew S H P5) P5 z5 _ _ _ _ _ (q4.ext z4 d5 fun b h => .inr ⟨by have := h.1; omega, by have := h.2; omega⟩) (q5.ext z5 (Ext.refl _) fun b h => .inr ⟨by have := h.1; omega, by have := h.2; omega⟩) (by first | omega | (simp [put2, opT]; done) | (simp [put2, opT]; omega)) (by first | omega | (simp [put2, opT]; done) | (simp [put2, opT]; omega))) ?_ ; rintro _ P6 ⟨a16, n16, c16, rfl, q6, d6, z6⟩ ; have m6 := d6.next)
      | (refine Gives.intro ⟨_, hbp2 _ _ _ _ _ _, ?_⟩)
      | (refine Gives.intro ⟨_, hbp1 _ _ _, ?_⟩)
      | fail)
    all_goals (conv => whnf)
    have gP := (((((d1.trans d2).trans d3).trans d4).trans d5).trans d6).get H.next nY
    rw [gY] at gP
    refine Outs.intro ⟨_, _, _, storeAgg_ok (vs := [.slice _ _ _, .slice _ _ _]) (by kernel_rfl) rfl gP rfl, ?_⟩
    conv => whnf
    refine Need.intro (draw_old (N := H.next) ⟨.inl rfl, .inr (effP d6 (by omega)), .inr (effP d5 (by omega)), .inr (effP d4 (by omega)), .inr (effP d3 (by omega)), .inr (effP d2 (by omega)), .inr (effP d1 (by omega)), True.intro⟩ ⟨hbl, hbl, hbl, hbl, hbl, hbl, hbl, hbl, True.intro⟩ (by kernel_rfl) (by kernel_rfl)) ?_
    conv => whnf
    refine ⟨_, cellsAt_all (n := 2) (by rw [AHeap.get_set, if_pos rfl]) rfl, ?_⟩
    conv => whnf
    obtain ⟨f1, f2, f3⟩ := finP (x := joinP 14 [x, y]) hS eY nY z6 (((((d1.trans d2).trans d3).trans d4).trans d5).trans d6) gP (q3.ext z3 ((d4.trans d5).trans d6) fun b h => .inr ⟨by have := h.1; omega, by have := h.2; omega⟩) (q6.ext z6 (Ext.refl _) fun b h => .inr ⟨by have := h.1; omega, by have := h.2; omega⟩)
    exact ⟨_, rfl, f1, f2, f3⟩
  · skip
    repeat' ((conv => whnf); first
      | (refine Both.intro ?_ ?_ <;> intro _ <;> try (exfalso; omega))
      | (refine Need.intro (by omega) ?_)
      | (refine Gives.intro ⟨_, hz, ?_⟩)
      | (refine Does.mono (tok_any _ (hw.push _) _) ?_ ; rintro _ T1 ⟨rfl, t1, u1⟩)
      | (refine ⟨_, hs1 _ _, ?_⟩)
      | (refine Does.mono (tok_any _ (u1.push _) _) ?_ ; rintro _ T2 ⟨rfl, t2, u2⟩ ; obtain ⟨Y, hY⟩ : ∃ Y, Y = T2.push (.cells [.int .u8 ((1 : Nat) : Int), .int .u8 ((0 : Nat) : Int)] 0 true) := ⟨_, rfl⟩ ; obtain ⟨nY, eY, wY, gY, fy, fn⟩ := PRE T1 T2 t1 t2 u1 u2 Y hY)
      | fail)
    all_goals (conv => whnf)
    rw [← hY]
    repeat' ((conv => whnf); first
      | (refine Both.intro ?_ ?_ <;> intro _ <;> try (exfalso; omega))
      | (refine Need.intro (by omega) ?_)
      | (refine ⟨_, cy _ (by first | exact eY | exact (eY.trans d1) | exact (eY.trans (d1.trans d2)) | exact (eY.trans ((d1.trans d2).trans d3)) | exact eY.trans (Ext.push _ _) | exact (eY.trans d1).trans (Ext.push _ _) | exact (eY.trans (d1.trans d2)).trans (Ext.push _ _) | exact (eY.trans ((d1.trans d2).trans d3)).trans (Ext.push _ _)), ?_⟩)
      | (refine ⟨_, cn _ (by first | exact eY | exact (eY.trans d1) | exact (eY.trans (d1.trans d2)) | exact (eY.trans ((d1.trans d2).trans d3)) | exact eY.trans (Ext.push _ _) | exact (eY.trans d1).trans (Ext.push _ _) | exact (eY.trans (d1.trans d2)).trans (Ext.push _ _) | exact (eY.trans ((d1.trans d2).trans d3)).trans (Ext.push _ _)), ?_⟩)
      | (refine ⟨_, dy _ (by first | exact eY | exact (eY.trans d1) | exact (eY.trans (d1.trans d2)) | exact (eY.trans ((d1.trans d2).trans d3)) | exact eY.trans (Ext.push _ _) | exact (eY.trans d1).trans (Ext.push _ _) | exact (eY.trans (d1.trans d2)).trans (Ext.push _ _) | exact (eY.trans ((d1.trans d2).trans d3)).trans (Ext.push _ _)), ?_⟩)
      | (refine ⟨_, dn _ (by first | exact eY | exact (eY.trans d1) | exact (eY.trans (d1.trans d2)) | exact (eY.trans ((d1.trans d2).trans d3)) | exact eY.trans (Ext.push _ _) | exact (eY.trans d1).trans (Ext.push _ _) | exact (eY.trans (d1.trans d2)).trans (Ext.push _ _) | exact (eY.trans ((d1.trans d2).trans d3)).trans (Ext.push _ _)), ?_⟩)
      | (refine ⟨_, hm1 _ _ _, ?_⟩)
      | (refine ⟨_, hm2 _ _ _ _ _ _, ?_⟩)
      | (refine Does.mono (putTwo (SNew S H Y) Y wY _ _ _ _ _ (hy.ext hw eY fun b h => .inl h) (hy1x.ext hw eY fun b h => .inl h) (by first | omega | (simp [put2, opT]; done) | (simp [put2, opT]; omega)) (by first | omega | (simp [put2, opT]; done) | (simp [put2, opT]; omega))) ?_ ; rintro _ P1 ⟨a11, n11, c11, rfl, q1, d1, z1⟩ ; have m1 := d1.next)
      | (refine Does.mono (dual_any P1 z1 _) ?_ ; rintro _ P2 ⟨rfl, d2, z2⟩ ; have m2 := d2.next)
      | (refine Does.mono (putTwo (SNew S H P2) P2 z2 _ _ _ _ _ (hno.ext hw (eY.trans (d1.trans d2)) fun b h => .inl h) (hno1x.ext hw (eY.trans (d1.trans d2)) fun b h => .inl h) (by first | omega | (simp [put2, opT]; done) | (simp [put2, opT]; omega)) (by first | omega | (simp [put2, opT]; done) | (simp [put2, opT]; omega))) ?_ ; rintro _ P3 ⟨a13, n13, c13, rfl, q3, d3, z3⟩ ; have m3 := d3.next)
      | (refine Gives.intro ⟨_, hbp2 _ _ _ _ _ _, ?_⟩)
      | (refine Gives.intro ⟨_, hbp1 _ _ _, ?_⟩)
      | fail)
    all_goals (conv => whnf)
    have gP := ((d1.trans d2).trans d3).get H.next nY
    rw [gY] at gP
    refine Outs.intro ⟨_, _, _, storeAgg_ok (vs := [.slice _ _ _, .slice _ _ _]) (by kernel_rfl) rfl gP rfl, ?_⟩
    conv => whnf
    refine Need.intro (draw_old (N := H.next) ⟨.inl rfl, .inr (effP d3 (by omega)), .inr (effE d2 (by omega)), .inr (effP d1 (by omega)), True.intro⟩ ⟨hbl, hbl, hbl, hbl, True.intro⟩ (by kernel_rfl) (by kernel_rfl)) ?_
    conv => whnf
    refine ⟨_, cellsAt_all (n := 2) (by rw [AHeap.get_set, if_pos rfl]) rfl, ?_⟩
    conv => whnf
    obtain ⟨f1, f2, f3⟩ := finP (x := joinP 15 [x, y]) hS eY nY z3 ((d1.trans d2).trans d3) gP (q1.ext z1 (d2.trans d3) fun b h => .inr ⟨by have := h.1; omega, by have := h.2; omega⟩) (q3.ext z3 (Ext.refl _) fun b h => .inr ⟨by have := h.1; omega, by have := h.2; omega⟩)
    exact ⟨_, rfl, f1, f2, f3⟩
  · skip
    repeat' ((conv => whnf); first
      | (refine Both.intro ?_ ?_ <;> intro _ <;> try (exfalso; omega))
      | (refine Need.intro (by omega) ?_)
      | (refine Gives.intro ⟨_, hz, ?_⟩)
      | (refine Does.mono (tok_any _ (hw.push _) _) ?_ ; rintro _ T1 ⟨rfl, t1, u1⟩)
      | (refine ⟨_, hs1 _ _, ?_⟩)
      | (refine Does.mono (tok_any _ (u1.push _) _) ?_ ; rintro _ T2 ⟨rfl, t2, u2⟩ ; obtain ⟨Y, hY⟩ : ∃ Y, Y = T2.push (.cells [.int .u8 ((1 : Nat) : Int), .int .u8 ((0 : Nat) : Int)] 0 true) := ⟨_, rfl⟩ ; obtain ⟨nY, eY, wY, gY, fy, fn⟩ := PRE T1 T2 t1 t2 u1 u2 Y hY)
      | fail)
    all_goals (conv => whnf)
    rw [← hY]
    repeat' ((conv => whnf); first
      | (refine Both.intro ?_ ?_ <;> intro _ <;> try (exfalso; omega))
      | (refine Need.intro (by omega) ?_)
      | (refine ⟨_, cy _ (by first | exact eY | exact (eY.trans d1) | exact (eY.trans (d1.trans d2)) | exact (eY.trans ((d1.trans d2).trans d3)) | exact eY.trans (Ext.push _ _) | exact (eY.trans d1).trans (Ext.push _ _) | exact (eY.trans (d1.trans d2)).trans (Ext.push _ _) | exact (eY.trans ((d1.trans d2).trans d3)).trans (Ext.push _ _)), ?_⟩)
      | (refine ⟨_, cn _ (by first | exact eY | exact (eY.trans d1) | exact (eY.trans (d1.trans d2)) | exact (eY.trans ((d1.trans d2).trans d3)) | exact eY.trans (Ext.push _ _) | exact (eY.trans d1).trans (Ext.push _ _) | exact (eY.trans (d1.trans d2)).trans (Ext.push _ _) | exact (eY.trans ((d1.trans d2).trans d3)).trans (Ext.push _ _)), ?_⟩)
      | (refine ⟨_, dy _ (by first | exact eY | exact (eY.trans d1) | exact (eY.trans (d1.trans d2)) | exact (eY.trans ((d1.trans d2).trans d3)) | exact eY.trans (Ext.push _ _) | exact (eY.trans d1).trans (Ext.push _ _) | exact (eY.trans (d1.trans d2)).trans (Ext.push _ _) | exact (eY.trans ((d1.trans d2).trans d3)).trans (Ext.push _ _)), ?_⟩)
      | (refine ⟨_, dn _ (by first | exact eY | exact (eY.trans d1) | exact (eY.trans (d1.trans d2)) | exact (eY.trans ((d1.trans d2).trans d3)) | exact eY.trans (Ext.push _ _) | exact (eY.trans d1).trans (Ext.push _ _) | exact (eY.trans (d1.trans d2)).trans (Ext.push _ _) | exact (eY.trans ((d1.trans d2).trans d3)).trans (Ext.push _ _)), ?_⟩)
      | (refine ⟨_, hm1 _ _ _, ?_⟩)
      | (refine ⟨_, hm2 _ _ _ _ _ _, ?_⟩)
      | (refine Does.mono (putTwo (SNew S H Y) Y wY _ _ _ _ _ (hy.ext hw eY fun b h => .inl h) (hy1x.ext hw eY fun b h => .inl h) (by first | omega | (simp [put2, opT]; done) | (simp [put2, opT]; omega)) (by first | omega | (simp [put2, opT]; done) | (simp [put2, opT]; omega))) ?_ ; rintro _ P1 ⟨a11, n11, c11, rfl, q1, d1, z1⟩ ; have m1 := d1.next)
      | (refine Does.mono (dual_any P1 z1 _) ?_ ; rintro _ P2 ⟨rfl, d2, z2⟩ ; have m2 := d2.next)
      | (refine Does.mono (putTwo (SNew S H P2) P2 z2 _ _ _ _ _ (hno.ext hw (eY.trans (d1.trans d2)) fun b h => .inl h) (hno1x.ext hw (eY.trans (d1.trans d2)) fun b h => .inl h) (by first | omega | (simp [put2, opT]; done) | (simp [put2, opT]; omega)) (by first | omega | (simp [put2, opT]; done) | (simp [put2, opT]; omega))) ?_ ; rintro _ P3 ⟨a13, n13, c13, rfl, q3, d3, z3⟩ ; have m3 := d3.next)
      | (refine Gives.intro ⟨_, hbp2 _ _ _ _ _ _, ?_⟩)
      | (refine Gives.intro ⟨_, hbp1 _ _ _, ?_⟩)
      | fail)
    all_goals (conv => whnf)
    have gP := ((d1.trans d2).trans d3).get H.next nY
    rw [gY] at gP
    refine Outs.intro ⟨_, _, _, storeAgg_ok (vs := [.slice _ _ _, .slice _ _ _]) (by kernel_rfl) rfl gP rfl, ?_⟩
    conv => whnf
    refine Need.intro (draw_old (N := H.next) ⟨.inl rfl, .inr (effP d3 (by omega)), .inr (effE d2 (by omega)), .inr (effP d1 (by omega)), True.intro⟩ ⟨hbl, hbl, hbl, hbl, True.intro⟩ (by kernel_rfl) (by kernel_rfl)) ?_
    conv => whnf
    refine ⟨_, cellsAt_all (n := 2) (by rw [AHeap.get_set, if_pos rfl]) rfl, ?_⟩
    conv => whnf
    obtain ⟨f1, f2, f3⟩ := finP (x := joinP 16 [x, y]) hS eY nY z3 ((d1.trans d2).trans d3) gP (q1.ext z1 (d2.trans d3) fun b h => .inr ⟨by have := h.1; omega, by have := h.2; omega⟩) (q3.ext z3 (Ext.refl _) fun b h => .inr ⟨by have := h.1; omega, by have := h.2; omega⟩)
    exact ⟨_, rfl, f1, f2, f3⟩
  · skip
    repeat' ((conv => whnf); first
      | (refine Both.intro ?_ ?_ <;> intro _ <;> try (exfalso; omega))
      | (refine Need.intro (by omega) ?_)
      | (refine Gives.intro ⟨_, hz, ?_⟩)
      | (refine Does.mono (tok_any _ (hw.push _) _) ?_ ; rintro _ T1 ⟨rfl, t1, u1⟩)
      | (refine ⟨_, hs1 _ _, ?_⟩)
      | (refine Does.mono (tok_any _ (u1.push _) _) ?_ ; rintro _ T2 ⟨rfl, t2, u2⟩ ; obtain ⟨Y, hY⟩ : ∃ Y, Y = T2.push (.cells [.int .u8 ((1 : Nat) : Int), .int .u8 ((0 : Nat) : Int)] 0 true) := ⟨_, rfl⟩ ; obtain ⟨nY, eY, wY, gY, fy, fn⟩ := PRE T1 T2 t1 t2 u1 u2 Y hY)
      | fail)
    all_goals (conv => whnf)
    rw [← hY]
    repeat' ((conv => whnf); first
      | (refine Both.intro ?_ ?_ <;> intro _ <;> try (exfalso; omega))
      | (refine Need.intro (by omega) ?_)
      | (refine ⟨_, cy _ (by first | exact eY | exact (eY.trans d1) | exact (eY.trans (d1.trans d2)) | exact (eY.trans ((d1.trans d2).trans d3)) | exact eY.trans (Ext.push _ _) | exact (eY.trans d1).trans (Ext.push _ _) | exact (eY.trans (d1.trans d2)).trans (Ext.push _ _) | exact (eY.trans ((d1.trans d2).trans d3)).trans (Ext.push _ _)), ?_⟩)
      | (refine ⟨_, cn _ (by first | exact eY | exact (eY.trans d1) | exact (eY.trans (d1.trans d2)) | exact (eY.trans ((d1.trans d2).trans d3)) | exact eY.trans (Ext.push _ _) | exact (eY.trans d1).trans (Ext.push _ _) | exact (eY.trans (d1.trans d2)).trans (Ext.push _ _) | exact (eY.trans ((d1.trans d2).trans d3)).trans (Ext.push _ _)), ?_⟩)
      | (refine ⟨_, dy _ (by first | exact eY | exact (eY.trans d1) | exact (eY.trans (d1.trans d2)) | exact (eY.trans ((d1.trans d2).trans d3)) | exact eY.trans (Ext.push _ _) | exact (eY.trans d1).trans (Ext.push _ _) | exact (eY.trans (d1.trans d2)).trans (Ext.push _ _) | exact (eY.trans ((d1.trans d2).trans d3)).trans (Ext.push _ _)), ?_⟩)
      | (refine ⟨_, dn _ (by first | exact eY | exact (eY.trans d1) | exact (eY.trans (d1.trans d2)) | exact (eY.trans ((d1.trans d2).trans d3)) | exact eY.trans (Ext.push _ _) | exact (eY.trans d1).trans (Ext.push _ _) | exact (eY.trans (d1.trans d2)).trans (Ext.push _ _) | exact (eY.trans ((d1.trans d2).trans d3)).trans (Ext.push _ _)), ?_⟩)
      | (refine ⟨_, hm1 _ _ _, ?_⟩)
      | (refine ⟨_, hm2 _ _ _ _ _ _, ?_⟩)
      | (refine Does.mono (putTwo (SNew S H Y) Y wY _ _ _ _ _ (hy.ext hw eY fun b h => .inl h) (hy1x.ext hw eY fun b h => .inl h) (by first | omega | (simp [put2, opT]; done) | (simp [put2, opT]; omega)) (by first | omega | (simp [put2, opT]; done) | (simp [put2, opT]; omega))) ?_ ; rintro _ P1 ⟨a11, n11, c11, rfl, q1, d1, z1⟩ ; have m1 := d1.next)
      | (refine Does.mono (dual_any P1 z1 _) ?_ ; rintro _ P2 ⟨rfl, d2, z2⟩ ; have m2 := d2.next)
      | (refine Does.mono (putTwo (SNew S H P2) P2 z2 _ _ _ _ _ (hy.ext hw (eY.trans (d1.trans d2)) fun b h => .inl h) (hno1x.ext hw (eY.trans (d1.trans d2)) fun b h => .inl h) (by first | omega | (simp [put2, opT]; done) | (simp [put2, opT]; omega)) (by first | omega | (simp [put2, opT]; done) | (simp [put2, opT]; omega))) ?_ ; rintro _ P3 ⟨a13, n13, c13, rfl, q3, d3, z3⟩ ; have m3 := d3.next)
      | (refine Gives.intro ⟨_, hbp2 _ _ _ _ _ _, ?_⟩)
      | (refine Gives.intro ⟨_, hbp1 _ _ _, ?_⟩)
      | fail)
    all_goals (conv => whnf)
    have gP := ((d1.trans d2).trans d3).get H.next nY
    rw [gY] at gP
    refine Outs.intro ⟨_, _, _, storeAgg_ok (vs := [.slice _ _ _, .slice _ _ _]) (by kernel_rfl) rfl gP rfl, ?_⟩
    conv => whnf
    refine Need.intro (draw_old (N := H.next) ⟨.inl rfl, .inr (effP d3 (by omega)), .inr (effE d2 (by omega)), .inr (effP d1 (by omega)), True.intro⟩ ⟨hbl, hbl, hbl, hbl, True.intro⟩ (by kernel_rfl) (by kernel_rfl)) ?_
    conv => whnf
    refine ⟨_, cellsAt_all (n := 2) (by rw [AHeap.get_set, if_pos rfl]) rfl, ?_⟩
    conv => whnf
    obtain ⟨f1, f2, f3⟩ := finP (x := joinP 17 [x, y]) hS eY nY z3 ((d1.trans d2).trans d3) gP (q1.ext z1 (d2.trans d3) fun b h => .inr ⟨by have := h.1; omega, by have := h.2; omega⟩) (q3.ext z3 (Ext.refl _) fun b h => .inr ⟨by have := h.1; omega, by have := h.2; omega⟩)
    exact ⟨_, rfl, f1, f2, f3⟩
  · skip
    repeat' ((conv => whnf); first
      | (refine Both.intro ?_ ?_ <;> intro _ <;> try (exfalso; omega))
      | (refine Need.intro (by omega) ?_)
      | (refine Gives.intro ⟨_, hz, ?_⟩)
      | (refine Does.mono (tok_any _ (hw.push _) _) ?_ ; rintro _ T1 ⟨rfl, t1, u1⟩)
      | (refine ⟨_, hs1 _ _, ?_⟩)
      | (refine Does.mono (tok_any _ (u1.push _) _) ?_ ; rintro _ T2 ⟨rfl, t2, u2⟩ ; obtain ⟨Y, hY⟩ : ∃ Y, Y = T2.push (.cells [.int .u8 ((1 : Nat) : Int), .int .u8 ((0 : Nat) : Int)] 0 true) := ⟨_, rfl⟩ ; obtain ⟨nY, eY, wY, gY, fy, fn⟩ := PRE T1 T2 t1 t2 u1 u2 Y hY)
      | fail)
    all_goals (conv => whnf)
    rw [← hY]
    repeat' ((conv => whnf); first
      | (refine Both.intro ?_ ?_ <;> intro _ <;> try (exfalso; omega))
      | (refine Need.intro (by omega) ?_)
      | (refine ⟨_, cy _ (by first | exact eY | exact (eY.trans d1) | exact (eY.trans (d1.trans d2)) | exact (eY.trans ((d1.trans d2).trans d3)) | exact eY.trans (Ext.push _ _) | exact (eY.trans d1).trans (Ext.push _ _) | exact (eY.trans (d1.trans d2)).trans (Ext.push _ _) | exact (eY.trans ((d1.trans d2).trans d3)).trans (Ext.push _ _)), ?_⟩)
      | (refine ⟨_, cn _ (by first | exact eY | exact (eY.trans d1) | exact (eY.trans (d1.trans d2)) | exact (eY.trans ((d1.trans d2).trans d3)) | exact eY.trans (Ext.push _ _) | exact (eY.trans d1).trans (Ext.push _ _) | exact (eY.trans (d1.trans d2)).trans (Ext.push _ _) | exact (eY.trans ((d1.trans d2).trans d3)).trans (Ext.push _ _)), ?_⟩)
      | (refine ⟨_, dy _ (by first | exact eY | exact (eY.trans d1) | exact (eY.trans (d1.trans d2)) | exact (eY.trans ((d1.trans d2).trans d3)) | exact eY.trans (Ext.push _ _) | exact (eY.trans d1).trans (Ext.push _ _) | exact (eY.trans (d1.trans d2)).trans (Ext.push _ _) | exact (eY.trans ((d1.trans d2).trans d3)).trans (Ext.push _ _)), ?_⟩)
      | (refine ⟨_, dn _ (by first | exact eY | exact (eY.trans d1) | exact (eY.trans (d1.trans d2)) | exact (eY.trans ((d1.trans d2).trans d3)) | exact eY.trans (Ext.push _ _) | exact (eY.trans d1).trans (Ext.push _ _) | exact (eY.trans (d1.trans d2)).trans (Ext.push _ _) | exact (eY.trans ((d1.trans d2).trans d3)).trans (Ext.push _ _)), ?_⟩)
      | (refine ⟨_, hm1 _ _ _, ?_⟩)
      | (refine ⟨_, hm2 _ _ _ _ _ _, ?_⟩)
      | (refine Does.mono (putTwo (SNew S H Y) Y wY _ _ _ _ _ (hy.ext hw eY fun b h => .inl h) (hy1x.ext hw eY fun b h => .inl h) (by first | omega | (simp [put2, opT]; done) | (simp [put2, opT]; omega)) (by first | omega | (simp [put2, opT]; done) | (simp [put2, opT]; omega))) ?_ ; rintro _ P1 ⟨a11, n11, c11, rfl, q1, d1, z1⟩ ; have m1 := d1.next)
      | (refine Does.mono (dual_any P1 z1 _) ?_ ; rintro _ P2 ⟨rfl, d2, z2⟩ ; have m2 := d2.next)
      | (refine Does.mono (putTwo (SNew S H P2) P2 z2 _ _ _ _ _ (hy.ext hw (eY.trans (d1.trans d2)) fun b h => .inl h) (hno1x.ext hw (eY.trans (d1.trans d2)) fun b h => .inl h) (by first | omega | (simp [put2, opT]; done) | (simp [put2, opT]; omega)) (by first | omega | (simp [put2, opT]; done) | (simp [put2, opT]; omega))) ?_ ; rintro _ P3 ⟨a13, n13, c13, rfl, q3, d3, z3⟩ ; have m3 := d3.next)
      | (refine Gives.intro ⟨_, hbp2 _ _ _ _ _ _, ?_⟩)
      | (refine Gives.intro ⟨_, hbp1 _ _ _, ?_⟩)
      | fail)
    all_goals (conv => whnf)
    have gP := ((d1.trans d2).trans d3).get H.next nY
    rw [gY] at gP
    refine Outs.intro ⟨_, _, _, storeAgg_ok (vs := [.slice _ _ _, .slice _ _ _]) (by kernel_rfl) rfl gP rfl, ?_⟩
    conv => whnf
    refine Need.intro (draw_old (N := H.next) ⟨.inl rfl, .inr (effP d3 (by omega)), .inr (effE d2 (by omega)), .inr (effP d1 (by omega)), True.intro⟩ ⟨hbl, hbl, hbl, hbl, True.intro⟩ (by kernel_rfl) (by kernel_rfl)) ?_
    conv => whnf
    refine ⟨_, cellsAt_all (n := 2) (by rw [AHeap.get_set, if_pos rfl]) rfl, ?_⟩
    conv => whnf
    obtain ⟨f1, f2, f3⟩ := finP (x := joinP 18 [x, y]) hS eY nY z3 ((d1.trans d2).trans d3) gP (q1.ext z1 (d2.trans d3) fun b h => .inr ⟨by have := h.1; omega, by have := h.2; omega⟩) (q3.ext z3 (Ext.refl _) fun b h => .inr ⟨by have := h.1; omega, by have := h.2; omega⟩)
    exact ⟨_, rfl, f1, f2, f3⟩
  · skip
    repeat' ((conv => whnf); first
      | (refine Both.intro ?_ ?_ <;> intro _ <;> try (exfalso; omega))
      | (refine Need.intro (by omega) ?_)
      | (refine Gives.intro ⟨_, hz, ?_⟩)
      | (refine Does.mono (tok_any _ (hw.push _) _) ?_ ; rintro _ T1 ⟨rfl, t1, u1⟩)
      | (refine ⟨_, hs1 _ _, ?_⟩)
      | (refine Does.mono (tok_any _ (u1.push _) _) ?_ ; rintro _ T2 ⟨rfl, t2, u2⟩ ; obtain ⟨Y, hY⟩ : ∃ Y, Y = T2.push (.cells [.int .u8 ((1 : Nat) : Int), .int .u8 ((0 : Nat) : Int)] 0 true) := ⟨_, rfl⟩ ; obtain ⟨nY, eY, wY, gY, fy, fn⟩ := PRE T1 T2 t1 t2 u1 u2 Y hY)
      | fail)
    all_goals (conv => whnf)
    rw [← hY]
    repeat' ((conv => whnf); first
      | (refine Both.intro ?_ ?_ <;> intro _ <;> try (exfalso; omega))
      | (refine Need.intro (by omega) ?_)
      | (refine ⟨_, cy _ (by first | exact eY | exact (eY.trans d1) | exact eY.trans (Ext.push _ _) | exact (eY.trans d1).trans (Ext.push _ _)), ?_⟩)
      | (refine ⟨_, cn _ (by first | exact eY | exact (eY.trans d1) | exact eY.trans (Ext.push _ _) | exact (eY.trans d1).trans (Ext.push _ _)), ?_⟩)
      | (refine ⟨_, dy _ (by first | exact eY | exact (eY.trans d1) | exact eY.trans (Ext.push _ _) | exact (eY.trans d1).trans (Ext.push _ _)), ?_⟩)
      | (refine ⟨_, dn _ (by first | exact eY | exact (eY.trans d1) | exact eY.trans (Ext.push _ _) | exact (eY.trans d1).trans (Ext.push _ _)), ?_⟩)
      | (refine ⟨_, hm1 _ _ _, ?_⟩)
      | (refine ⟨_, hm2 _ _ _ _ _ _, ?_⟩)
      | (refine Does.mono (putTwo (SNew S H Y) Y wY _ _ _ _ _ (hy.ext hw eY fun b h => .inl h) (hy1x.ext hw eY fun b h => .inl h) (by first | omega | (simp [put2, opT]; done) | (simp [put2, opT]; omega)) (by first | omega | (simp [put2, opT]; done) | (simp [put2, opT]; omega))) ?_ ; rintro _ P1 ⟨a11, n11, c11, rfl, q1, d1, z1⟩ ; have m1 := d1.next)
      | (refine Gives.intro ⟨_, hbp2 _ _ _ _ _ _, ?_⟩)
      | (refine Gives.intro ⟨_, hbp1 _ _ _, ?_⟩)
      | fail)
    all_goals (conv => whnf)
    have gP := d1.get H.next nY
    rw [gY] at gP
    refine Outs.intro ⟨_, _, _, storeAgg_ok (vs := [.slice _ _ _, .slice _ _ _]) (by kernel_rfl) rfl gP rfl, ?_⟩
    conv => whnf
    try (refine Need.intro (draw_old (N := H.next) ⟨.inl rfl, .inr (effP d1 (by omega)), True.intro⟩ ⟨hbl, hbl, True.intro⟩ (by kernel_rfl) (by kernel_rfl)) ?_)
    conv => whnf
    refine ⟨_, cellsAt_all (n := 2) (by rw [AHeap.get_set, if_pos rfl]) rfl, ?_⟩
    conv => whnf
    obtain ⟨f1, f2, f3⟩ := finP (x := joinP 21 [x, y]) hS eY nY z1 d1 gP (q1.ext z1 (Ext.refl _) fun b h => .inr ⟨by have := h.1; omega, by have := h.2; omega⟩) (fmS_nil _ _)
    exact ⟨_, rfl, f1, f2, f3⟩
  · skip
    repeat' ((conv => whnf); first
      | (refine Both.intro ?_ ?_ <;> intro _ <;> try (exfalso; omega))
      | (refine Need.intro (by omega) ?_)
      | (refine Gives.intro ⟨_, hz, ?_⟩)
      | (refine Does.mono (tok_any _ (hw.push _) _) ?_ ; rintro _ T1 ⟨rfl, t1, u1⟩)
      | (refine ⟨_, hs1 _ _, ?_⟩)
      | (refine Does.mono (tok_any _ (u1.push _) _) ?_ ; rintro _ T2 ⟨rfl, t2, u2⟩ ; obtain ⟨Y, hY⟩ : ∃ Y, Y = T2.push (.cells [.int .u8 ((1 : Nat) : Int), .int .u8 ((0 : Nat) : Int)] 0 true) := ⟨_, rfl⟩ ; obtain ⟨nY, eY, wY, gY, fy, fn⟩ := PRE T1 T2 t1 t2 u1 u2 Y hY)
      | fail)
    all_goals (conv => whnf)
    rw [← hY]
    repeat' ((conv => whnf); first
      | (refine Both.intro ?_ ?_ <;> intro _ <;> try (exfalso; omega))
      | (refine Need.intro (by omega) ?_)
      | (refine ⟨_, cy _ (by first | exact eY | exact (eY.trans d1) | exact eY.trans (Ext.push _ _) | exact (eY.trans d1).trans (Ext.push _ _)), ?_⟩)
      | (refine ⟨_, cn _ (by first | exact eY | exact (eY.trans d1) | exact eY.trans (Ext.push _ _) | exact (eY.trans d1).trans (Ext.push _ _)), ?_⟩)
      | (refine ⟨_, dy _ (by first | exact eY | exact (eY.trans d1) | exact eY.trans (Ext.push _ _) | exact (eY.trans d1).trans (Ext.push _ _)), ?_⟩)
      | (refine ⟨_, dn _ (by first | exact eY | exact (eY.trans d1) | exact eY.trans (Ext.push _ _) | exact (eY.trans d1).trans (Ext.push _ _)), ?_⟩)
      | (refine ⟨_, hm1 _ _ _, ?_⟩)
      | (refine ⟨_, hm2 _ _ _ _ _ _, ?_⟩)
      | (refine Does.mono (putTwo (SNew S H Y) Y wY _ _ _ _ _ (hy.ext hw eY fun b h => .inl h) (hy1x.ext hw eY fun b h => .inl h) (by first | omega | (simp [put2, opT]; done) | (simp [put2, opT]; omega)) (by first | omega | (simp [put2, opT]; done) | (simp [put2, opT]; omega))) ?_ ; rintro _ P1 ⟨a11, n11, c11, rfl, q1, d1, z1⟩ ; have m1 := d1.next)
      | (refine Gives.intro ⟨_, hbp2 _ _ _ _ _ _, ?_⟩)
      | (refine Gives.intro ⟨_, hbp1 _ _ _, ?_⟩)
      | fail)
    all_goals (conv => whnf)
    have gP := d1.get H.next nY
    rw [gY] at gP
    refine Outs.intro ⟨_, _, _, storeAgg_ok (vs := [.slice _ _ _, .slice _ _ _]) (by kernel_rfl) rfl gP rfl, ?_⟩
    conv => whnf
    try (refine Need.intro (draw_old (N := H.next) ⟨.inl rfl, .inr (effP d1 (by omega)), True.intro⟩ ⟨hbl, hbl, True.intro⟩ (by kernel_rfl) (by kernel_rfl)) ?_)
    conv => whnf
    refine ⟨_, cellsAt_all (n := 2) (by rw [AHeap.get_set, if_pos rfl]) rfl, ?_⟩
    conv => whnf
    obtain ⟨f1, f2, f3⟩ := finP (x := joinP 22 [x, y]) hS eY nY z1 d1 gP (q1.ext z1 (Ext.refl _) fun b h => .inr ⟨by have := h.1; omega, by have := h.2; omega⟩) (fmS_nil _ _)
    exact ⟨_, rfl, f1, f2, f3⟩
end Go.AX.Try
