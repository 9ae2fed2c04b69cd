/- rejoinderref08: what it tells. -/
import Derived.Test.YtcalhjlcnapnaaaLTree
namespace Go.AX.Try
open Go Go.AX Go.AX.Lw Go.Proofs
set_option linter.unusedVariables false
set_option linter.unusedSimpArgs false
set_option maxRecDepth 100000
theorem sum8_any (H : AHeap) (a b c : Nat) (ha : a ≤ 2 ^ 30) (hb : b ≤ 2 ^ 30) (hc : c ≤ 2 ^ 30) : Does Try.prog orc 98 [.int .i64 a, .int .i64 b, .int .i64 c] H fun r H' => r = .ret (.int .i64 (min (a + b + c + 1) 2049 : Nat)) ∧ H = H' := by
  refine Does.of Try.func98 (fun _ _ => rfl) rfl ?_
  repeat' ((conv => whnf); first
    | (refine Both.intro ?_ ?_ <;> intro _ <;> try (exfalso; omega))
    | (refine Need.intro (by omega) ?_)
    | fail)
  all_goals (conv => whnf)
  · exact ⟨by rw [show min (a + b + c + 1) 2049 = 2049 by omega]; rfl, rfl⟩
  · exact ⟨by rw [show min (a + b + c + 1) 2049 = a + b + c + 1 by omega]; rfl, rfl⟩
theorem tok8_any (H : AHeap) (hw : Wf H) (op : Nat) : Does Try.prog orc 96 [.int .u8 op] H fun r H' => r = .ret (.agg #[.int .u8 op, .int .u8 0]) ∧ Ext H H' ∧ Wf H' := by
  refine Does.of Try.func96 (fun _ _ => rfl) rfl ?_
  have hb : aBuild Try.prog 46 [(0, .int .u8 op)] = some (.agg #[.int .u8 op, .int .u8 0]) := by kernel_rfl
  have hz : zeroOf Try.prog 46 = some (.agg #[.int .u8 0, .int .u8 0]) := by kernel_rfl
  have hg := get_new H (.cells [.int .u8 0, .int .u8 0] (typedV 46) true)
  repeat' ((conv => whnf); first
    | (refine Both.intro ?_ ?_ <;> intro _ <;> try (exfalso; omega))
    | (refine Need.intro (by omega) ?_)
    | (refine Gives.intro ⟨_, hz, ?_⟩)
    | (refine Gives.intro ⟨_, hb, ?_⟩)
    | (refine Outs.intro ⟨_, _, _, storeAgg_ok (vs := [.int .u8 _, .int .u8 _]) (by kernel_rfl) rfl hg rfl, ?_⟩)
    | (refine ⟨_, cellsAt_all (n := 2) (by rw [AHeap.get_set, if_pos rfl]) rfl, ?_⟩)
    | fail)
  all_goals (conv => whnf)
  first
  | exact ⟨rfl, (Ext.push _ _).set (Nat.le_refl _) _, (hw.push _).set hg _⟩
  | exact ⟨rfl, Ext.refl _, hw⟩
theorem turned_any (H : AHeap) (a b : Nat) (no : Bool) : Does Try.prog orc 94 [.int .u8 a, .int .u8 b, .bool no] H fun r H' => r = .ret (.int .u8 ((if no then b else a : Nat) : Int)) ∧ H = H' := by
  refine Does.of Try.func94 (fun _ _ => rfl) rfl ?_
  cases no
  all_goals
    repeat' ((conv => whnf); first
      | (refine Both.intro ?_ ?_ <;> intro _ <;> try (exfalso; omega))
      | (refine Need.intro (by omega) ?_)
      | fail)
    all_goals (conv => whnf)
    exact ⟨rfl, rfl⟩
theorem bsTok (a b : Int) : aBuildSlice Try.prog 22 1 [(0, .agg #[.int .u8 a, .int .u8 b])] = mkSlice [.int .u8 a, .int .u8 b] 1 1 := by kernel_rfl
/-- Tokens that are appended to none. -/
theorem appNil {H : AHeap} (hw : Wf H) {v : Value} {l : List Tk} (hf : Fm H v l) (hl : l.length ≤ 2 ^ 21) :
    ∃ a c H', aAppend Try.prog H #[22, 22] [.slice none 0 0, v] = some (.val (.slice a l.length c) H' (.eff H H')) ∧ Stk H H' (rowV 46 2) 2 a l.length c (l.map Tk.cells) ∧ Ext H H' ∧ Wf H' := by
  obtain ⟨a, n, c, rfl, hr⟩ := hf
  have hn := hr.len; simp at hn
  subst hn
  obtain ⟨a', c', H9, h1, h2, h3, h4, -⟩ := stk_app (Ext.refl H) hw tokTy (Stk.nil H H _ 2) (tk_src hr) (by simp) (tk_two l) (tk_one l) (by omega) (by omega)
  rw [Nat.zero_add] at h1 h2
  exact ⟨_, _, _, h1, h2, h3, h4⟩
theorem appTo {H0 H : AHeap} (he : Ext H0 H) (hw : Wf H) {a : Option Addr} {n c : Nat} {l m : List Tk} {v : Value} (hs : Stk H0 H (rowV 46 2) 2 a n c (l.map Tk.cells)) (hf : Fm H v m) (hl : l.length ≤ 2 ^ 21) (hm : m.length ≤ 2 ^ 21) :
    ∃ a' c' H', aAppend Try.prog H #[22, 22] [.slice a n c, v] = some (.val (.slice a' (l ++ m).length c') H' (.eff H H')) ∧ Stk H0 H' (rowV 46 2) 2 a' (l ++ m).length c' ((l ++ m).map Tk.cells) ∧ Ext H0 H' ∧ Wf H' := by
  obtain ⟨b, k, d, rfl, hr⟩ := hf
  have hn := hr.len; simp at hn
  have hn2 := hs.1; simp at hn2
  subst hn
  subst hn2
  obtain ⟨a', c', H9, h1, h2, h3, h4, -⟩ := stk_app he hw tokTy hs (tk_src hr) (by simp) (tk_two m) (tk_one m) (by omega) (by omega)
  rw [← List.map_append] at h2
  rw [← List.length_append] at h1 h2
  exact ⟨_, _, _, h1, h2, h3, h4⟩
theorem two8_any (H : AHeap) (hw : Wf H) (op : Nat) (v u : Value) (l m : List Tk) (hv : Fm H v l) (hu : Fm H u m) (hl : l.length ≤ 2 ^ 20) (hm : m.length ≤ 2 ^ 20) :
    Does Try.prog orc 95 [v, u, .int .u8 op] H fun r H' => ∃ w, r = .ret w ∧ Fm H' w (put2 op l m) ∧ Ext H H' ∧ Wf H' := by
  refine Does.of Try.func95 (fun _ _ => rfl) rfl ?_
  obtain ⟨a1, c1, H1, p1, s1, e1, w1⟩ := appNil hw hv (by omega)
  obtain ⟨a2, c2, H2, p2, s2, e2, w2⟩ := appTo e1 w1 s1 (hu.ext hw e1) (by omega) (by omega)
  have h3 := fun H3 (e : Ext H2 H3) (w3 : Wf H3) => appTo (l := l ++ m) (m := [opT op]) ((e2.trans e).trans (Ext.push H3 (.cells [.int .u8 op, .int .u8 0] 0 true))) (w3.push _) ((s2.ext w2 e).ext w3 (Ext.push H3 (.cells [.int .u8 op, .int .u8 0] 0 true))) (v := .slice (some ⟨H3.next, 0, none⟩) 1 1) ⟨_, _, _, rfl, ⟨rfl, Nat.le_refl _, tk_two [opT op], fun i x hx => ⟨_, _, _, rfl, by
    rw [Nat.zero_add]; exact flat_cells (xs := [opT op].map Tk.cells) (cs := [.int .u8 op, .int .u8 0]) (e := 0) (own := true) (c := 0) (get_new _ _) (tk_two [opT op]) (List.prefix_refl _) hx⟩⟩⟩ (by simp; omega) (by simp)
  repeat' ((conv => whnf); first
    | (refine Both.intro ?_ ?_ <;> intro _ <;> try (exfalso; omega))
    | (refine Need.intro (by omega) ?_)
    | (refine Outs.intro ⟨_, _, _, p1, ?_⟩)
    | (refine Outs.intro ⟨_, _, _, p2, ?_⟩)
    | (refine Does.mono (tok8_any H2 w2 op) ?_ ; rintro _ H3 ⟨rfl, e3, w3⟩ ; obtain ⟨a9, c9, H9, p9, s9, e9, w9⟩ := h3 H3 e3 w3)
    | (refine ⟨_, bsTok _ _, ?_⟩)
    | (refine Outs.intro ⟨_, _, _, p9, ?_⟩)
    | fail)
  all_goals (conv => whnf)
  exact ⟨_, rfl, ⟨_, _, _, rfl, by unfold put2; exact s9.row⟩, e9, w9⟩
theorem one8_any (H : AHeap) (hw : Wf H) (op : Nat) (v : Value) (l : List Tk) (hv : Fm H v l) (hl : l.length ≤ 2 ^ 20) :
    Does Try.prog orc 93 [v, .int .u8 op] H fun r H' => ∃ w, r = .ret w ∧ Fm H' w (l ++ [opT op]) ∧ Ext H H' ∧ Wf H' := by
  refine Does.of Try.func93 (fun _ _ => rfl) rfl ?_
  repeat' ((conv => whnf); first
    | (refine Both.intro ?_ ?_ <;> intro _ <;> try (exfalso; omega))
    | (refine Need.intro (by omega) ?_)
    | (refine Does.mono (two8_any H hw op v (.slice none 0 0) l [] hv (Fm.nil H) hl (by simp)) ?_ ; rintro _ H1 ⟨w, rfl, f1, e1, w1⟩)
    | fail)
  all_goals (conv => whnf)
  refine ⟨_, rfl, ?_, e1, w1⟩
  have : put2 op l [] = l ++ [opT op] := by unfold put2; rw [List.append_nil]
  rwa [this] at f1
theorem leaf8_any (H : AHeap) (hw : Wf H) (t : Tk) (no : Bool) (hok : okT t = true) (h0 : takesF t.op = 0) : Does Try.prog orc 92 [.agg #[.int .u8 t.op, .int .u8 t.p], .bool no] H fun r H' => ∃ v, r = .ret v ∧ Fm H' v (sel (leafP t) no) ∧ Ext H H' ∧ Wf H' := by
  refine Does.of Try.func92 (fun _ _ => rfl) rfl ?_
  obtain ⟨op, p⟩ := t
  dsimp only at h0 ⊢
  have hp : op ≠ 2 → p = 0 := fun h => by unfold okT at hok; have := of_decide_eq_true hok; dsimp only at this; omega
  have hs1 : ∀ x p : Nat, aBuildSlice Try.prog 22 1 [(0, .agg #[.int .u8 x, .int .u8 p])] = mkSlice [.int .u8 x, .int .u8 p] 1 1 := fun x p => by kernel_rfl
  have hs2 : ∀ x p y q : Nat, aBuildSlice Try.prog 22 2 [(0, .agg #[.int .u8 x, .int .u8 p]), (1, .agg #[.int .u8 y, .int .u8 q])] = mkSlice [.int .u8 x, .int .u8 p, .int .u8 y, .int .u8 q] 2 2 := fun x p y q => by kernel_rfl
  have hs4 : ∀ x y z w : Nat, aBuildSlice Try.prog 22 4 [(0, .agg #[.int .u8 x, .int .u8 0]), (1, .agg #[.int .u8 y, .int .u8 0]), (2, .agg #[.int .u8 z, .int .u8 0]), (3, .agg #[.int .u8 w, .int .u8 0])] = mkSlice [.int .u8 x, .int .u8 0, .int .u8 y, .int .u8 0, .int .u8 z, .int .u8 0, .int .u8 w, .int .u8 0] 4 4 := fun x y z w => by kernel_rfl
  have g0 := get_new H (.cells [.int .u8 op, .int .u8 p] 0 true)
  have w0 := hw.push (.cells [.int .u8 op, .int .u8 p] 0 true)
  have e0 := Ext.push H (.cells [.int .u8 op, .int .u8 p] 0 true)
  have q0 := cellAt_of g0 (o := 0) rfl
  have qa := cellsAt_all (n := 2) g0 rfl
  by_cases h4 : op = 0 ∨ op = 1 ∨ op = 4 ∨ op = 5
  · have fin : ∀ (k : Nat) (X : AHeap), Ext H X → Wf X → Fm (X.push (.cells ([opT k].map Tk.cells).flatten 0 true)) (.slice (some ⟨X.next, 0, none⟩) 1 1) [opT k] ∧ Ext H (X.push (.cells ([opT k].map Tk.cells).flatten 0 true)) ∧ Wf (X.push (.cells ([opT k].map Tk.cells).flatten 0 true)) := fun k X e w =>
      ⟨FmS.fm (S := fun _ => True) (fmS_block (get_new _ _) rfl True.intro), e.trans (Ext.push _ _), w.push _⟩
    rcases h4 with rfl | rfl | rfl | rfl <;> obtain rfl := hp (by decide) <;> cases no
    all_goals
      repeat' ((conv => whnf); first
        | (refine Both.intro ?_ ?_ <;> intro _ <;> try (exfalso; omega))
        | (refine Need.intro (by omega) ?_)
        | (refine ⟨_, q0, ?_⟩)
        | (refine Does.mono (turned_any _ _ _ _) ?_ ; rintro _ _ ⟨rfl, rfl⟩)
        | (refine Does.mono (tok8_any _ w0 _) ?_ ; rintro _ X ⟨rfl, e, w⟩)
        | (refine ⟨_, hs1 _ _, ?_⟩)
        | fail)
      all_goals (conv => whnf)
      exact ⟨_, rfl, (fin _ X (e0.trans e) w).1, (fin _ X (e0.trans e) w).2⟩
  · by_cases h2 : op = 2
    · subst h2
      cases no
      · skip
        repeat' ((conv => whnf); first
          | (refine Both.intro ?_ ?_ <;> intro _ <;> try (exfalso; omega))
          | (refine Need.intro (by omega) ?_)
          | (refine ⟨_, q0, ?_⟩)
          | (refine ⟨_, qa, ?_⟩)
          | (refine ⟨_, hs1 _ _, ?_⟩)
          | fail)
        all_goals (conv => whnf)
        exact ⟨_, rfl, FmS.fm (S := fun _ => True) (fmS_block (l := [⟨2, p⟩]) (get_new _ _) rfl True.intro), e0.trans (Ext.push _ _), w0.push _⟩
      · skip
        repeat' ((conv => whnf); first
          | (refine Both.intro ?_ ?_ <;> intro _ <;> try (exfalso; omega))
          | (refine Need.intro (by omega) ?_)
          | (refine ⟨_, q0, ?_⟩)
          | (refine ⟨_, qa, ?_⟩)
          | (refine Does.mono (tok8_any _ w0 _) ?_ ; rintro _ X ⟨rfl, e, w⟩)
          | (refine ⟨_, hs2 _ _ _ _, ?_⟩)
          | (refine Need.intro (draw_mix ⟨⟨.inl rfl, .inr (look_ext e (by simp)), True.intro⟩, True.intro⟩) ?_)
          | fail)
        all_goals (conv => whnf)
        exact ⟨_, rfl, FmS.fm (S := fun _ => True) (fmS_block (l := [⟨2, p⟩, opT 6]) (get_new _ _) rfl True.intro), (e0.trans e).trans (Ext.push _ _), w.push _⟩
    · obtain rfl : op = 3 := by rcases op_none h0 with h | h | h | h | h | h <;> omega
      cases no
      · skip
        repeat' ((conv => whnf); first
          | (refine Both.intro ?_ ?_ <;> intro _ <;> try (exfalso; omega))
          | (refine Need.intro (by omega) ?_)
          | (refine ⟨_, q0, ?_⟩)
          | (refine Does.mono (tok8_any _ w0 _) ?_ ; rintro _ T1 ⟨rfl, a1, u1⟩)
          | (refine Does.mono (tok8_any T1 u1 _) ?_ ; rintro _ T2 ⟨rfl, a2, u2⟩)
          | (refine Does.mono (tok8_any T2 u2 _) ?_ ; rintro _ T3 ⟨rfl, a3, u3⟩)
          | (refine Does.mono (tok8_any T3 u3 _) ?_ ; rintro _ T4 ⟨rfl, a4, u4⟩)
          | (refine ⟨_, hs4 _ _ _ _, ?_⟩)
          | fail)
        all_goals (conv => whnf)
        exact ⟨_, rfl, FmS.fm (S := fun _ => True) (fmS_block (l := [opT 4, opT 1, opT 8, opT 11]) (get_new _ _) rfl True.intro), (e0.trans (a1.trans (a2.trans (a3.trans a4)))).trans (Ext.push _ _), u4.push _⟩
      · skip
        repeat' ((conv => whnf); first
          | (refine Both.intro ?_ ?_ <;> intro _ <;> try (exfalso; omega))
          | (refine Need.intro (by omega) ?_)
          | (refine ⟨_, q0, ?_⟩)
          | (refine Does.mono (tok8_any _ w0 _) ?_ ; rintro _ T1 ⟨rfl, a1, u1⟩)
          | (refine Does.mono (tok8_any T1 u1 _) ?_ ; rintro _ T2 ⟨rfl, a2, u2⟩)
          | (refine Does.mono (tok8_any T2 u2 _) ?_ ; rintro _ T3 ⟨rfl, a3, u3⟩)
          | (refine Does.mono (tok8_any T3 u3 _) ?_ ; rintro _ T4 ⟨rfl, a4, u4⟩)
          | (refine ⟨_, hs4 _ _ _ _, ?_⟩)
          | fail)
        all_goals (conv => whnf)
        exact ⟨_, rfl, FmS.fm (S := fun _ => True) (fmS_block (l := [opT 5, opT 0, opT 7, opT 12]) (get_new _ _) rfl True.intro), (e0.trans (a1.trans (a2.trans (a3.trans a4)))).trans (Ext.push _ _), u4.push _⟩
set_option maxHeartbeats 8000000 in
theorem sizes_any : ∀ (x : Tre) (v : Value) (H : AHeap), Wf H → x.wk → x.lies 0 H v →
    Does Try.prog orc 60 [tval (x, v)] H fun r H' => ∃ y m : Nat, r = .ret (.tuple #[.int .i64 y, .int .i64 m]) ∧ y = min (PT x).yes.length 2049 ∧ m ≤ 2049 ∧ (x.path = false → m = min (PT x).no.length 2049) ∧ Ext H H' ∧ Wf H'
  | .n0 t, v, H, hw, hk, hl => by
    obtain ⟨a, c, rfl⟩ := hl
    obtain ⟨op, p⟩ := t
    refine Does.of Try.func60 (fun _ _ => rfl) rfl ?_
    have g0 := get_new H (.cells [.int .u8 op, .int .u8 p, .slice a 0 c] 0 true)
    have w0 := hw.push (.cells [.int .u8 op, .int .u8 p, .slice a 0 c] 0 true)
    have e0 := Ext.push H (.cells [.int .u8 op, .int .u8 p, .slice a 0 c] 0 true)
    have q0 := cellAt_of g0 (o := 0) rfl
    have q2 := cellAt_of g0 (o := 2) rfl
    rcases op_none hk.2 with h | h | h | h | h | h <;> (dsimp only at h; subst h)
    all_goals
      repeat' ((conv => whnf); first
        | (refine Both.intro ?_ ?_ <;> intro _ <;> try (exfalso; omega))
        | (refine Need.intro (by omega) ?_)
        | (refine ⟨_, q0, ?_⟩)
        | (refine ⟨_, q2, ?_⟩)
        | fail)
      all_goals (conv => whnf)
      exact ⟨_, _, rfl, rfl, by decide, fun _ => rfl, e0, w0⟩
  | .n1 t x, v, H, hw, hk, hl => by
    obtain ⟨a, c, u, rfl, -, r, hx⟩ := hl
    obtain ⟨op, p⟩ := t
    refine Does.of Try.func60 (fun _ _ => rfl) rfl ?_
    have g0 := get_new H (.cells [.int .u8 op, .int .u8 p, .slice a 1 c] 0 true)
    have w0 := hw.push (.cells [.int .u8 op, .int .u8 p, .slice a 1 c] 0 true)
    have e0 := Ext.push H (.cells [.int .u8 op, .int .u8 p, .slice a 1 c] 0 true)
    have q0 := cellAt_of g0 (o := 0) rfl
    have q2 := cellAt_of g0 (o := 2) rfl
    have hcap := r.cap
    obtain ⟨b, o, st, rfl, hc⟩ := r.cell 0 (tcells (x, u)) rfl
    obtain ⟨ua, un, uc, rfl⟩ := hx.slice
    have hc := cellsAt_ext hw e0 hc
    have ih := sizes_any x _ _ w0 hk.2.2.2 (hx.ext hw e0)
    rcases op_one hk.2.1 with h | h | h | h | h | h | h | h <;> (dsimp only at h; subst h)
    all_goals
      repeat' ((conv => whnf); first
        | (refine Both.intro ?_ ?_ <;> intro _ <;> try (exfalso; omega))
        | (refine Need.intro (by omega) ?_)
        | (refine ⟨_, q2, ?_⟩)
        | (refine ⟨_, hc, ?_⟩)
        | (refine Does.mono ih ?_ ; rintro _ X ⟨y, m, rfl, hy, hm, hmp, e1, w1⟩ ; have p0 := cellAt_ext w0 e1 q0 ; have p2 := cellAt_ext w0 e1 q2)
        | (refine ⟨_, p0, ?_⟩)
        | (refine ⟨_, p2, ?_⟩)
        | (refine Does.mono (sum8_any X y 0 0 (by omega) (by decide) (by decide)) ?_ ; rintro _ _ ⟨rfl, rfl⟩)
        | (refine Does.mono (sum8_any X y 1 0 (by omega) (by decide) (by decide)) ?_ ; rintro _ _ ⟨rfl, rfl⟩)
        | (refine Does.mono (sum8_any X m 0 0 (by omega) (by decide) (by decide)) ?_ ; rintro _ _ ⟨rfl, rfl⟩)
        | (refine Does.mono (sum8_any X m 1 0 (by omega) (by decide) (by decide)) ?_ ; rintro _ _ ⟨rfl, rfl⟩)
        | fail)
      all_goals (conv => whnf)
      have hf := hk.2.2.1
      simp [fitK] at hf
      refine ⟨_, _, rfl, ?_, by omega, fun hp => ?_, e0.trans e1, w1⟩
      · first
        | exact hmp hf
        | (simp [PT, joinP, put2]; omega)
      · first
        | (simp [Tre.path, Tre.tok] at hp; done)
        | exact hy
        | (have := hmp hf; simp [PT, joinP, put2]; omega)
  | .n2 t x z, v, H, hw, hk, hl => by
    obtain ⟨a, c, u, w, rfl, -, r, hx, hz⟩ := hl
    obtain ⟨op, p⟩ := t
    refine Does.of Try.func60 (fun _ _ => rfl) rfl ?_
    have g0 := get_new H (.cells [.int .u8 op, .int .u8 p, .slice a 2 c] 0 true)
    have w0 := hw.push (.cells [.int .u8 op, .int .u8 p, .slice a 2 c] 0 true)
    have e0 := Ext.push H (.cells [.int .u8 op, .int .u8 p, .slice a 2 c] 0 true)
    have q0 := cellAt_of g0 (o := 0) rfl
    have q2 := cellAt_of g0 (o := 2) rfl
    have hcap := r.cap
    obtain ⟨b, o, st, rfl, hc⟩ := r.cell 0 (tcells (x, u)) rfl
    obtain ⟨b', o', st', hbb, hd⟩ := r.cell 1 (tcells (z, w)) rfl
    cases hbb
    obtain ⟨ua, un, uc, rfl⟩ := hx.slice
    obtain ⟨wa, wn, wc, rfl⟩ := hz.slice
    have hc := cellsAt_ext hw e0 hc
    have hd := cellsAt_ext hw e0 hd
    have ih := sizes_any x _ _ w0 hk.2.2.2.1 (hx.ext hw e0)
    have ih2 := fun X (e : Ext _ X) (wX : Wf X) => sizes_any z _ X wX hk.2.2.2.2 ((hz.ext hw e0).ext w0 e)
    have h23 := okT_le hk.1
    rcases op_two hk.2.1 h23 with h | h | h | h | h | h | h | h | h | h <;> (dsimp only at h; subst h)
    all_goals
      repeat' ((conv => whnf); first
        | (refine Both.intro ?_ ?_ <;> intro _ <;> try (exfalso; omega))
        | (refine Need.intro (by omega) ?_)
        | (refine ⟨_, q2, ?_⟩)
        | (refine ⟨_, hc, ?_⟩)
        | (refine Does.mono ih ?_ ; rintro _ X ⟨y, m, rfl, hy, hm, hmp, e1, w1⟩ ; have p2 := cellAt_ext w0 e1 q2 ; have pd := cellsAt_ext w0 e1 hd)
        | (refine ⟨_, p2, ?_⟩)
        | (refine ⟨_, pd, ?_⟩)
        | (refine Does.mono (ih2 X e1 w1) ?_ ; rintro _ Y ⟨y', m', rfl, hy', hm', hmp', e2, w2⟩ ; have p0 := cellAt_ext w0 (e1.trans e2) q0)
        | (refine ⟨_, p0, ?_⟩)
        | (refine Does.mono (sum8_any Y (y) (y') 0 (by omega) (by omega) (by decide)) ?_ ; rintro _ _ ⟨rfl, rfl⟩)
        | (refine Does.mono (sum8_any Y (m) (m') 0 (by omega) (by omega) (by decide)) ?_ ; rintro _ _ ⟨rfl, rfl⟩)
        | (refine Does.mono (sum8_any Y (m) (y') 0 (by omega) (by omega) (by decide)) ?_ ; rintro _ _ ⟨rfl, rfl⟩)
        | (refine Does.mono (sum8_any Y (y) (m') 0 (by omega) (by omega) (by decide)) ?_ ; rintro _ _ ⟨rfl, rfl⟩)
        | (refine Does.mono (sum8_any Y (min (y + y' + 0 + 1) 2049) (min (m + m' + 0 + 1) 2049) 0 (by omega) (by omega) (by decide)) ?_ ; rintro _ _ ⟨rfl, rfl⟩)
        | (refine Does.mono (sum8_any Y (min (y + m' + 0 + 1) 2049) (min (m + y' + 0 + 1) 2049) 0 (by omega) (by omega) (by decide)) ?_ ; rintro _ _ ⟨rfl, rfl⟩)
        | fail)
      all_goals (conv => whnf)
      have hf := hk.2.2.1
      simp [fitK] at hf
      refine ⟨_, _, rfl, ?_, by omega, fun hp => ?_, (e0.trans e1).trans e2, w2⟩
      · first
        | (have h1 := hmp hf.1; have h2 := hmp' hf.2; simp [PT, joinP, put2]; omega)
        | (simp [PT, joinP, put2]; omega)
      · first
        | (simp [Tre.path, Tre.tok] at hp; done)
        | (have h1 := hmp hf.1; have h2 := hmp' hf.2; simp [PT, joinP, put2]; omega)
        | (have h2 := hmp' hf.2; simp [PT, joinP, put2]; omega)
end Go.AX.Try
/- rejoinderref08.K. -/
namespace Go.AX.Try
open Go Go.AX Go.AX.Lw Go.Proofs
set_option linter.unusedVariables false
set_option linter.unusedSimpArgs false
set_option maxRecDepth 100000
/-- Every effect leaves the blocks below N as they are. -/
def effKeep (N : Nat) : List (Nat × Ev) → Prop
  | [] => True
  | (_, .eff H H') :: r => (∀ b, b < N → H'.get b = H.get b) ∧ effKeep N r
  | _ :: r => effKeep N r
theorem effKeep_mem {N : Nat} : ∀ {l : List (Nat × Ev)}, effKeep N l → ∀ j H H', (j, Ev.eff H H') ∈ l → ∀ b, b < N → H'.get b = H.get b
  | [], _, _, _, _, h => by cases h
  | (i, e) :: r, h, j, H, H', hm => by
    cases e with
    | eff _ _ =>
      rcases List.mem_cons.1 hm with he | hm
      · cases he; exact h.1
      · exact effKeep_mem h.2 j H H' hm
    | _ =>
      rcases List.mem_cons.1 hm with he | hm
      · cases he
      · exact effKeep_mem (l := r) h j H H' hm
/-- A drawn region whose effects keep all that is looked at. -/
theorem draw_keep {ops : Array Oper} {tr : List (Nat × Ev)} {N : Nat} (h : effKeep N tr) (hl : lookOld N tr) (hm : makesOk ops tr tr = true) : DrawP ops tr := by
  refine draw_mix ?_
  have : ∀ l : List (Nat × Ev), (∀ x ∈ l, x ∈ tr) → effMix ops tr l := by
    intro l
    induction l with
    | nil => intro _; exact True.intro
    | cons x r ih =>
      intro hx
      have hr := ih fun y hy => hx y (by simp [hy])
      obtain ⟨j, e⟩ := x
      cases e with
      | eff H H' => exact ⟨lookMix_old (effKeep_mem h j H H' (hx _ (by simp))) hl (makesOk_mem hm j H H' (hx _ (by simp))), hr⟩
      | _ => exact hr
  exact this tr fun _ h => h
set_option maxHeartbeats 8000000 in
theorem K_any : ∀ (x : Tre) (v : Value) (no : Bool) (H : AHeap), Wf H → x.wk → x.lies 0 H v → (no = true → x.path = false) → (sel (PT x) no).length ≤ 2 ^ 20 →
    Does Try.prog orc 58 [tval (x, v), .bool no] H fun r H' => ∃ u, r = .ret u ∧ Fm H' u (sel (PT x) no) ∧ Ext H H' ∧ Wf H'
  | .n0 t, v, no, H, hw, hk, hl, hp, hlen => by
    obtain ⟨a, c, rfl⟩ := hl
    obtain ⟨op, p⟩ := t
    have hleaf := fun X wX => leaf8_any X wX ⟨op, p⟩ no hk.1 hk.2
    refine Does.of Try.func58 (fun _ _ => rfl) rfl ?_
    have g0 := get_new H (.cells [.int .u8 op, .int .u8 p, .slice a 0 c] 0 true)
    have w0 := hw.push (.cells [.int .u8 op, .int .u8 p, .slice a 0 c] 0 true)
    have e0 := Ext.push H (.cells [.int .u8 op, .int .u8 p, .slice a 0 c] 0 true)
    have q0 := cellAt_of g0 (o := 0) rfl
    have qa : cellsAt (H.push (.cells [.int .u8 op, .int .u8 p, .slice a 0 c] 0 true)) H.next 0 2 = some [.int .u8 op, .int .u8 p] := by simp only [cellsAt, g0]; rfl
    rcases op_none hk.2 with h | h | h | h | h | h <;> (dsimp only at h; subst h)
    all_goals
      repeat' ((conv => whnf); first
        | (refine Both.intro ?_ ?_ <;> intro _ <;> try (exfalso; omega))
        | (refine Need.intro (by omega) ?_)
        | (refine ⟨_, q0, ?_⟩)
        | (refine ⟨_, qa, ?_⟩)
        | (refine Does.mono (hleaf _ w0) ?_ ; rintro _ X ⟨u, rfl, f1, e1, w1⟩)
        | fail)
      all_goals (conv => whnf)
      exact ⟨_, rfl, f1, e0.trans e1, w1⟩
  | .n1 t x, v, no, H, hw, hk, hl, hp, hlen => by
    obtain ⟨a, c, u, rfl, -, r, hx⟩ := hl
    obtain ⟨op, p⟩ := t
    have g0 := get_new H (.cells [.int .u8 op, .int .u8 p, .slice a 1 c] 0 true)
    have w0 := hw.push (.cells [.int .u8 op, .int .u8 p, .slice a 1 c] 0 true)
    have e0 := Ext.push H (.cells [.int .u8 op, .int .u8 p, .slice a 1 c] 0 true)
    have q0 := cellAt_of g0 (o := 0) rfl
    have q2 := cellAt_of g0 (o := 2) rfl
    have hcap := r.cap
    obtain ⟨b, o, st, rfl, hc⟩ := r.cell 0 (tcells (x, u)) rfl
    obtain ⟨ua, un, uc, rfl⟩ := hx.slice
    have hb9 := cellAt_lt hw (cellsAt_cell hc (j := 0) rfl)
    have hc := cellsAt_ext hw e0 hc
    have hfx := hk.2.2.1
    have ihx := fun no' X wX e h1 h2 => K_any x (.slice ua un uc) no' X wX hk.2.2.2 ((hx.ext hw e0).ext w0 e) h1 h2
    have hop := op_one hk.2.1
    dsimp only at hop
    refine Does.of Try.func58 (fun _ _ => rfl) rfl ?_
    rcases hop with rfl | rfl | rfl | rfl | rfl | rfl | rfl | rfl <;> cases no <;> simp [fitK] at hfx <;> simp [sel, PT, joinP, put2, dualF] at hlen
    · skip
      repeat' ((conv => whnf); first
        | (refine Both.intro ?_ ?_ <;> intro _ <;> try (exfalso; omega))
        | (refine Need.intro (by omega) ?_)
        | (refine ⟨_, q0, ?_⟩)
        | (refine ⟨_, q2, ?_⟩)
        | (refine ⟨_, hc, ?_⟩)
        | (refine Does.mono (ihx true _ w0 (Ext.refl _) (by first | (intro h; cases h; done) | (intro _; exact hfx)) (by simp [sel]; omega)) ?_ ; rintro _ X1 ⟨u1, rfl, f1, e1, w1⟩ ; have n1 : H.next + 1 ≤ X1.next := e1.next)
        | (refine Need.intro (draw_keep (N := H.next + 1) (by (simp only [effKeep]; repeat' apply And.intro) <;> first | exact True.intro | exact fun _ _ => True.intro | exact fun _ _ => rfl | exact fun b hb => e1.get b (show _ < _ by omega) | exact fun b hb => e2.get b (by omega) | exact fun b hb => e3.get b (by omega) | exact fun b hb => e4.get b (by omega) | exact fun b hb => e5.get b (by omega) | exact fun b hb => e6.get b (by omega) | exact fun b hb => e7.get b (by omega) | exact fun b hb => eT.get b hb | exact fun b hb => e1.get b hb | exact fun b hb => e1.get b (show b < T.next + 1 by omega)) (by (simp only [lookOld]; repeat' apply And.intro) <;> first | exact True.intro | omega) (by kernel_rfl)) ?_)
        | fail)
      all_goals (conv => whnf)
      exact ⟨_, rfl, f1, e0.trans e1, w1⟩
    · skip
      repeat' ((conv => whnf); first
        | (refine Both.intro ?_ ?_ <;> intro _ <;> try (exfalso; omega))
        | (refine Need.intro (by omega) ?_)
        | (refine ⟨_, q0, ?_⟩)
        | (refine ⟨_, q2, ?_⟩)
        | (refine ⟨_, hc, ?_⟩)
        | (refine Does.mono (ihx false _ w0 (Ext.refl _) (by first | (intro h; cases h; done) | (intro _; exact hfx)) (by simp [sel]; omega)) ?_ ; rintro _ X1 ⟨u1, rfl, f1, e1, w1⟩ ; have n1 : H.next + 1 ≤ X1.next := e1.next)
        | (refine Need.intro (draw_keep (N := H.next + 1) (by (simp only [effKeep]; repeat' apply And.intro) <;> first | exact True.intro | exact fun _ _ => True.intro | exact fun _ _ => rfl | exact fun b hb => e1.get b (show _ < _ by omega) | exact fun b hb => e2.get b (by omega) | exact fun b hb => e3.get b (by omega) | exact fun b hb => e4.get b (by omega) | exact fun b hb => e5.get b (by omega) | exact fun b hb => e6.get b (by omega) | exact fun b hb => e7.get b (by omega) | exact fun b hb => eT.get b hb | exact fun b hb => e1.get b hb | exact fun b hb => e1.get b (show b < T.next + 1 by omega)) (by (simp only [lookOld]; repeat' apply And.intro) <;> first | exact True.intro | omega) (by kernel_rfl)) ?_)
        | fail)
      all_goals (conv => whnf)
      exact ⟨_, rfl, f1, e0.trans e1, w1⟩
    · skip
      repeat' ((conv => whnf); first
        | (refine Both.intro ?_ ?_ <;> intro _ <;> try (exfalso; omega))
        | (refine Need.intro (by omega) ?_)
        | (refine ⟨_, q0, ?_⟩)
        | (refine ⟨_, q2, ?_⟩)
        | (refine ⟨_, hc, ?_⟩)
        | (refine Does.mono (ihx false _ w0 (Ext.refl _) (by first | (intro h; cases h; done) | (intro _; exact hfx)) (by simp [sel]; omega)) ?_ ; rintro _ X1 ⟨u1, rfl, f1, e1, w1⟩ ; have n1 : H.next + 1 ≤ X1.next := e1.next)
        | (refine Does.mono (turned_any _ _ _ _) ?_ ; rintro _ _ ⟨rfl, rfl⟩)
        | (refine Does.mono (one8_any X1 w1 7 _ _ f1 (by simp [sel]; omega)) ?_ ; rintro _ X2 ⟨u2, rfl, f2, e2, w2⟩ ; have n2 : X1.next ≤ X2.next := e2.next)
        | (refine Need.intro (draw_keep (N := H.next + 1) (by (simp only [effKeep]; repeat' apply And.intro) <;> first | exact True.intro | exact fun _ _ => True.intro | exact fun _ _ => rfl | exact fun b hb => e1.get b (show _ < _ by omega) | exact fun b hb => e2.get b (by omega) | exact fun b hb => e3.get b (by omega) | exact fun b hb => e4.get b (by omega) | exact fun b hb => e5.get b (by omega) | exact fun b hb => e6.get b (by omega) | exact fun b hb => e7.get b (by omega) | exact fun b hb => eT.get b hb | exact fun b hb => e1.get b hb | exact fun b hb => e1.get b (show b < T.next + 1 by omega)) (by (simp only [lookOld]; repeat' apply And.intro) <;> first | exact True.intro | omega) (by kernel_rfl)) ?_)
        | fail)
      all_goals (conv => whnf)
      exact ⟨_, rfl, f2, (e0.trans e1).trans e2, w2⟩
    · skip
      repeat' ((conv => whnf); first
        | (refine Both.intro ?_ ?_ <;> intro _ <;> try (exfalso; omega))
        | (refine Need.intro (by omega) ?_)
        | (refine ⟨_, q0, ?_⟩)
        | (refine ⟨_, q2, ?_⟩)
        | (refine ⟨_, hc, ?_⟩)
        | (refine Does.mono (ihx true _ w0 (Ext.refl _) (by first | (intro h; cases h; done) | (intro _; exact hfx)) (by simp [sel]; omega)) ?_ ; rintro _ X1 ⟨u1, rfl, f1, e1, w1⟩ ; have n1 : H.next + 1 ≤ X1.next := e1.next)
        | (refine Does.mono (turned_any _ _ _ _) ?_ ; rintro _ _ ⟨rfl, rfl⟩)
        | (refine Does.mono (one8_any X1 w1 8 _ _ f1 (by simp [sel]; omega)) ?_ ; rintro _ X2 ⟨u2, rfl, f2, e2, w2⟩ ; have n2 : X1.next ≤ X2.next := e2.next)
        | (refine Need.intro (draw_keep (N := H.next + 1) (by (simp only [effKeep]; repeat' apply And.intro) <;> first | exact True.intro | exact fun _ _ => True.intro | exact fun _ _ => rfl | exact fun b hb => e1.get b (show _ < _ by omega) | exact fun b hb => e2.get b (by omega) | exact fun b hb => e3.get b (by omega) | exact fun b hb => e4.get b (by omega) | exact fun b hb => e5.get b (by omega) | exact fun b hb => e6.get b (by omega) | exact fun b hb => e7.get b (by omega) | exact fun b hb => eT.get b hb | exact fun b hb => e1.get b hb | exact fun b hb => e1.get b (show b < T.next + 1 by omega)) (by (simp only [lookOld]; repeat' apply And.intro) <;> first | exact True.intro | omega) (by kernel_rfl)) ?_)
        | fail)
      all_goals (conv => whnf)
      exact ⟨_, rfl, f2, (e0.trans e1).trans e2, w2⟩
    · skip
      repeat' ((conv => whnf); first
        | (refine Both.intro ?_ ?_ <;> intro _ <;> try (exfalso; omega))
        | (refine Need.intro (by omega) ?_)
        | (refine ⟨_, q0, ?_⟩)
        | (refine ⟨_, q2, ?_⟩)
        | (refine ⟨_, hc, ?_⟩)
        | (refine Does.mono (ihx false _ w0 (Ext.refl _) (by first | (intro h; cases h; done) | (intro _; exact hfx)) (by simp [sel]; omega)) ?_ ; rintro _ X1 ⟨u1, rfl, f1, e1, w1⟩ ; have n1 : H.next + 1 ≤ X1.next := e1.next)
        | (refine Does.mono (turned_any _ _ _ _) ?_ ; rintro _ _ ⟨rfl, rfl⟩)
        | (refine Does.mono (one8_any X1 w1 8 _ _ f1 (by simp [sel]; omega)) ?_ ; rintro _ X2 ⟨u2, rfl, f2, e2, w2⟩ ; have n2 : X1.next ≤ X2.next := e2.next)
        | (refine Need.intro (draw_keep (N := H.next + 1) (by (simp only [effKeep]; repeat' apply And.intro) <;> first | exact True.intro | exact fun _ _ => True.intro | exact fun _ _ => rfl | exact fun b hb => e1.get b (show _ < _ by omega) | exact fun b hb => e2.get b (by omega) | exact fun b hb => e3.get b (by omega) | exact fun b hb => e4.get b (by omega) | exact fun b hb => e5.get b (by omega) | exact fun b hb => e6.get b (by omega) | exact fun b hb => e7.get b (by omega) | exact fun b hb => eT.get b hb | exact fun b hb => e1.get b hb | exact fun b hb => e1.get b (show b < T.next + 1 by omega)) (by (simp only [lookOld]; repeat' apply And.intro) <;> first | exact True.intro | omega) (by kernel_rfl)) ?_)
        | fail)
      all_goals (conv => whnf)
      exact ⟨_, rfl, f2, (e0.trans e1).trans e2, w2⟩
    · skip
      repeat' ((conv => whnf); first
        | (refine Both.intro ?_ ?_ <;> intro _ <;> try (exfalso; omega))
        | (refine Need.intro (by omega) ?_)
        | (refine ⟨_, q0, ?_⟩)
        | (refine ⟨_, q2, ?_⟩)
        | (refine ⟨_, hc, ?_⟩)
        | (refine Does.mono (ihx true _ w0 (Ext.refl _) (by first | (intro h; cases h; done) | (intro _; exact hfx)) (by simp [sel]; omega)) ?_ ; rintro _ X1 ⟨u1, rfl, f1, e1, w1⟩ ; have n1 : H.next + 1 ≤ X1.next := e1.next)
        | (refine Does.mono (turned_any _ _ _ _) ?_ ; rintro _ _ ⟨rfl, rfl⟩)
        | (refine Does.mono (one8_any X1 w1 7 _ _ f1 (by simp [sel]; omega)) ?_ ; rintro _ X2 ⟨u2, rfl, f2, e2, w2⟩ ; have n2 : X1.next ≤ X2.next := e2.next)
        | (refine Need.intro (draw_keep (N := H.next + 1) (by (simp only [effKeep]; repeat' apply And.intro) <;> first | exact True.intro | exact fun _ _ => True.intro | exact fun _ _ => rfl | exact fun b hb => e1.get b (show _ < _ by omega) | exact fun b hb => e2.get b (by omega) | exact fun b hb => e3.get b (by omega) | exact fun b hb => e4.get b (by omega) | exact fun b hb => e5.get b (by omega) | exact fun b hb => e6.get b (by omega) | exact fun b hb => e7.get b (by omega) | exact fun b hb => eT.get b hb | exact fun b hb => e1.get b hb | exact fun b hb => e1.get b (show b < T.next + 1 by omega)) (by (simp only [lookOld]; repeat' apply And.intro) <;> first | exact True.intro | omega) (by kernel_rfl)) ?_)
        | fail)
      all_goals (conv => whnf)
      exact ⟨_, rfl, f2, (e0.trans e1).trans e2, w2⟩
    · skip
      repeat' ((conv => whnf); first
        | (refine Both.intro ?_ ?_ <;> intro _ <;> try (exfalso; omega))
        | (refine Need.intro (by omega) ?_)
        | (refine ⟨_, q0, ?_⟩)
        | (refine ⟨_, q2, ?_⟩)
        | (refine ⟨_, hc, ?_⟩)
        | (refine Does.mono (turned_any _ _ _ _) ?_ ; rintro _ _ ⟨rfl, rfl⟩)
        | (refine Does.mono (tok8_any _ w0 0) ?_ ; rintro _ T ⟨rfl, eT, wT⟩ ; have nT : H.next + 1 ≤ T.next := eT.next ; have eP := Ext.push T (.cells [.int .u8 0, .int .u8 0] 0 true) ; have wP := wT.push (.cells [.int .u8 0, .int .u8 0] 0 true) ; have fP : Fm (T.push (.cells [.int .u8 0, .int .u8 0] 0 true)) (.slice (some ⟨T.next, 0, none⟩) 1 1) [opT 0] := FmS.fm (S := fun _ => True) (fmS_block (l := [opT 0]) (get_new _ _) rfl True.intro) ; have q2 := cellAt_ext w0 (eT.trans eP) q2 ; have hc := cellsAt_ext w0 (eT.trans eP) hc)
        | (refine ⟨_, bsTok _ _, ?_⟩)
        | (refine Does.mono (ihx false _ wP (eT.trans eP) (by first | (intro h; cases h; done) | (intro _; exact hfx)) (by simp [sel]; omega)) ?_ ; rintro _ X1 ⟨u1, rfl, f1, e1, w1⟩ ; have n1 : T.next + 1 ≤ X1.next := e1.next)
        | (refine Does.mono (two8_any X1 w1 15 _ _ _ _ (fP.ext wP e1) f1 (by simp) (by simp [sel]; omega)) ?_ ; rintro _ X2 ⟨u2, rfl, f2, e2, w2⟩ ; have n2 : X1.next ≤ X2.next := e2.next)
        | (refine Need.intro (draw_mix (by dsimp only [effMix, lookMix]; (repeat' apply And.intro) <;> first | exact True.intro | exact .inr rfl | exact .inr (.inr rfl) | exact .inr (look_ext e2 (show _ < _ by omega)) | exact .inr (look_ext e1 (show _ < T.next + 1 by omega)) | exact .inr (look_ext eT (show _ < H.next + 1 by omega)) | exact .inr (.inr (e2.get _ (show _ < _ by omega)).symm) | exact .inr (.inr (e1.get _ (show _ < T.next + 1 by omega)).symm) | exact .inl rfl)) ?_)
        | fail)
      all_goals (conv => whnf)
      exact ⟨_, rfl, f2, ((e0.trans (eT.trans eP)).trans e1).trans e2, w2⟩
    · skip
      repeat' ((conv => whnf); first
        | (refine Both.intro ?_ ?_ <;> intro _ <;> try (exfalso; omega))
        | (refine Need.intro (by omega) ?_)
        | (refine ⟨_, q0, ?_⟩)
        | (refine ⟨_, q2, ?_⟩)
        | (refine ⟨_, hc, ?_⟩)
        | (refine Does.mono (turned_any _ _ _ _) ?_ ; rintro _ _ ⟨rfl, rfl⟩)
        | (refine Does.mono (tok8_any _ w0 1) ?_ ; rintro _ T ⟨rfl, eT, wT⟩ ; have nT : H.next + 1 ≤ T.next := eT.next ; have eP := Ext.push T (.cells [.int .u8 1, .int .u8 0] 0 true) ; have wP := wT.push (.cells [.int .u8 1, .int .u8 0] 0 true) ; have fP : Fm (T.push (.cells [.int .u8 1, .int .u8 0] 0 true)) (.slice (some ⟨T.next, 0, none⟩) 1 1) [opT 1] := FmS.fm (S := fun _ => True) (fmS_block (l := [opT 1]) (get_new _ _) rfl True.intro) ; have q2 := cellAt_ext w0 (eT.trans eP) q2 ; have hc := cellsAt_ext w0 (eT.trans eP) hc)
        | (refine ⟨_, bsTok _ _, ?_⟩)
        | (refine Does.mono (ihx true _ wP (eT.trans eP) (by first | (intro h; cases h; done) | (intro _; exact hfx)) (by simp [sel]; omega)) ?_ ; rintro _ X1 ⟨u1, rfl, f1, e1, w1⟩ ; have n1 : T.next + 1 ≤ X1.next := e1.next)
        | (refine Does.mono (two8_any X1 w1 16 _ _ _ _ (fP.ext wP e1) f1 (by simp) (by simp [sel]; omega)) ?_ ; rintro _ X2 ⟨u2, rfl, f2, e2, w2⟩ ; have n2 : X1.next ≤ X2.next := e2.next)
        | (refine Need.intro (draw_mix (by dsimp only [effMix, lookMix]; (repeat' apply And.intro) <;> first | exact True.intro | exact .inr rfl | exact .inr (.inr rfl) | exact .inr (look_ext e2 (show _ < _ by omega)) | exact .inr (look_ext e1 (show _ < T.next + 1 by omega)) | exact .inr (look_ext eT (show _ < H.next + 1 by omega)) | exact .inr (.inr (e2.get _ (show _ < _ by omega)).symm) | exact .inr (.inr (e1.get _ (show _ < T.next + 1 by omega)).symm) | exact .inl rfl)) ?_)
        | fail)
      all_goals (conv => whnf)
      exact ⟨_, rfl, f2, ((e0.trans (eT.trans eP)).trans e1).trans e2, w2⟩
    · skip
      repeat' ((conv => whnf); first
        | (refine Both.intro ?_ ?_ <;> intro _ <;> try (exfalso; omega))
        | (refine Need.intro (by omega) ?_)
        | (refine ⟨_, q0, ?_⟩)
        | (refine ⟨_, q2, ?_⟩)
        | (refine ⟨_, hc, ?_⟩)
        | (refine Does.mono (turned_any _ _ _ _) ?_ ; rintro _ _ ⟨rfl, rfl⟩)
        | (refine Does.mono (tok8_any _ w0 1) ?_ ; rintro _ T ⟨rfl, eT, wT⟩ ; have nT : H.next + 1 ≤ T.next := eT.next ; have eP := Ext.push T (.cells [.int .u8 1, .int .u8 0] 0 true) ; have wP := wT.push (.cells [.int .u8 1, .int .u8 0] 0 true) ; have fP : Fm (T.push (.cells [.int .u8 1, .int .u8 0] 0 true)) (.slice (some ⟨T.next, 0, none⟩) 1 1) [opT 1] := FmS.fm (S := fun _ => True) (fmS_block (l := [opT 1]) (get_new _ _) rfl True.intro) ; have q2 := cellAt_ext w0 (eT.trans eP) q2 ; have hc := cellsAt_ext w0 (eT.trans eP) hc)
        | (refine ⟨_, bsTok _ _, ?_⟩)
        | (refine Does.mono (ihx false _ wP (eT.trans eP) (by first | (intro h; cases h; done) | (intro _; exact hfx)) (by simp [sel]; omega)) ?_ ; rintro _ X1 ⟨u1, rfl, f1, e1, w1⟩ ; have n1 : T.next + 1 ≤ X1.next := e1.next)
        | (refine Does.mono (two8_any X1 w1 16 _ _ _ _ (fP.ext wP e1) f1 (by simp) (by simp [sel]; omega)) ?_ ; rintro _ X2 ⟨u2, rfl, f2, e2, w2⟩ ; have n2 : X1.next ≤ X2.next := e2.next)
        | (refine Need.intro (draw_mix (by dsimp only [effMix, lookMix]; (repeat' apply And.intro) <;> first | exact True.intro | exact .inr rfl | exact .inr (.inr rfl) | exact .inr (look_ext e2 (show _ < _ by omega)) | exact .inr (look_ext e1 (show _ < T.next + 1 by omega)) | exact .inr (look_ext eT (show _ < H.next + 1 by omega)) | exact .inr (.inr (e2.get _ (show _ < _ by omega)).symm) | exact .inr (.inr (e1.get _ (show _ < T.next + 1 by omega)).symm) | exact .inl rfl)) ?_)
        | fail)
      all_goals (conv => whnf)
      exact ⟨_, rfl, f2, ((e0.trans (eT.trans eP)).trans e1).trans e2, w2⟩
    · skip
      repeat' ((conv => whnf); first
        | (refine Both.intro ?_ ?_ <;> intro _ <;> try (exfalso; omega))
        | (refine Need.intro (by omega) ?_)
        | (refine ⟨_, q0, ?_⟩)
        | (refine ⟨_, q2, ?_⟩)
        | (refine ⟨_, hc, ?_⟩)
        | (refine Does.mono (turned_any _ _ _ _) ?_ ; rintro _ _ ⟨rfl, rfl⟩)
        | (refine Does.mono (tok8_any _ w0 0) ?_ ; rintro _ T ⟨rfl, eT, wT⟩ ; have nT : H.next + 1 ≤ T.next := eT.next ; have eP := Ext.push T (.cells [.int .u8 0, .int .u8 0] 0 true) ; have wP := wT.push (.cells [.int .u8 0, .int .u8 0] 0 true) ; have fP : Fm (T.push (.cells [.int .u8 0, .int .u8 0] 0 true)) (.slice (some ⟨T.next, 0, none⟩) 1 1) [opT 0] := FmS.fm (S := fun _ => True) (fmS_block (l := [opT 0]) (get_new _ _) rfl True.intro) ; have q2 := cellAt_ext w0 (eT.trans eP) q2 ; have hc := cellsAt_ext w0 (eT.trans eP) hc)
        | (refine ⟨_, bsTok _ _, ?_⟩)
        | (refine Does.mono (ihx true _ wP (eT.trans eP) (by first | (intro h; cases h; done) | (intro _; exact hfx)) (by simp [sel]; omega)) ?_ ; rintro _ X1 ⟨u1, rfl, f1, e1, w1⟩ ; have n1 : T.next + 1 ≤ X1.next := e1.next)
        | (refine Does.mono (two8_any X1 w1 15 _ _ _ _ (fP.ext wP e1) f1 (by simp) (by simp [sel]; omega)) ?_ ; rintro _ X2 ⟨u2, rfl, f2, e2, w2⟩ ; have n2 : X1.next ≤ X2.next := e2.next)
        | (refine Need.intro (draw_mix (by dsimp only [effMix, lookMix]; (repeat' apply And.intro) <;> first | exact True.intro | exact .inr rfl | exact .inr (.inr rfl) | exact .inr (look_ext e2 (show _ < _ by omega)) | exact .inr (look_ext e1 (show _ < T.next + 1 by omega)) | exact .inr (look_ext eT (show _ < H.next + 1 by omega)) | exact .inr (.inr (e2.get _ (show _ < _ by omega)).symm) | exact .inr (.inr (e1.get _ (show _ < T.next + 1 by omega)).symm) | exact .inl rfl)) ?_)
        | fail)
      all_goals (conv => whnf)
      exact ⟨_, rfl, f2, ((e0.trans (eT.trans eP)).trans e1).trans e2, w2⟩
    · skip
      repeat' ((conv => whnf); first
        | (refine Both.intro ?_ ?_ <;> intro _ <;> try (exfalso; omega))
        | (refine Need.intro (by omega) ?_)
        | (refine ⟨_, q0, ?_⟩)
        | (refine ⟨_, q2, ?_⟩)
        | (refine ⟨_, hc, ?_⟩)
        | (refine Does.mono (ihx false _ w0 (Ext.refl _) (by first | (intro h; cases h; done) | (intro _; exact hfx)) (by simp [sel]; omega)) ?_ ; rintro _ X1 ⟨u1, rfl, f1, e1, w1⟩ ; have n1 : H.next + 1 ≤ X1.next := e1.next ; have p0 := cellAt_ext w0 e1 q0)
        | (refine ⟨_, p0, ?_⟩)
        | (refine Does.mono (one8_any X1 w1 19 _ _ f1 (by simp [sel]; omega)) ?_ ; rintro _ X2 ⟨u2, rfl, f2, e2, w2⟩ ; have n2 : X1.next ≤ X2.next := e2.next)
        | (refine Need.intro (draw_keep (N := H.next + 1) (by (simp only [effKeep]; repeat' apply And.intro) <;> first | exact True.intro | exact fun _ _ => True.intro | exact fun _ _ => rfl | exact fun b hb => e1.get b (show _ < _ by omega) | exact fun b hb => e2.get b (by omega) | exact fun b hb => e3.get b (by omega) | exact fun b hb => e4.get b (by omega) | exact fun b hb => e5.get b (by omega) | exact fun b hb => e6.get b (by omega) | exact fun b hb => e7.get b (by omega) | exact fun b hb => eT.get b hb | exact fun b hb => e1.get b hb | exact fun b hb => e1.get b (show b < T.next + 1 by omega)) (by (simp only [lookOld]; repeat' apply And.intro) <;> first | exact True.intro | omega) (by kernel_rfl)) ?_)
        | fail)
      all_goals (conv => whnf)
      exact ⟨_, rfl, f2, (e0.trans e1).trans e2, w2⟩
    · skip
      exact absurd (hp rfl) (by simp [Tre.path, Tre.tok])
    · skip
      repeat' ((conv => whnf); first
        | (refine Both.intro ?_ ?_ <;> intro _ <;> try (exfalso; omega))
        | (refine Need.intro (by omega) ?_)
        | (refine ⟨_, q0, ?_⟩)
        | (refine ⟨_, q2, ?_⟩)
        | (refine ⟨_, hc, ?_⟩)
        | (refine Does.mono (ihx false _ w0 (Ext.refl _) (by first | (intro h; cases h; done) | (intro _; exact hfx)) (by simp [sel]; omega)) ?_ ; rintro _ X1 ⟨u1, rfl, f1, e1, w1⟩ ; have n1 : H.next + 1 ≤ X1.next := e1.next ; have p0 := cellAt_ext w0 e1 q0)
        | (refine ⟨_, p0, ?_⟩)
        | (refine Does.mono (one8_any X1 w1 20 _ _ f1 (by simp [sel]; omega)) ?_ ; rintro _ X2 ⟨u2, rfl, f2, e2, w2⟩ ; have n2 : X1.next ≤ X2.next := e2.next)
        | (refine Need.intro (draw_keep (N := H.next + 1) (by (simp only [effKeep]; repeat' apply And.intro) <;> first | exact True.intro | exact fun _ _ => True.intro | exact fun _ _ => rfl | exact fun b hb => e1.get b (show _ < _ by omega) | exact fun b hb => e2.get b (by omega) | exact fun b hb => e3.get b (by omega) | exact fun b hb => e4.get b (by omega) | exact fun b hb => e5.get b (by omega) | exact fun b hb => e6.get b (by omega) | exact fun b hb => e7.get b (by omega) | exact fun b hb => eT.get b hb | exact fun b hb => e1.get b hb | exact fun b hb => e1.get b (show b < T.next + 1 by omega)) (by (simp only [lookOld]; repeat' apply And.intro) <;> first | exact True.intro | omega) (by kernel_rfl)) ?_)
        | fail)
      all_goals (conv => whnf)
      exact ⟨_, rfl, f2, (e0.trans e1).trans e2, w2⟩
    · skip
      exact absurd (hp rfl) (by simp [Tre.path, Tre.tok])
    · skip
      repeat' ((conv => whnf); first
        | (refine Both.intro ?_ ?_ <;> intro _ <;> try (exfalso; omega))
        | (refine Need.intro (by omega) ?_)
        | (refine ⟨_, q0, ?_⟩)
        | (refine ⟨_, q2, ?_⟩)
        | (refine ⟨_, hc, ?_⟩)
        | (refine Does.mono (ihx false _ w0 (Ext.refl _) (by first | (intro h; cases h; done) | (intro _; exact hfx)) (by simp [sel]; omega)) ?_ ; rintro _ X1 ⟨u1, rfl, f1, e1, w1⟩ ; have n1 : H.next + 1 ≤ X1.next := e1.next ; have p0 := cellAt_ext w0 e1 q0)
        | (refine ⟨_, p0, ?_⟩)
        | (refine Does.mono (one8_any X1 w1 23 _ _ f1 (by simp [sel]; omega)) ?_ ; rintro _ X2 ⟨u2, rfl, f2, e2, w2⟩ ; have n2 : X1.next ≤ X2.next := e2.next)
        | (refine Need.intro (draw_keep (N := H.next + 1) (by (simp only [effKeep]; repeat' apply And.intro) <;> first | exact True.intro | exact fun _ _ => True.intro | exact fun _ _ => rfl | exact fun b hb => e1.get b (show _ < _ by omega) | exact fun b hb => e2.get b (by omega) | exact fun b hb => e3.get b (by omega) | exact fun b hb => e4.get b (by omega) | exact fun b hb => e5.get b (by omega) | exact fun b hb => e6.get b (by omega) | exact fun b hb => e7.get b (by omega) | exact fun b hb => eT.get b hb | exact fun b hb => e1.get b hb | exact fun b hb => e1.get b (show b < T.next + 1 by omega)) (by (simp only [lookOld]; repeat' apply And.intro) <;> first | exact True.intro | omega) (by kernel_rfl)) ?_)
        | fail)
      all_goals (conv => whnf)
      exact ⟨_, rfl, f2, (e0.trans e1).trans e2, w2⟩
    · skip
      exact absurd (hp rfl) (by simp [Tre.path, Tre.tok])
  | .n2 t x z, v, no, H, hw, hk, hl, hp, hlen => by
    obtain ⟨a, c, u, w, rfl, -, r, hx, hz⟩ := hl
    obtain ⟨op, p⟩ := t
    have g0 := get_new H (.cells [.int .u8 op, .int .u8 p, .slice a 2 c] 0 true)
    have w0 := hw.push (.cells [.int .u8 op, .int .u8 p, .slice a 2 c] 0 true)
    have e0 := Ext.push H (.cells [.int .u8 op, .int .u8 p, .slice a 2 c] 0 true)
    have q0 := cellAt_of g0 (o := 0) rfl
    have q2 := cellAt_of g0 (o := 2) rfl
    have hcap := r.cap
    obtain ⟨b, o, st, rfl, hc⟩ := r.cell 0 (tcells (x, u)) rfl
    obtain ⟨b', o', st', hbb, hd⟩ := r.cell 1 (tcells (z, w)) rfl
    cases hbb
    obtain ⟨ua, un, uc, rfl⟩ := hx.slice
    obtain ⟨wa, wn, wc, rfl⟩ := hz.slice
    have hb9 := cellAt_lt hw (cellsAt_cell hc (j := 0) rfl)
    have hc := cellsAt_ext hw e0 hc
    have hd := cellsAt_ext hw e0 hd
    have hf := hk.2.2.1
    have ihx := fun no' X wX e h1 h2 => K_any x (.slice ua un uc) no' X wX hk.2.2.2.1 ((hx.ext hw e0).ext w0 e) h1 h2
    have ihz := fun no' X wX e h1 h2 => K_any z (.slice wa wn wc) no' X wX hk.2.2.2.2 ((hz.ext hw e0).ext w0 e) h1 h2
    have hop := op_two hk.2.1 (okT_le hk.1)
    dsimp only at hop
    refine Does.of Try.func58 (fun _ _ => rfl) rfl ?_
    rcases hop with rfl | rfl | rfl | rfl | rfl | rfl | rfl | rfl | rfl | rfl <;> cases no <;> simp [fitK] at hf <;> obtain ⟨hfx, hfz⟩ := hf <;> simp [sel, PT, joinP, put2, dualF] at hlen
    · skip
      repeat' ((conv => whnf); first
        | (refine Both.intro ?_ ?_ <;> intro _ <;> try (exfalso; omega))
        | (refine Need.intro (by omega) ?_)
        | (refine ⟨_, q0, ?_⟩)
        | (refine ⟨_, q2, ?_⟩)
        | (refine ⟨_, hc, ?_⟩)
        | (refine Does.mono (ihx false _ w0 (Ext.refl _) (by first | (intro h; cases h; done) | (intro _; exact hfx)) (by simp [sel]; omega)) ?_ ; rintro _ X1 ⟨u1, rfl, f1, e1, w1⟩ ; have n1 : H.next + 1 ≤ X1.next := e1.next ; have q2_1 := cellAt_ext w0 e1 q2 ; have hc_1 := cellsAt_ext w0 e1 hc ; have hd_1 := cellsAt_ext w0 e1 hd ; have q0_1 := cellAt_ext w0 e1 q0)
        | (refine ⟨_, q2_1, ?_⟩)
        | (refine ⟨_, hc_1, ?_⟩)
        | (refine ⟨_, hd_1, ?_⟩)
        | (refine ⟨_, q0_1, ?_⟩)
        | (refine Does.mono (ihz false X1 w1 e1 (by first | (intro h; cases h; done) | (intro _; exact hfz)) (by simp [sel]; omega)) ?_ ; rintro _ X2 ⟨u2, rfl, f2, e2, w2⟩ ; have n2 : X1.next ≤ X2.next := e2.next ; have q2_2 := cellAt_ext w0 (e1.trans e2) q2 ; have hc_2 := cellsAt_ext w0 (e1.trans e2) hc ; have hd_2 := cellsAt_ext w0 (e1.trans e2) hd ; have q0_2 := cellAt_ext w0 (e1.trans e2) q0)
        | (refine Does.mono (turned_any _ _ _ _) ?_ ; rintro _ _ ⟨rfl, rfl⟩)
        | (refine ⟨_, q2_2, ?_⟩)
        | (refine ⟨_, hc_2, ?_⟩)
        | (refine ⟨_, hd_2, ?_⟩)
        | (refine ⟨_, q0_2, ?_⟩)
        | (refine Does.mono (two8_any X2 w2 11 _ _ _ _ (f1.ext w1 e2) f2 (by simp [sel, put2]; omega) (by simp [sel, put2]; omega)) ?_ ; rintro _ X3 ⟨u3, rfl, f3, e3, w3⟩ ; have n3 : X2.next ≤ X3.next := e3.next)
        | (refine Need.intro (draw_keep (N := H.next + 1) (by (simp only [effKeep]; repeat' apply And.intro) <;> first | exact True.intro | exact fun _ _ => True.intro | exact fun _ _ => rfl | exact fun b hb => e1.get b (show _ < _ by omega) | exact fun b hb => e2.get b (by omega) | exact fun b hb => e3.get b (by omega) | exact fun b hb => e4.get b (by omega) | exact fun b hb => e5.get b (by omega) | exact fun b hb => e6.get b (by omega) | exact fun b hb => e7.get b (by omega) | exact fun b hb => eT.get b hb | exact fun b hb => e1.get b hb | exact fun b hb => e1.get b (show b < T.next + 1 by omega)) (by (simp only [lookOld]; repeat' apply And.intro) <;> first | exact True.intro | omega) (by kernel_rfl)) ?_)
        | fail)
      all_goals (conv => whnf)
      exact ⟨_, rfl, f3, (e0.trans e1).trans (e2.trans e3), w3⟩
    · skip
      repeat' ((conv => whnf); first
        | (refine Both.intro ?_ ?_ <;> intro _ <;> try (exfalso; omega))
        | (refine Need.intro (by omega) ?_)
        | (refine ⟨_, q0, ?_⟩)
        | (refine ⟨_, q2, ?_⟩)
        | (refine ⟨_, hc, ?_⟩)
        | (refine Does.mono (ihx true _ w0 (Ext.refl _) (by first | (intro h; cases h; done) | (intro _; exact hfx)) (by simp [sel]; omega)) ?_ ; rintro _ X1 ⟨u1, rfl, f1, e1, w1⟩ ; have n1 : H.next + 1 ≤ X1.next := e1.next ; have q2_1 := cellAt_ext w0 e1 q2 ; have hc_1 := cellsAt_ext w0 e1 hc ; have hd_1 := cellsAt_ext w0 e1 hd ; have q0_1 := cellAt_ext w0 e1 q0)
        | (refine ⟨_, q2_1, ?_⟩)
        | (refine ⟨_, hc_1, ?_⟩)
        | (refine ⟨_, hd_1, ?_⟩)
        | (refine ⟨_, q0_1, ?_⟩)
        | (refine Does.mono (ihz true X1 w1 e1 (by first | (intro h; cases h; done) | (intro _; exact hfz)) (by simp [sel]; omega)) ?_ ; rintro _ X2 ⟨u2, rfl, f2, e2, w2⟩ ; have n2 : X1.next ≤ X2.next := e2.next ; have q2_2 := cellAt_ext w0 (e1.trans e2) q2 ; have hc_2 := cellsAt_ext w0 (e1.trans e2) hc ; have hd_2 := cellsAt_ext w0 (e1.trans e2) hd ; have q0_2 := cellAt_ext w0 (e1.trans e2) q0)
        | (refine Does.mono (turned_any _ _ _ _) ?_ ; rintro _ _ ⟨rfl, rfl⟩)
        | (refine ⟨_, q2_2, ?_⟩)
        | (refine ⟨_, hc_2, ?_⟩)
        | (refine ⟨_, hd_2, ?_⟩)
        | (refine ⟨_, q0_2, ?_⟩)
        | (refine Does.mono (two8_any X2 w2 12 _ _ _ _ (f1.ext w1 e2) f2 (by simp [sel, put2]; omega) (by simp [sel, put2]; omega)) ?_ ; rintro _ X3 ⟨u3, rfl, f3, e3, w3⟩ ; have n3 : X2.next ≤ X3.next := e3.next)
        | (refine Need.intro (draw_keep (N := H.next + 1) (by (simp only [effKeep]; repeat' apply And.intro) <;> first | exact True.intro | exact fun _ _ => True.intro | exact fun _ _ => rfl | exact fun b hb => e1.get b (show _ < _ by omega) | exact fun b hb => e2.get b (by omega) | exact fun b hb => e3.get b (by omega) | exact fun b hb => e4.get b (by omega) | exact fun b hb => e5.get b (by omega) | exact fun b hb => e6.get b (by omega) | exact fun b hb => e7.get b (by omega) | exact fun b hb => eT.get b hb | exact fun b hb => e1.get b hb | exact fun b hb => e1.get b (show b < T.next + 1 by omega)) (by (simp only [lookOld]; repeat' apply And.intro) <;> first | exact True.intro | omega) (by kernel_rfl)) ?_)
        | fail)
      all_goals (conv => whnf)
      exact ⟨_, rfl, f3, (e0.trans e1).trans (e2.trans e3), w3⟩
    · skip
      repeat' ((conv => whnf); first
        | (refine Both.intro ?_ ?_ <;> intro _ <;> try (exfalso; omega))
        | (refine Need.intro (by omega) ?_)
        | (refine ⟨_, q0, ?_⟩)
        | (refine ⟨_, q2, ?_⟩)
        | (refine ⟨_, hc, ?_⟩)
        | (refine Does.mono (ihx false _ w0 (Ext.refl _) (by first | (intro h; cases h; done) | (intro _; exact hfx)) (by simp [sel]; omega)) ?_ ; rintro _ X1 ⟨u1, rfl, f1, e1, w1⟩ ; have n1 : H.next + 1 ≤ X1.next := e1.next ; have q2_1 := cellAt_ext w0 e1 q2 ; have hc_1 := cellsAt_ext w0 e1 hc ; have hd_1 := cellsAt_ext w0 e1 hd ; have q0_1 := cellAt_ext w0 e1 q0)
        | (refine ⟨_, q2_1, ?_⟩)
        | (refine ⟨_, hc_1, ?_⟩)
        | (refine ⟨_, hd_1, ?_⟩)
        | (refine ⟨_, q0_1, ?_⟩)
        | (refine Does.mono (ihz false X1 w1 e1 (by first | (intro h; cases h; done) | (intro _; exact hfz)) (by simp [sel]; omega)) ?_ ; rintro _ X2 ⟨u2, rfl, f2, e2, w2⟩ ; have n2 : X1.next ≤ X2.next := e2.next ; have q2_2 := cellAt_ext w0 (e1.trans e2) q2 ; have hc_2 := cellsAt_ext w0 (e1.trans e2) hc ; have hd_2 := cellsAt_ext w0 (e1.trans e2) hd ; have q0_2 := cellAt_ext w0 (e1.trans e2) q0)
        | (refine Does.mono (turned_any _ _ _ _) ?_ ; rintro _ _ ⟨rfl, rfl⟩)
        | (refine ⟨_, q2_2, ?_⟩)
        | (refine ⟨_, hc_2, ?_⟩)
        | (refine ⟨_, hd_2, ?_⟩)
        | (refine ⟨_, q0_2, ?_⟩)
        | (refine Does.mono (two8_any X2 w2 12 _ _ _ _ (f1.ext w1 e2) f2 (by simp [sel, put2]; omega) (by simp [sel, put2]; omega)) ?_ ; rintro _ X3 ⟨u3, rfl, f3, e3, w3⟩ ; have n3 : X2.next ≤ X3.next := e3.next)
        | (refine Need.intro (draw_keep (N := H.next + 1) (by (simp only [effKeep]; repeat' apply And.intro) <;> first | exact True.intro | exact fun _ _ => True.intro | exact fun _ _ => rfl | exact fun b hb => e1.get b (show _ < _ by omega) | exact fun b hb => e2.get b (by omega) | exact fun b hb => e3.get b (by omega) | exact fun b hb => e4.get b (by omega) | exact fun b hb => e5.get b (by omega) | exact fun b hb => e6.get b (by omega) | exact fun b hb => e7.get b (by omega) | exact fun b hb => eT.get b hb | exact fun b hb => e1.get b hb | exact fun b hb => e1.get b (show b < T.next + 1 by omega)) (by (simp only [lookOld]; repeat' apply And.intro) <;> first | exact True.intro | omega) (by kernel_rfl)) ?_)
        | fail)
      all_goals (conv => whnf)
      exact ⟨_, rfl, f3, (e0.trans e1).trans (e2.trans e3), w3⟩
    · skip
      repeat' ((conv => whnf); first
        | (refine Both.intro ?_ ?_ <;> intro _ <;> try (exfalso; omega))
        | (refine Need.intro (by omega) ?_)
        | (refine ⟨_, q0, ?_⟩)
        | (refine ⟨_, q2, ?_⟩)
        | (refine ⟨_, hc, ?_⟩)
        | (refine Does.mono (ihx true _ w0 (Ext.refl _) (by first | (intro h; cases h; done) | (intro _; exact hfx)) (by simp [sel]; omega)) ?_ ; rintro _ X1 ⟨u1, rfl, f1, e1, w1⟩ ; have n1 : H.next + 1 ≤ X1.next := e1.next ; have q2_1 := cellAt_ext w0 e1 q2 ; have hc_1 := cellsAt_ext w0 e1 hc ; have hd_1 := cellsAt_ext w0 e1 hd ; have q0_1 := cellAt_ext w0 e1 q0)
        | (refine ⟨_, q2_1, ?_⟩)
        | (refine ⟨_, hc_1, ?_⟩)
        | (refine ⟨_, hd_1, ?_⟩)
        | (refine ⟨_, q0_1, ?_⟩)
        | (refine Does.mono (ihz true X1 w1 e1 (by first | (intro h; cases h; done) | (intro _; exact hfz)) (by simp [sel]; omega)) ?_ ; rintro _ X2 ⟨u2, rfl, f2, e2, w2⟩ ; have n2 : X1.next ≤ X2.next := e2.next ; have q2_2 := cellAt_ext w0 (e1.trans e2) q2 ; have hc_2 := cellsAt_ext w0 (e1.trans e2) hc ; have hd_2 := cellsAt_ext w0 (e1.trans e2) hd ; have q0_2 := cellAt_ext w0 (e1.trans e2) q0)
        | (refine Does.mono (turned_any _ _ _ _) ?_ ; rintro _ _ ⟨rfl, rfl⟩)
        | (refine ⟨_, q2_2, ?_⟩)
        | (refine ⟨_, hc_2, ?_⟩)
        | (refine ⟨_, hd_2, ?_⟩)
        | (refine ⟨_, q0_2, ?_⟩)
        | (refine Does.mono (two8_any X2 w2 11 _ _ _ _ (f1.ext w1 e2) f2 (by simp [sel, put2]; omega) (by simp [sel, put2]; omega)) ?_ ; rintro _ X3 ⟨u3, rfl, f3, e3, w3⟩ ; have n3 : X2.next ≤ X3.next := e3.next)
        | (refine Need.intro (draw_keep (N := H.next + 1) (by (simp only [effKeep]; repeat' apply And.intro) <;> first | exact True.intro | exact fun _ _ => True.intro | exact fun _ _ => rfl | exact fun b hb => e1.get b (show _ < _ by omega) | exact fun b hb => e2.get b (by omega) | exact fun b hb => e3.get b (by omega) | exact fun b hb => e4.get b (by omega) | exact fun b hb => e5.get b (by omega) | exact fun b hb => e6.get b (by omega) | exact fun b hb => e7.get b (by omega) | exact fun b hb => eT.get b hb | exact fun b hb => e1.get b hb | exact fun b hb => e1.get b (show b < T.next + 1 by omega)) (by (simp only [lookOld]; repeat' apply And.intro) <;> first | exact True.intro | omega) (by kernel_rfl)) ?_)
        | fail)
      all_goals (conv => whnf)
      exact ⟨_, rfl, f3, (e0.trans e1).trans (e2.trans e3), w3⟩
    · skip
      repeat' ((conv => whnf); first
        | (refine Both.intro ?_ ?_ <;> intro _ <;> try (exfalso; omega))
        | (refine Need.intro (by omega) ?_)
        | (refine ⟨_, q0, ?_⟩)
        | (refine ⟨_, q2, ?_⟩)
        | (refine ⟨_, hc, ?_⟩)
        | (refine Does.mono (ihx true _ w0 (Ext.refl _) (by first | (intro h; cases h; done) | (intro _; exact hfx)) (by simp [sel]; omega)) ?_ ; rintro _ X1 ⟨u1, rfl, f1, e1, w1⟩ ; have n1 : H.next + 1 ≤ X1.next := e1.next ; have q2_1 := cellAt_ext w0 e1 q2 ; have hc_1 := cellsAt_ext w0 e1 hc ; have hd_1 := cellsAt_ext w0 e1 hd ; have q0_1 := cellAt_ext w0 e1 q0)
        | (refine ⟨_, q2_1, ?_⟩)
        | (refine ⟨_, hc_1, ?_⟩)
        | (refine ⟨_, hd_1, ?_⟩)
        | (refine ⟨_, q0_1, ?_⟩)
        | (refine Does.mono (ihz false X1 w1 e1 (by first | (intro h; cases h; done) | (intro _; exact hfz)) (by simp [sel]; omega)) ?_ ; rintro _ X2 ⟨u2, rfl, f2, e2, w2⟩ ; have n2 : X1.next ≤ X2.next := e2.next ; have q2_2 := cellAt_ext w0 (e1.trans e2) q2 ; have hc_2 := cellsAt_ext w0 (e1.trans e2) hc ; have hd_2 := cellsAt_ext w0 (e1.trans e2) hd ; have q0_2 := cellAt_ext w0 (e1.trans e2) q0)
        | (refine Does.mono (turned_any _ _ _ _) ?_ ; rintro _ _ ⟨rfl, rfl⟩)
        | (refine ⟨_, q2_2, ?_⟩)
        | (refine ⟨_, hc_2, ?_⟩)
        | (refine ⟨_, hd_2, ?_⟩)
        | (refine ⟨_, q0_2, ?_⟩)
        | (refine Does.mono (two8_any X2 w2 12 _ _ _ _ (f1.ext w1 e2) f2 (by simp [sel, put2]; omega) (by simp [sel, put2]; omega)) ?_ ; rintro _ X3 ⟨u3, rfl, f3, e3, w3⟩ ; have n3 : X2.next ≤ X3.next := e3.next)
        | (refine Need.intro (draw_keep (N := H.next + 1) (by (simp only [effKeep]; repeat' apply And.intro) <;> first | exact True.intro | exact fun _ _ => True.intro | exact fun _ _ => rfl | exact fun b hb => e1.get b (show _ < _ by omega) | exact fun b hb => e2.get b (by omega) | exact fun b hb => e3.get b (by omega) | exact fun b hb => e4.get b (by omega) | exact fun b hb => e5.get b (by omega) | exact fun b hb => e6.get b (by omega) | exact fun b hb => e7.get b (by omega) | exact fun b hb => eT.get b hb | exact fun b hb => e1.get b hb | exact fun b hb => e1.get b (show b < T.next + 1 by omega)) (by (simp only [lookOld]; repeat' apply And.intro) <;> first | exact True.intro | omega) (by kernel_rfl)) ?_)
        | fail)
      all_goals (conv => whnf)
      exact ⟨_, rfl, f3, (e0.trans e1).trans (e2.trans e3), w3⟩
    · skip
      repeat' ((conv => whnf); first
        | (refine Both.intro ?_ ?_ <;> intro _ <;> try (exfalso; omega))
        | (refine Need.intro (by omega) ?_)
        | (refine ⟨_, q0, ?_⟩)
        | (refine ⟨_, q2, ?_⟩)
        | (refine ⟨_, hc, ?_⟩)
        | (refine Does.mono (ihx false _ w0 (Ext.refl _) (by first | (intro h; cases h; done) | (intro _; exact hfx)) (by simp [sel]; omega)) ?_ ; rintro _ X1 ⟨u1, rfl, f1, e1, w1⟩ ; have n1 : H.next + 1 ≤ X1.next := e1.next ; have q2_1 := cellAt_ext w0 e1 q2 ; have hc_1 := cellsAt_ext w0 e1 hc ; have hd_1 := cellsAt_ext w0 e1 hd ; have q0_1 := cellAt_ext w0 e1 q0)
        | (refine ⟨_, q2_1, ?_⟩)
        | (refine ⟨_, hc_1, ?_⟩)
        | (refine ⟨_, hd_1, ?_⟩)
        | (refine ⟨_, q0_1, ?_⟩)
        | (refine Does.mono (ihz true X1 w1 e1 (by first | (intro h; cases h; done) | (intro _; exact hfz)) (by simp [sel]; omega)) ?_ ; rintro _ X2 ⟨u2, rfl, f2, e2, w2⟩ ; have n2 : X1.next ≤ X2.next := e2.next ; have q2_2 := cellAt_ext w0 (e1.trans e2) q2 ; have hc_2 := cellsAt_ext w0 (e1.trans e2) hc ; have hd_2 := cellsAt_ext w0 (e1.trans e2) hd ; have q0_2 := cellAt_ext w0 (e1.trans e2) q0)
        | (refine Does.mono (turned_any _ _ _ _) ?_ ; rintro _ _ ⟨rfl, rfl⟩)
        | (refine ⟨_, q2_2, ?_⟩)
        | (refine ⟨_, hc_2, ?_⟩)
        | (refine ⟨_, hd_2, ?_⟩)
        | (refine ⟨_, q0_2, ?_⟩)
        | (refine Does.mono (two8_any X2 w2 11 _ _ _ _ (f1.ext w1 e2) f2 (by simp [sel, put2]; omega) (by simp [sel, put2]; omega)) ?_ ; rintro _ X3 ⟨u3, rfl, f3, e3, w3⟩ ; have n3 : X2.next ≤ X3.next := e3.next)
        | (refine Need.intro (draw_keep (N := H.next + 1) (by (simp only [effKeep]; repeat' apply And.intro) <;> first | exact True.intro | exact fun _ _ => True.intro | exact fun _ _ => rfl | exact fun b hb => e1.get b (show _ < _ by omega) | exact fun b hb => e2.get b (by omega) | exact fun b hb => e3.get b (by omega) | exact fun b hb => e4.get b (by omega) | exact fun b hb => e5.get b (by omega) | exact fun b hb => e6.get b (by omega) | exact fun b hb => e7.get b (by omega) | exact fun b hb => eT.get b hb | exact fun b hb => e1.get b hb | exact fun b hb => e1.get b (show b < T.next + 1 by omega)) (by (simp only [lookOld]; repeat' apply And.intro) <;> first | exact True.intro | omega) (by kernel_rfl)) ?_)
        | fail)
      all_goals (conv => whnf)
      exact ⟨_, rfl, f3, (e0.trans e1).trans (e2.trans e3), w3⟩
    · skip
      repeat' ((conv => whnf); first
        | (refine Both.intro ?_ ?_ <;> intro _ <;> try (exfalso; omega))
        | (refine Need.intro (by omega) ?_)
        | (refine ⟨_, q0, ?_⟩)
        | (refine ⟨_, q2, ?_⟩)
        | (refine ⟨_, hc, ?_⟩)
        | (refine Does.mono (ihx false _ w0 (Ext.refl _) (by first | (intro h; cases h; done) | (intro _; exact hfx)) (by simp [sel]; omega)) ?_ ; rintro _ X1 ⟨u1, rfl, f1, e1, w1⟩ ; have n1 : H.next + 1 ≤ X1.next := e1.next ; have q2_1 := cellAt_ext w0 e1 q2 ; have hc_1 := cellsAt_ext w0 e1 hc ; have hd_1 := cellsAt_ext w0 e1 hd ; have q0_1 := cellAt_ext w0 e1 q0)
        | (refine ⟨_, q2_1, ?_⟩)
        | (refine ⟨_, hc_1, ?_⟩)
        | (refine ⟨_, hd_1, ?_⟩)
        | (refine ⟨_, q0_1, ?_⟩)
        | (refine Does.mono (ihz false X1 w1 e1 (by first | (intro h; cases h; done) | (intro _; exact hfz)) (by simp [sel]; omega)) ?_ ; rintro _ X2 ⟨u2, rfl, f2, e2, w2⟩ ; have n2 : X1.next ≤ X2.next := e2.next)
        | (refine Does.mono (two8_any X2 w2 11 _ _ _ _ (f1.ext w1 e2) f2 (by simp [sel, put2]; omega) (by simp [sel, put2]; omega)) ?_ ; rintro _ X3 ⟨u3, rfl, f3, e3, w3⟩ ; have n3 : X2.next ≤ X3.next := e3.next ; have q2_3 := cellAt_ext w0 ((e1.trans e2).trans e3) q2 ; have hc_3 := cellsAt_ext w0 ((e1.trans e2).trans e3) hc ; have hd_3 := cellsAt_ext w0 ((e1.trans e2).trans e3) hd ; have q0_3 := cellAt_ext w0 ((e1.trans e2).trans e3) q0)
        | (refine ⟨_, q2_3, ?_⟩)
        | (refine ⟨_, hc_3, ?_⟩)
        | (refine ⟨_, hd_3, ?_⟩)
        | (refine ⟨_, q0_3, ?_⟩)
        | (refine Does.mono (ihx true X3 w3 ((e1.trans e2).trans e3) (by first | (intro h; cases h; done) | (intro _; exact hfx)) (by simp [sel]; omega)) ?_ ; rintro _ X4 ⟨u4, rfl, f4, e4, w4⟩ ; have n4 : X3.next ≤ X4.next := e4.next ; have q2_4 := cellAt_ext w0 (((e1.trans e2).trans e3).trans e4) q2 ; have hc_4 := cellsAt_ext w0 (((e1.trans e2).trans e3).trans e4) hc ; have hd_4 := cellsAt_ext w0 (((e1.trans e2).trans e3).trans e4) hd ; have q0_4 := cellAt_ext w0 (((e1.trans e2).trans e3).trans e4) q0)
        | (refine ⟨_, q2_4, ?_⟩)
        | (refine ⟨_, hc_4, ?_⟩)
        | (refine ⟨_, hd_4, ?_⟩)
        | (refine ⟨_, q0_4, ?_⟩)
        | (refine Does.mono (ihz true X4 w4 (((e1.trans e2).trans e3).trans e4) (by first | (intro h; cases h; done) | (intro _; exact hfz)) (by simp [sel]; omega)) ?_ ; rintro _ X5 ⟨u5, rfl, f5, e5, w5⟩ ; have n5 : X4.next ≤ X5.next := e5.next)
        | (refine Does.mono (two8_any X5 w5 11 _ _ _ _ (f4.ext w4 e5) f5 (by simp [sel, put2]; omega) (by simp [sel, put2]; omega)) ?_ ; rintro _ X6 ⟨u6, rfl, f6, e6, w6⟩ ; have n6 : X5.next ≤ X6.next := e6.next)
        | (refine Does.mono (two8_any X6 w6 12 _ _ _ _ ((f3.ext w3 e4).ext w4 (e5.trans e6)) f6 (by simp [sel, put2]; omega) (by simp [sel, put2]; omega)) ?_ ; rintro _ X7 ⟨u7, rfl, f7, e7, w7⟩ ; have n7 : X6.next ≤ X7.next := e7.next)
        | (refine Need.intro (draw_keep (N := H.next + 1) (by (simp only [effKeep]; repeat' apply And.intro) <;> first | exact True.intro | exact fun _ _ => True.intro | exact fun _ _ => rfl | exact fun b hb => e1.get b (show _ < _ by omega) | exact fun b hb => e2.get b (by omega) | exact fun b hb => e3.get b (by omega) | exact fun b hb => e4.get b (by omega) | exact fun b hb => e5.get b (by omega) | exact fun b hb => e6.get b (by omega) | exact fun b hb => e7.get b (by omega) | exact fun b hb => eT.get b hb | exact fun b hb => e1.get b hb | exact fun b hb => e1.get b (show b < T.next + 1 by omega)) (by (simp only [lookOld]; repeat' apply And.intro) <;> first | exact True.intro | omega) (by kernel_rfl)) ?_)
        | fail)
      all_goals (conv => whnf)
      exact ⟨_, rfl, f7, e0.trans (((((e1.trans e2).trans e3).trans e4).trans e5).trans (e6.trans e7)), w7⟩
    · skip
      repeat' ((conv => whnf); first
        | (refine Both.intro ?_ ?_ <;> intro _ <;> try (exfalso; omega))
        | (refine Need.intro (by omega) ?_)
        | (refine ⟨_, q0, ?_⟩)
        | (refine ⟨_, q2, ?_⟩)
        | (refine ⟨_, hc, ?_⟩)
        | (refine Does.mono (ihx false _ w0 (Ext.refl _) (by first | (intro h; cases h; done) | (intro _; exact hfx)) (by simp [sel]; omega)) ?_ ; rintro _ X1 ⟨u1, rfl, f1, e1, w1⟩ ; have n1 : H.next + 1 ≤ X1.next := e1.next ; have q2_1 := cellAt_ext w0 e1 q2 ; have hc_1 := cellsAt_ext w0 e1 hc ; have hd_1 := cellsAt_ext w0 e1 hd ; have q0_1 := cellAt_ext w0 e1 q0)
        | (refine ⟨_, q2_1, ?_⟩)
        | (refine ⟨_, hc_1, ?_⟩)
        | (refine ⟨_, hd_1, ?_⟩)
        | (refine ⟨_, q0_1, ?_⟩)
        | (refine Does.mono (ihz true X1 w1 e1 (by first | (intro h; cases h; done) | (intro _; exact hfz)) (by simp [sel]; omega)) ?_ ; rintro _ X2 ⟨u2, rfl, f2, e2, w2⟩ ; have n2 : X1.next ≤ X2.next := e2.next)
        | (refine Does.mono (two8_any X2 w2 11 _ _ _ _ (f1.ext w1 e2) f2 (by simp [sel, put2]; omega) (by simp [sel, put2]; omega)) ?_ ; rintro _ X3 ⟨u3, rfl, f3, e3, w3⟩ ; have n3 : X2.next ≤ X3.next := e3.next ; have q2_3 := cellAt_ext w0 ((e1.trans e2).trans e3) q2 ; have hc_3 := cellsAt_ext w0 ((e1.trans e2).trans e3) hc ; have hd_3 := cellsAt_ext w0 ((e1.trans e2).trans e3) hd ; have q0_3 := cellAt_ext w0 ((e1.trans e2).trans e3) q0)
        | (refine ⟨_, q2_3, ?_⟩)
        | (refine ⟨_, hc_3, ?_⟩)
        | (refine ⟨_, hd_3, ?_⟩)
        | (refine ⟨_, q0_3, ?_⟩)
        | (refine Does.mono (ihx true X3 w3 ((e1.trans e2).trans e3) (by first | (intro h; cases h; done) | (intro _; exact hfx)) (by simp [sel]; omega)) ?_ ; rintro _ X4 ⟨u4, rfl, f4, e4, w4⟩ ; have n4 : X3.next ≤ X4.next := e4.next ; have q2_4 := cellAt_ext w0 (((e1.trans e2).trans e3).trans e4) q2 ; have hc_4 := cellsAt_ext w0 (((e1.trans e2).trans e3).trans e4) hc ; have hd_4 := cellsAt_ext w0 (((e1.trans e2).trans e3).trans e4) hd ; have q0_4 := cellAt_ext w0 (((e1.trans e2).trans e3).trans e4) q0)
        | (refine ⟨_, q2_4, ?_⟩)
        | (refine ⟨_, hc_4, ?_⟩)
        | (refine ⟨_, hd_4, ?_⟩)
        | (refine ⟨_, q0_4, ?_⟩)
        | (refine Does.mono (ihz false X4 w4 (((e1.trans e2).trans e3).trans e4) (by first | (intro h; cases h; done) | (intro _; exact hfz)) (by simp [sel]; omega)) ?_ ; rintro _ X5 ⟨u5, rfl, f5, e5, w5⟩ ; have n5 : X4.next ≤ X5.next := e5.next)
        | (refine Does.mono (two8_any X5 w5 11 _ _ _ _ (f4.ext w4 e5) f5 (by simp [sel, put2]; omega) (by simp [sel, put2]; omega)) ?_ ; rintro _ X6 ⟨u6, rfl, f6, e6, w6⟩ ; have n6 : X5.next ≤ X6.next := e6.next)
        | (refine Does.mono (two8_any X6 w6 12 _ _ _ _ ((f3.ext w3 e4).ext w4 (e5.trans e6)) f6 (by simp [sel, put2]; omega) (by simp [sel, put2]; omega)) ?_ ; rintro _ X7 ⟨u7, rfl, f7, e7, w7⟩ ; have n7 : X6.next ≤ X7.next := e7.next)
        | (refine Need.intro (draw_keep (N := H.next + 1) (by (simp only [effKeep]; repeat' apply And.intro) <;> first | exact True.intro | exact fun _ _ => True.intro | exact fun _ _ => rfl | exact fun b hb => e1.get b (show _ < _ by omega) | exact fun b hb => e2.get b (by omega) | exact fun b hb => e3.get b (by omega) | exact fun b hb => e4.get b (by omega) | exact fun b hb => e5.get b (by omega) | exact fun b hb => e6.get b (by omega) | exact fun b hb => e7.get b (by omega) | exact fun b hb => eT.get b hb | exact fun b hb => e1.get b hb | exact fun b hb => e1.get b (show b < T.next + 1 by omega)) (by (simp only [lookOld]; repeat' apply And.intro) <;> first | exact True.intro | omega) (by kernel_rfl)) ?_)
        | fail)
      all_goals (conv => whnf)
      exact ⟨_, rfl, f7, e0.trans (((((e1.trans e2).trans e3).trans e4).trans e5).trans (e6.trans e7)), w7⟩
    · skip
      repeat' ((conv => whnf); first
        | (refine Both.intro ?_ ?_ <;> intro _ <;> try (exfalso; omega))
        | (refine Need.intro (by omega) ?_)
        | (refine ⟨_, q0, ?_⟩)
        | (refine ⟨_, q2, ?_⟩)
        | (refine ⟨_, hc, ?_⟩)
        | (refine Does.mono (ihx false _ w0 (Ext.refl _) (by first | (intro h; cases h; done) | (intro _; exact hfx)) (by simp [sel]; omega)) ?_ ; rintro _ X1 ⟨u1, rfl, f1, e1, w1⟩ ; have n1 : H.next + 1 ≤ X1.next := e1.next ; have q2_1 := cellAt_ext w0 e1 q2 ; have hc_1 := cellsAt_ext w0 e1 hc ; have hd_1 := cellsAt_ext w0 e1 hd ; have q0_1 := cellAt_ext w0 e1 q0)
        | (refine ⟨_, q2_1, ?_⟩)
        | (refine ⟨_, hc_1, ?_⟩)
        | (refine ⟨_, hd_1, ?_⟩)
        | (refine ⟨_, q0_1, ?_⟩)
        | (refine Does.mono (ihz false X1 w1 e1 (by first | (intro h; cases h; done) | (intro _; exact hfz)) (by simp [sel]; omega)) ?_ ; rintro _ X2 ⟨u2, rfl, f2, e2, w2⟩ ; have n2 : X1.next ≤ X2.next := e2.next ; have q2_2 := cellAt_ext w0 (e1.trans e2) q2 ; have hc_2 := cellsAt_ext w0 (e1.trans e2) hc ; have hd_2 := cellsAt_ext w0 (e1.trans e2) hd ; have q0_2 := cellAt_ext w0 (e1.trans e2) q0)
        | (refine Does.mono (turned_any _ _ _ _) ?_ ; rintro _ _ ⟨rfl, rfl⟩)
        | (refine ⟨_, q2_2, ?_⟩)
        | (refine ⟨_, hc_2, ?_⟩)
        | (refine ⟨_, hd_2, ?_⟩)
        | (refine ⟨_, q0_2, ?_⟩)
        | (refine Does.mono (two8_any X2 w2 15 _ _ _ _ (f1.ext w1 e2) f2 (by simp [sel, put2]; omega) (by simp [sel, put2]; omega)) ?_ ; rintro _ X3 ⟨u3, rfl, f3, e3, w3⟩ ; have n3 : X2.next ≤ X3.next := e3.next)
        | (refine Need.intro (draw_keep (N := H.next + 1) (by (simp only [effKeep]; repeat' apply And.intro) <;> first | exact True.intro | exact fun _ _ => True.intro | exact fun _ _ => rfl | exact fun b hb => e1.get b (show _ < _ by omega) | exact fun b hb => e2.get b (by omega) | exact fun b hb => e3.get b (by omega) | exact fun b hb => e4.get b (by omega) | exact fun b hb => e5.get b (by omega) | exact fun b hb => e6.get b (by omega) | exact fun b hb => e7.get b (by omega) | exact fun b hb => eT.get b hb | exact fun b hb => e1.get b hb | exact fun b hb => e1.get b (show b < T.next + 1 by omega)) (by (simp only [lookOld]; repeat' apply And.intro) <;> first | exact True.intro | omega) (by kernel_rfl)) ?_)
        | fail)
      all_goals (conv => whnf)
      exact ⟨_, rfl, f3, (e0.trans e1).trans (e2.trans e3), w3⟩
    · skip
      repeat' ((conv => whnf); first
        | (refine Both.intro ?_ ?_ <;> intro _ <;> try (exfalso; omega))
        | (refine Need.intro (by omega) ?_)
        | (refine ⟨_, q0, ?_⟩)
        | (refine ⟨_, q2, ?_⟩)
        | (refine ⟨_, hc, ?_⟩)
        | (refine Does.mono (ihx true _ w0 (Ext.refl _) (by first | (intro h; cases h; done) | (intro _; exact hfx)) (by simp [sel]; omega)) ?_ ; rintro _ X1 ⟨u1, rfl, f1, e1, w1⟩ ; have n1 : H.next + 1 ≤ X1.next := e1.next ; have q2_1 := cellAt_ext w0 e1 q2 ; have hc_1 := cellsAt_ext w0 e1 hc ; have hd_1 := cellsAt_ext w0 e1 hd ; have q0_1 := cellAt_ext w0 e1 q0)
        | (refine ⟨_, q2_1, ?_⟩)
        | (refine ⟨_, hc_1, ?_⟩)
        | (refine ⟨_, hd_1, ?_⟩)
        | (refine ⟨_, q0_1, ?_⟩)
        | (refine Does.mono (ihz true X1 w1 e1 (by first | (intro h; cases h; done) | (intro _; exact hfz)) (by simp [sel]; omega)) ?_ ; rintro _ X2 ⟨u2, rfl, f2, e2, w2⟩ ; have n2 : X1.next ≤ X2.next := e2.next ; have q2_2 := cellAt_ext w0 (e1.trans e2) q2 ; have hc_2 := cellsAt_ext w0 (e1.trans e2) hc ; have hd_2 := cellsAt_ext w0 (e1.trans e2) hd ; have q0_2 := cellAt_ext w0 (e1.trans e2) q0)
        | (refine Does.mono (turned_any _ _ _ _) ?_ ; rintro _ _ ⟨rfl, rfl⟩)
        | (refine ⟨_, q2_2, ?_⟩)
        | (refine ⟨_, hc_2, ?_⟩)
        | (refine ⟨_, hd_2, ?_⟩)
        | (refine ⟨_, q0_2, ?_⟩)
        | (refine Does.mono (two8_any X2 w2 16 _ _ _ _ (f1.ext w1 e2) f2 (by simp [sel, put2]; omega) (by simp [sel, put2]; omega)) ?_ ; rintro _ X3 ⟨u3, rfl, f3, e3, w3⟩ ; have n3 : X2.next ≤ X3.next := e3.next)
        | (refine Need.intro (draw_keep (N := H.next + 1) (by (simp only [effKeep]; repeat' apply And.intro) <;> first | exact True.intro | exact fun _ _ => True.intro | exact fun _ _ => rfl | exact fun b hb => e1.get b (show _ < _ by omega) | exact fun b hb => e2.get b (by omega) | exact fun b hb => e3.get b (by omega) | exact fun b hb => e4.get b (by omega) | exact fun b hb => e5.get b (by omega) | exact fun b hb => e6.get b (by omega) | exact fun b hb => e7.get b (by omega) | exact fun b hb => eT.get b hb | exact fun b hb => e1.get b hb | exact fun b hb => e1.get b (show b < T.next + 1 by omega)) (by (simp only [lookOld]; repeat' apply And.intro) <;> first | exact True.intro | omega) (by kernel_rfl)) ?_)
        | fail)
      all_goals (conv => whnf)
      exact ⟨_, rfl, f3, (e0.trans e1).trans (e2.trans e3), w3⟩
    · skip
      repeat' ((conv => whnf); first
        | (refine Both.intro ?_ ?_ <;> intro _ <;> try (exfalso; omega))
        | (refine Need.intro (by omega) ?_)
        | (refine ⟨_, q0, ?_⟩)
        | (refine ⟨_, q2, ?_⟩)
        | (refine ⟨_, hc, ?_⟩)
        | (refine Does.mono (ihx false _ w0 (Ext.refl _) (by first | (intro h; cases h; done) | (intro _; exact hfx)) (by simp [sel]; omega)) ?_ ; rintro _ X1 ⟨u1, rfl, f1, e1, w1⟩ ; have n1 : H.next + 1 ≤ X1.next := e1.next ; have q2_1 := cellAt_ext w0 e1 q2 ; have hc_1 := cellsAt_ext w0 e1 hc ; have hd_1 := cellsAt_ext w0 e1 hd ; have q0_1 := cellAt_ext w0 e1 q0)
        | (refine ⟨_, q2_1, ?_⟩)
        | (refine ⟨_, hc_1, ?_⟩)
        | (refine ⟨_, hd_1, ?_⟩)
        | (refine ⟨_, q0_1, ?_⟩)
        | (refine Does.mono (ihz false X1 w1 e1 (by first | (intro h; cases h; done) | (intro _; exact hfz)) (by simp [sel]; omega)) ?_ ; rintro _ X2 ⟨u2, rfl, f2, e2, w2⟩ ; have n2 : X1.next ≤ X2.next := e2.next ; have q2_2 := cellAt_ext w0 (e1.trans e2) q2 ; have hc_2 := cellsAt_ext w0 (e1.trans e2) hc ; have hd_2 := cellsAt_ext w0 (e1.trans e2) hd ; have q0_2 := cellAt_ext w0 (e1.trans e2) q0)
        | (refine Does.mono (turned_any _ _ _ _) ?_ ; rintro _ _ ⟨rfl, rfl⟩)
        | (refine ⟨_, q2_2, ?_⟩)
        | (refine ⟨_, hc_2, ?_⟩)
        | (refine ⟨_, hd_2, ?_⟩)
        | (refine ⟨_, q0_2, ?_⟩)
        | (refine Does.mono (two8_any X2 w2 16 _ _ _ _ (f1.ext w1 e2) f2 (by simp [sel, put2]; omega) (by simp [sel, put2]; omega)) ?_ ; rintro _ X3 ⟨u3, rfl, f3, e3, w3⟩ ; have n3 : X2.next ≤ X3.next := e3.next)
        | (refine Need.intro (draw_keep (N := H.next + 1) (by (simp only [effKeep]; repeat' apply And.intro) <;> first | exact True.intro | exact fun _ _ => True.intro | exact fun _ _ => rfl | exact fun b hb => e1.get b (show _ < _ by omega) | exact fun b hb => e2.get b (by omega) | exact fun b hb => e3.get b (by omega) | exact fun b hb => e4.get b (by omega) | exact fun b hb => e5.get b (by omega) | exact fun b hb => e6.get b (by omega) | exact fun b hb => e7.get b (by omega) | exact fun b hb => eT.get b hb | exact fun b hb => e1.get b hb | exact fun b hb => e1.get b (show b < T.next + 1 by omega)) (by (simp only [lookOld]; repeat' apply And.intro) <;> first | exact True.intro | omega) (by kernel_rfl)) ?_)
        | fail)
      all_goals (conv => whnf)
      exact ⟨_, rfl, f3, (e0.trans e1).trans (e2.trans e3), w3⟩
    · skip
      repeat' ((conv => whnf); first
        | (refine Both.intro ?_ ?_ <;> intro _ <;> try (exfalso; omega))
        | (refine Need.intro (by omega) ?_)
        | (refine ⟨_, q0, ?_⟩)
        | (refine ⟨_, q2, ?_⟩)
        | (refine ⟨_, hc, ?_⟩)
        | (refine Does.mono (ihx true _ w0 (Ext.refl _) (by first | (intro h; cases h; done) | (intro _; exact hfx)) (by simp [sel]; omega)) ?_ ; rintro _ X1 ⟨u1, rfl, f1, e1, w1⟩ ; have n1 : H.next + 1 ≤ X1.next := e1.next ; have q2_1 := cellAt_ext w0 e1 q2 ; have hc_1 := cellsAt_ext w0 e1 hc ; have hd_1 := cellsAt_ext w0 e1 hd ; have q0_1 := cellAt_ext w0 e1 q0)
        | (refine ⟨_, q2_1, ?_⟩)
        | (refine ⟨_, hc_1, ?_⟩)
        | (refine ⟨_, hd_1, ?_⟩)
        | (refine ⟨_, q0_1, ?_⟩)
        | (refine Does.mono (ihz true X1 w1 e1 (by first | (intro h; cases h; done) | (intro _; exact hfz)) (by simp [sel]; omega)) ?_ ; rintro _ X2 ⟨u2, rfl, f2, e2, w2⟩ ; have n2 : X1.next ≤ X2.next := e2.next ; have q2_2 := cellAt_ext w0 (e1.trans e2) q2 ; have hc_2 := cellsAt_ext w0 (e1.trans e2) hc ; have hd_2 := cellsAt_ext w0 (e1.trans e2) hd ; have q0_2 := cellAt_ext w0 (e1.trans e2) q0)
        | (refine Does.mono (turned_any _ _ _ _) ?_ ; rintro _ _ ⟨rfl, rfl⟩)
        | (refine ⟨_, q2_2, ?_⟩)
        | (refine ⟨_, hc_2, ?_⟩)
        | (refine ⟨_, hd_2, ?_⟩)
        | (refine ⟨_, q0_2, ?_⟩)
        | (refine Does.mono (two8_any X2 w2 15 _ _ _ _ (f1.ext w1 e2) f2 (by simp [sel, put2]; omega) (by simp [sel, put2]; omega)) ?_ ; rintro _ X3 ⟨u3, rfl, f3, e3, w3⟩ ; have n3 : X2.next ≤ X3.next := e3.next)
        | (refine Need.intro (draw_keep (N := H.next + 1) (by (simp only [effKeep]; repeat' apply And.intro) <;> first | exact True.intro | exact fun _ _ => True.intro | exact fun _ _ => rfl | exact fun b hb => e1.get b (show _ < _ by omega) | exact fun b hb => e2.get b (by omega) | exact fun b hb => e3.get b (by omega) | exact fun b hb => e4.get b (by omega) | exact fun b hb => e5.get b (by omega) | exact fun b hb => e6.get b (by omega) | exact fun b hb => e7.get b (by omega) | exact fun b hb => eT.get b hb | exact fun b hb => e1.get b hb | exact fun b hb => e1.get b (show b < T.next + 1 by omega)) (by (simp only [lookOld]; repeat' apply And.intro) <;> first | exact True.intro | omega) (by kernel_rfl)) ?_)
        | fail)
      all_goals (conv => whnf)
      exact ⟨_, rfl, f3, (e0.trans e1).trans (e2.trans e3), w3⟩
    · skip
      repeat' ((conv => whnf); first
        | (refine Both.intro ?_ ?_ <;> intro _ <;> try (exfalso; omega))
        | (refine Need.intro (by omega) ?_)
        | (refine ⟨_, q0, ?_⟩)
        | (refine ⟨_, q2, ?_⟩)
        | (refine ⟨_, hc, ?_⟩)
        | (refine Does.mono (ihx false _ w0 (Ext.refl _) (by first | (intro h; cases h; done) | (intro _; exact hfx)) (by simp [sel]; omega)) ?_ ; rintro _ X1 ⟨u1, rfl, f1, e1, w1⟩ ; have n1 : H.next + 1 ≤ X1.next := e1.next ; have q2_1 := cellAt_ext w0 e1 q2 ; have hc_1 := cellsAt_ext w0 e1 hc ; have hd_1 := cellsAt_ext w0 e1 hd ; have q0_1 := cellAt_ext w0 e1 q0)
        | (refine ⟨_, q2_1, ?_⟩)
        | (refine ⟨_, hc_1, ?_⟩)
        | (refine ⟨_, hd_1, ?_⟩)
        | (refine ⟨_, q0_1, ?_⟩)
        | (refine Does.mono (ihz false X1 w1 e1 (by first | (intro h; cases h; done) | (intro _; exact hfz)) (by simp [sel]; omega)) ?_ ; rintro _ X2 ⟨u2, rfl, f2, e2, w2⟩ ; have n2 : X1.next ≤ X2.next := e2.next ; have q2_2 := cellAt_ext w0 (e1.trans e2) q2 ; have hc_2 := cellsAt_ext w0 (e1.trans e2) hc ; have hd_2 := cellsAt_ext w0 (e1.trans e2) hd ; have q0_2 := cellAt_ext w0 (e1.trans e2) q0)
        | (refine Does.mono (turned_any _ _ _ _) ?_ ; rintro _ _ ⟨rfl, rfl⟩)
        | (refine ⟨_, q2_2, ?_⟩)
        | (refine ⟨_, hc_2, ?_⟩)
        | (refine ⟨_, hd_2, ?_⟩)
        | (refine ⟨_, q0_2, ?_⟩)
        | (refine Does.mono (two8_any X2 w2 17 _ _ _ _ (f1.ext w1 e2) f2 (by simp [sel, put2]; omega) (by simp [sel, put2]; omega)) ?_ ; rintro _ X3 ⟨u3, rfl, f3, e3, w3⟩ ; have n3 : X2.next ≤ X3.next := e3.next)
        | (refine Need.intro (draw_keep (N := H.next + 1) (by (simp only [effKeep]; repeat' apply And.intro) <;> first | exact True.intro | exact fun _ _ => True.intro | exact fun _ _ => rfl | exact fun b hb => e1.get b (show _ < _ by omega) | exact fun b hb => e2.get b (by omega) | exact fun b hb => e3.get b (by omega) | exact fun b hb => e4.get b (by omega) | exact fun b hb => e5.get b (by omega) | exact fun b hb => e6.get b (by omega) | exact fun b hb => e7.get b (by omega) | exact fun b hb => eT.get b hb | exact fun b hb => e1.get b hb | exact fun b hb => e1.get b (show b < T.next + 1 by omega)) (by (simp only [lookOld]; repeat' apply And.intro) <;> first | exact True.intro | omega) (by kernel_rfl)) ?_)
        | fail)
      all_goals (conv => whnf)
      exact ⟨_, rfl, f3, (e0.trans e1).trans (e2.trans e3), w3⟩
    · skip
      repeat' ((conv => whnf); first
        | (refine Both.intro ?_ ?_ <;> intro _ <;> try (exfalso; omega))
        | (refine Need.intro (by omega) ?_)
        | (refine ⟨_, q0, ?_⟩)
        | (refine ⟨_, q2, ?_⟩)
        | (refine ⟨_, hc, ?_⟩)
        | (refine Does.mono (ihx false _ w0 (Ext.refl _) (by first | (intro h; cases h; done) | (intro _; exact hfx)) (by simp [sel]; omega)) ?_ ; rintro _ X1 ⟨u1, rfl, f1, e1, w1⟩ ; have n1 : H.next + 1 ≤ X1.next := e1.next ; have q2_1 := cellAt_ext w0 e1 q2 ; have hc_1 := cellsAt_ext w0 e1 hc ; have hd_1 := cellsAt_ext w0 e1 hd ; have q0_1 := cellAt_ext w0 e1 q0)
        | (refine ⟨_, q2_1, ?_⟩)
        | (refine ⟨_, hc_1, ?_⟩)
        | (refine ⟨_, hd_1, ?_⟩)
        | (refine ⟨_, q0_1, ?_⟩)
        | (refine Does.mono (ihz true X1 w1 e1 (by first | (intro h; cases h; done) | (intro _; exact hfz)) (by simp [sel]; omega)) ?_ ; rintro _ X2 ⟨u2, rfl, f2, e2, w2⟩ ; have n2 : X1.next ≤ X2.next := e2.next ; have q2_2 := cellAt_ext w0 (e1.trans e2) q2 ; have hc_2 := cellsAt_ext w0 (e1.trans e2) hc ; have hd_2 := cellsAt_ext w0 (e1.trans e2) hd ; have q0_2 := cellAt_ext w0 (e1.trans e2) q0)
        | (refine Does.mono (turned_any _ _ _ _) ?_ ; rintro _ _ ⟨rfl, rfl⟩)
        | (refine ⟨_, q2_2, ?_⟩)
        | (refine ⟨_, hc_2, ?_⟩)
        | (refine ⟨_, hd_2, ?_⟩)
        | (refine ⟨_, q0_2, ?_⟩)
        | (refine Does.mono (two8_any X2 w2 18 _ _ _ _ (f1.ext w1 e2) f2 (by simp [sel, put2]; omega) (by simp [sel, put2]; omega)) ?_ ; rintro _ X3 ⟨u3, rfl, f3, e3, w3⟩ ; have n3 : X2.next ≤ X3.next := e3.next)
        | (refine Need.intro (draw_keep (N := H.next + 1) (by (simp only [effKeep]; repeat' apply And.intro) <;> first | exact True.intro | exact fun _ _ => True.intro | exact fun _ _ => rfl | exact fun b hb => e1.get b (show _ < _ by omega) | exact fun b hb => e2.get b (by omega) | exact fun b hb => e3.get b (by omega) | exact fun b hb => e4.get b (by omega) | exact fun b hb => e5.get b (by omega) | exact fun b hb => e6.get b (by omega) | exact fun b hb => e7.get b (by omega) | exact fun b hb => eT.get b hb | exact fun b hb => e1.get b hb | exact fun b hb => e1.get b (show b < T.next + 1 by omega)) (by (simp only [lookOld]; repeat' apply And.intro) <;> first | exact True.intro | omega) (by kernel_rfl)) ?_)
        | fail)
      all_goals (conv => whnf)
      exact ⟨_, rfl, f3, (e0.trans e1).trans (e2.trans e3), w3⟩
    · skip
      repeat' ((conv => whnf); first
        | (refine Both.intro ?_ ?_ <;> intro _ <;> try (exfalso; omega))
        | (refine Need.intro (by omega) ?_)
        | (refine ⟨_, q0, ?_⟩)
        | (refine ⟨_, q2, ?_⟩)
        | (refine ⟨_, hc, ?_⟩)
        | (refine Does.mono (ihx false _ w0 (Ext.refl _) (by first | (intro h; cases h; done) | (intro _; exact hfx)) (by simp [sel]; omega)) ?_ ; rintro _ X1 ⟨u1, rfl, f1, e1, w1⟩ ; have n1 : H.next + 1 ≤ X1.next := e1.next ; have q2_1 := cellAt_ext w0 e1 q2 ; have hc_1 := cellsAt_ext w0 e1 hc ; have hd_1 := cellsAt_ext w0 e1 hd ; have q0_1 := cellAt_ext w0 e1 q0)
        | (refine ⟨_, q2_1, ?_⟩)
        | (refine ⟨_, hc_1, ?_⟩)
        | (refine ⟨_, hd_1, ?_⟩)
        | (refine ⟨_, q0_1, ?_⟩)
        | (refine Does.mono (ihz false X1 w1 e1 (by first | (intro h; cases h; done) | (intro _; exact hfz)) (by simp [sel]; omega)) ?_ ; rintro _ X2 ⟨u2, rfl, f2, e2, w2⟩ ; have n2 : X1.next ≤ X2.next := e2.next ; have q2_2 := cellAt_ext w0 (e1.trans e2) q2 ; have hc_2 := cellsAt_ext w0 (e1.trans e2) hc ; have hd_2 := cellsAt_ext w0 (e1.trans e2) hd ; have q0_2 := cellAt_ext w0 (e1.trans e2) q0)
        | (refine Does.mono (turned_any _ _ _ _) ?_ ; rintro _ _ ⟨rfl, rfl⟩)
        | (refine ⟨_, q2_2, ?_⟩)
        | (refine ⟨_, hc_2, ?_⟩)
        | (refine ⟨_, hd_2, ?_⟩)
        | (refine ⟨_, q0_2, ?_⟩)
        | (refine Does.mono (two8_any X2 w2 18 _ _ _ _ (f1.ext w1 e2) f2 (by simp [sel, put2]; omega) (by simp [sel, put2]; omega)) ?_ ; rintro _ X3 ⟨u3, rfl, f3, e3, w3⟩ ; have n3 : X2.next ≤ X3.next := e3.next)
        | (refine Need.intro (draw_keep (N := H.next + 1) (by (simp only [effKeep]; repeat' apply And.intro) <;> first | exact True.intro | exact fun _ _ => True.intro | exact fun _ _ => rfl | exact fun b hb => e1.get b (show _ < _ by omega) | exact fun b hb => e2.get b (by omega) | exact fun b hb => e3.get b (by omega) | exact fun b hb => e4.get b (by omega) | exact fun b hb => e5.get b (by omega) | exact fun b hb => e6.get b (by omega) | exact fun b hb => e7.get b (by omega) | exact fun b hb => eT.get b hb | exact fun b hb => e1.get b hb | exact fun b hb => e1.get b (show b < T.next + 1 by omega)) (by (simp only [lookOld]; repeat' apply And.intro) <;> first | exact True.intro | omega) (by kernel_rfl)) ?_)
        | fail)
      all_goals (conv => whnf)
      exact ⟨_, rfl, f3, (e0.trans e1).trans (e2.trans e3), w3⟩
    · skip
      repeat' ((conv => whnf); first
        | (refine Both.intro ?_ ?_ <;> intro _ <;> try (exfalso; omega))
        | (refine Need.intro (by omega) ?_)
        | (refine ⟨_, q0, ?_⟩)
        | (refine ⟨_, q2, ?_⟩)
        | (refine ⟨_, hc, ?_⟩)
        | (refine Does.mono (ihx false _ w0 (Ext.refl _) (by first | (intro h; cases h; done) | (intro _; exact hfx)) (by simp [sel]; omega)) ?_ ; rintro _ X1 ⟨u1, rfl, f1, e1, w1⟩ ; have n1 : H.next + 1 ≤ X1.next := e1.next ; have q2_1 := cellAt_ext w0 e1 q2 ; have hc_1 := cellsAt_ext w0 e1 hc ; have hd_1 := cellsAt_ext w0 e1 hd ; have q0_1 := cellAt_ext w0 e1 q0)
        | (refine ⟨_, q2_1, ?_⟩)
        | (refine ⟨_, hc_1, ?_⟩)
        | (refine ⟨_, hd_1, ?_⟩)
        | (refine ⟨_, q0_1, ?_⟩)
        | (refine Does.mono (ihz true X1 w1 e1 (by first | (intro h; cases h; done) | (intro _; exact hfz)) (by simp [sel]; omega)) ?_ ; rintro _ X2 ⟨u2, rfl, f2, e2, w2⟩ ; have n2 : X1.next ≤ X2.next := e2.next ; have q2_2 := cellAt_ext w0 (e1.trans e2) q2 ; have hc_2 := cellsAt_ext w0 (e1.trans e2) hc ; have hd_2 := cellsAt_ext w0 (e1.trans e2) hd ; have q0_2 := cellAt_ext w0 (e1.trans e2) q0)
        | (refine Does.mono (turned_any _ _ _ _) ?_ ; rintro _ _ ⟨rfl, rfl⟩)
        | (refine ⟨_, q2_2, ?_⟩)
        | (refine ⟨_, hc_2, ?_⟩)
        | (refine ⟨_, hd_2, ?_⟩)
        | (refine ⟨_, q0_2, ?_⟩)
        | (refine Does.mono (two8_any X2 w2 17 _ _ _ _ (f1.ext w1 e2) f2 (by simp [sel, put2]; omega) (by simp [sel, put2]; omega)) ?_ ; rintro _ X3 ⟨u3, rfl, f3, e3, w3⟩ ; have n3 : X2.next ≤ X3.next := e3.next)
        | (refine Need.intro (draw_keep (N := H.next + 1) (by (simp only [effKeep]; repeat' apply And.intro) <;> first | exact True.intro | exact fun _ _ => True.intro | exact fun _ _ => rfl | exact fun b hb => e1.get b (show _ < _ by omega) | exact fun b hb => e2.get b (by omega) | exact fun b hb => e3.get b (by omega) | exact fun b hb => e4.get b (by omega) | exact fun b hb => e5.get b (by omega) | exact fun b hb => e6.get b (by omega) | exact fun b hb => e7.get b (by omega) | exact fun b hb => eT.get b hb | exact fun b hb => e1.get b hb | exact fun b hb => e1.get b (show b < T.next + 1 by omega)) (by (simp only [lookOld]; repeat' apply And.intro) <;> first | exact True.intro | omega) (by kernel_rfl)) ?_)
        | fail)
      all_goals (conv => whnf)
      exact ⟨_, rfl, f3, (e0.trans e1).trans (e2.trans e3), w3⟩
    · skip
      repeat' ((conv => whnf); first
        | (refine Both.intro ?_ ?_ <;> intro _ <;> try (exfalso; omega))
        | (refine Need.intro (by omega) ?_)
        | (refine ⟨_, q0, ?_⟩)
        | (refine ⟨_, q2, ?_⟩)
        | (refine ⟨_, hc, ?_⟩)
        | (refine Does.mono (ihx false _ w0 (Ext.refl _) (by first | (intro h; cases h; done) | (intro _; exact hfx)) (by simp [sel]; omega)) ?_ ; rintro _ X1 ⟨u1, rfl, f1, e1, w1⟩ ; have n1 : H.next + 1 ≤ X1.next := e1.next ; have q2_1 := cellAt_ext w0 e1 q2 ; have hc_1 := cellsAt_ext w0 e1 hc ; have hd_1 := cellsAt_ext w0 e1 hd ; have q0_1 := cellAt_ext w0 e1 q0)
        | (refine ⟨_, q2_1, ?_⟩)
        | (refine ⟨_, hc_1, ?_⟩)
        | (refine ⟨_, hd_1, ?_⟩)
        | (refine ⟨_, q0_1, ?_⟩)
        | (refine Does.mono (ihz false X1 w1 e1 (by first | (intro h; cases h; done) | (intro _; exact hfz)) (by simp [sel]; omega)) ?_ ; rintro _ X2 ⟨u2, rfl, f2, e2, w2⟩ ; have n2 : X1.next ≤ X2.next := e2.next ; have q2_2 := cellAt_ext w0 (e1.trans e2) q2 ; have hc_2 := cellsAt_ext w0 (e1.trans e2) hc ; have hd_2 := cellsAt_ext w0 (e1.trans e2) hd ; have q0_2 := cellAt_ext w0 (e1.trans e2) q0)
        | (refine Does.mono (turned_any _ _ _ _) ?_ ; rintro _ _ ⟨rfl, rfl⟩)
        | (refine ⟨_, q2_2, ?_⟩)
        | (refine ⟨_, hc_2, ?_⟩)
        | (refine ⟨_, hd_2, ?_⟩)
        | (refine ⟨_, q0_2, ?_⟩)
        | (refine Does.mono (two8_any X2 w2 21 _ _ _ _ (f1.ext w1 e2) f2 (by simp [sel, put2]; omega) (by simp [sel, put2]; omega)) ?_ ; rintro _ X3 ⟨u3, rfl, f3, e3, w3⟩ ; have n3 : X2.next ≤ X3.next := e3.next)
        | (refine Need.intro (draw_keep (N := H.next + 1) (by (simp only [effKeep]; repeat' apply And.intro) <;> first | exact True.intro | exact fun _ _ => True.intro | exact fun _ _ => rfl | exact fun b hb => e1.get b (show _ < _ by omega) | exact fun b hb => e2.get b (by omega) | exact fun b hb => e3.get b (by omega) | exact fun b hb => e4.get b (by omega) | exact fun b hb => e5.get b (by omega) | exact fun b hb => e6.get b (by omega) | exact fun b hb => e7.get b (by omega) | exact fun b hb => eT.get b hb | exact fun b hb => e1.get b hb | exact fun b hb => e1.get b (show b < T.next + 1 by omega)) (by (simp only [lookOld]; repeat' apply And.intro) <;> first | exact True.intro | omega) (by kernel_rfl)) ?_)
        | fail)
      all_goals (conv => whnf)
      exact ⟨_, rfl, f3, (e0.trans e1).trans (e2.trans e3), w3⟩
    · skip
      exact absurd (hp rfl) (by simp [Tre.path, Tre.tok])
    · skip
      repeat' ((conv => whnf); first
        | (refine Both.intro ?_ ?_ <;> intro _ <;> try (exfalso; omega))
        | (refine Need.intro (by omega) ?_)
        | (refine ⟨_, q0, ?_⟩)
        | (refine ⟨_, q2, ?_⟩)
        | (refine ⟨_, hc, ?_⟩)
        | (refine Does.mono (ihx false _ w0 (Ext.refl _) (by first | (intro h; cases h; done) | (intro _; exact hfx)) (by simp [sel]; omega)) ?_ ; rintro _ X1 ⟨u1, rfl, f1, e1, w1⟩ ; have n1 : H.next + 1 ≤ X1.next := e1.next ; have q2_1 := cellAt_ext w0 e1 q2 ; have hc_1 := cellsAt_ext w0 e1 hc ; have hd_1 := cellsAt_ext w0 e1 hd ; have q0_1 := cellAt_ext w0 e1 q0)
        | (refine ⟨_, q2_1, ?_⟩)
        | (refine ⟨_, hc_1, ?_⟩)
        | (refine ⟨_, hd_1, ?_⟩)
        | (refine ⟨_, q0_1, ?_⟩)
        | (refine Does.mono (ihz false X1 w1 e1 (by first | (intro h; cases h; done) | (intro _; exact hfz)) (by simp [sel]; omega)) ?_ ; rintro _ X2 ⟨u2, rfl, f2, e2, w2⟩ ; have n2 : X1.next ≤ X2.next := e2.next ; have q2_2 := cellAt_ext w0 (e1.trans e2) q2 ; have hc_2 := cellsAt_ext w0 (e1.trans e2) hc ; have hd_2 := cellsAt_ext w0 (e1.trans e2) hd ; have q0_2 := cellAt_ext w0 (e1.trans e2) q0)
        | (refine Does.mono (turned_any _ _ _ _) ?_ ; rintro _ _ ⟨rfl, rfl⟩)
        | (refine ⟨_, q2_2, ?_⟩)
        | (refine ⟨_, hc_2, ?_⟩)
        | (refine ⟨_, hd_2, ?_⟩)
        | (refine ⟨_, q0_2, ?_⟩)
        | (refine Does.mono (two8_any X2 w2 22 _ _ _ _ (f1.ext w1 e2) f2 (by simp [sel, put2]; omega) (by simp [sel, put2]; omega)) ?_ ; rintro _ X3 ⟨u3, rfl, f3, e3, w3⟩ ; have n3 : X2.next ≤ X3.next := e3.next)
        | (refine Need.intro (draw_keep (N := H.next + 1) (by (simp only [effKeep]; repeat' apply And.intro) <;> first | exact True.intro | exact fun _ _ => True.intro | exact fun _ _ => rfl | exact fun b hb => e1.get b (show _ < _ by omega) | exact fun b hb => e2.get b (by omega) | exact fun b hb => e3.get b (by omega) | exact fun b hb => e4.get b (by omega) | exact fun b hb => e5.get b (by omega) | exact fun b hb => e6.get b (by omega) | exact fun b hb => e7.get b (by omega) | exact fun b hb => eT.get b hb | exact fun b hb => e1.get b hb | exact fun b hb => e1.get b (show b < T.next + 1 by omega)) (by (simp only [lookOld]; repeat' apply And.intro) <;> first | exact True.intro | omega) (by kernel_rfl)) ?_)
        | fail)
      all_goals (conv => whnf)
      exact ⟨_, rfl, f3, (e0.trans e1).trans (e2.trans e3), w3⟩
    · skip
      exact absurd (hp rfl) (by simp [Tre.path, Tre.tok])
/-END-/
end Go.AX.Try
/- rejoinderref08: Of, Size, Check, Neg. -/
namespace Go.AX.Try
open Go Go.AX Go.AX.Lw Go.Proofs
set_option linter.unusedVariables false
set_option linter.unusedSimpArgs false
set_option maxRecDepth 100000
theorem Fm.sl {H : AHeap} {v : Value} {l : List Tk} (h : Fm H v l) : ∃ a n c, v = .slice a n c := by
  obtain ⟨a, n, c, h1, -⟩ := h
  exact ⟨a, n, c, h1⟩
/-- The tree of tokens that are read. -/
theorem Grow_ok (H : AHeap) (hw : Wf H) (a : Option Addr) (n c : Nat) (ts : List Tk) (hr : RowS H a n c 2 (ts.map Tk.cells)) (hn : n ≤ 2 ^ 20) {i : Nat} {p : Pt} (hf : foldR ts = some (i, [p])) (hp : p.path = false) {P : Pr} (hP : formsF ts = P) :
    Does Try.prog orc 59 [.slice a n c] H fun r H' => ∃ x b m d, r = .ret (tval (x, .slice b m d)) ∧ x.lies 0 H' (.slice b m d) ∧ x.wk ∧ x.path = false ∧ PT x = P ∧ Ext H H' ∧ Wf H' := by
  obtain ⟨x, hx, hwk, hxp, hfm⟩ := grow_ok hf
  refine (Grow_any H hw a n c ts hr hn hf (by simp)).mono fun r H' ⟨y, v, h1, h2, h3, h4, h5⟩ => ?_
  rw [hx] at h3
  cases h3
  obtain ⟨b, m, d, rfl⟩ := h2.slice
  exact ⟨x, b, m, d, h1, h2, hwk, by rw [hxp, hp], by rw [← hP]; unfold formsF; rw [hfm]; rfl, h4, h5⟩
theorem Size8_any (H : AHeap) (hw : Wf H) (a : Option Addr) (n c : Nat) (ts : List Tk) (hr : RowS H a n c 2 (ts.map Tk.cells)) :
    Does Try.prog orc 25 [.slice a n c] H fun r H' => r = .ret (.tuple #[.int .i64 (sizeF ts), .int .i64 (termF ts false)]) ∧ Ext H H' ∧ Wf H' := by
  have hlen := hr.len; simp at hlen
  have hcap := hr.cap
  refine Does.of Try.func25 (fun _ _ => rfl) rfl ?_
  by_cases h0 : termF ts false = 0
  · obtain ⟨i, p, hf, hp, h512⟩ := termF_fold h0
    have hs : sizeF ts = min (formsF ts).yes.length 2049 := by unfold sizeF; rw [if_pos h0]
    have hck := (Check3_any H hw a n c ts hr).mono (Q' := fun r H' => r = .ret (.int .i64 ((0 : Nat) : Int)) ∧ Ext H H' ∧ Wf H') fun r H' h => by rw [h0] at h; exact h
    rw [h0]
    repeat' ((conv => whnf); first
      | (refine Both.intro ?_ ?_ <;> intro _ <;> try (exfalso; omega))
      | (refine Need.intro (by omega) ?_)
      | (refine Does.mono hck ?_ ; rintro _ H1 ⟨rfl, e1, w1⟩)
      | (refine Does.mono (Grow_ok H1 w1 a n c ts (hr.ext hw e1) (by omega) hf hp rfl) ?_ ; rintro _ H2 ⟨x, b, m, d, rfl, hl, hwk, hxp, hPT, e2, w2⟩)
      | (refine Does.mono (sizes_any x _ H2 w2 hwk hl) ?_ ; rintro _ H3 ⟨y, m', rfl, hy, hm, hmp, e3, w3⟩)
      | fail)
    all_goals (conv => whnf)
    exact ⟨by rw [hs, ← hPT, ← hy]; rfl, e1.trans (e2.trans e3), w3⟩
  · have hs : sizeF ts = 0 := by unfold sizeF; rw [if_neg h0]
    rw [hs]
    repeat' ((conv => whnf); first
      | (refine Both.intro ?_ ?_ <;> intro _ <;> try (exfalso; omega))
      | (refine Need.intro (by omega) ?_)
      | (refine Does.mono (Check3_any H hw a n c ts hr) ?_ ; rintro _ H1 ⟨rfl, e1, w1⟩)
      | fail)
    all_goals (conv => whnf)
    exact ⟨rfl, e1, w1⟩
theorem Of8_any (H : AHeap) (hw : Wf H) (a : Option Addr) (n c : Nat) (ts : List Tk) (hr : RowS H a n c 2 (ts.map Tk.cells)) :
    Does Try.prog orc 21 [.slice a n c] H fun r H' => ∃ v, r = .ret (.tuple #[v, .int .i64 (ofE ts)]) ∧ Fm H' v (ofF ts) ∧ Ext H H' ∧ Wf H' := by
  have hlen := hr.len; simp at hlen
  have hcap := hr.cap
  refine Does.of Try.func21 (fun _ _ => rfl) rfl ?_
  by_cases h0 : termF ts false = 0
  · obtain ⟨i, p, hf, hp, h512⟩ := termF_fold h0
    have hs : sizeF ts = min (formsF ts).yes.length 2049 := by unfold sizeF; rw [if_pos h0]
    have hsz := (Size8_any H hw a n c ts hr).mono (Q' := fun r H' => r = .ret (.tuple #[.int .i64 (sizeF ts), .int .i64 ((0 : Nat) : Int)]) ∧ Ext H H' ∧ Wf H') fun r H' h => by rw [h0] at h; exact h
    by_cases h1 : (formsF ts).yes.length ≤ 2048
    · have hof : ofE ts = 0 := by unfold ofE; rw [if_pos h0, if_pos h1]
      have hff : ofF ts = (formsF ts).yes := by unfold ofF; rw [if_pos hof]
      rw [hof, hff]
      repeat' ((conv => whnf); first
        | (refine Both.intro ?_ ?_ <;> intro _ <;> try (exfalso; omega))
        | (refine Need.intro (by omega) ?_)
        | (refine Does.mono hsz ?_ ; rintro _ H1 ⟨rfl, e1, w1⟩)
        | (refine Does.mono (Grow_ok H1 w1 a n c ts (hr.ext hw e1) (by omega) hf hp rfl) ?_ ; rintro _ H2 ⟨x, b, m, d, rfl, hl, hwk, hxp, hPT, e2, w2⟩)
        | (refine Does.mono (K_any x _ false H2 w2 hwk hl (fun h => by cases h) (by simp only [sel, hPT, Bool.false_eq_true, if_false]; omega)) ?_ ; rintro _ H3 ⟨u, rfl, f3, e3, w3⟩)
        | fail)
      all_goals (conv => whnf)
      exact ⟨_, rfl, by rw [← hPT]; exact f3, e1.trans (e2.trans e3), w3⟩
    · have hof : ofE ts = 3 := by unfold ofE; rw [if_pos h0, if_neg h1]
      have hff : ofF ts = [] := by unfold ofF; rw [if_neg (by rw [hof]; decide)]
      rw [hof, hff]
      repeat' ((conv => whnf); first
        | (refine Both.intro ?_ ?_ <;> intro _ <;> try (exfalso; omega))
        | (refine Need.intro (by omega) ?_)
        | (refine Does.mono hsz ?_ ; rintro _ H1 ⟨rfl, e1, w1⟩)
        | fail)
      all_goals (conv => whnf)
      exact ⟨_, rfl, Fm.nil _, e1, w1⟩
  · have hof : ofE ts = termF ts false := by unfold ofE; rw [if_neg h0]
    have hff : ofF ts = [] := by unfold ofF; rw [if_neg (by rw [hof]; exact h0)]
    rw [hof, hff]
    repeat' ((conv => whnf); first
      | (refine Both.intro ?_ ?_ <;> intro _ <;> try (exfalso; omega))
      | (refine Need.intro (by omega) ?_)
      | (refine Does.mono (Size8_any H hw a n c ts hr) ?_ ; rintro _ H1 ⟨rfl, e1, w1⟩)
      | fail)
    all_goals (conv => whnf)
    exact ⟨_, rfl, Fm.nil _, e1, w1⟩
theorem word8_any (H : AHeap) (a : Option Addr) (n c : Nat) (ts : List Tk) (hr : RowS H a n c 2 (ts.map Tk.cells)) (hn : n ≤ 2 ^ 20) (i : Nat) (hi : i < n) :
    Does Try.prog orc 65 [.slice a n c, .int .i64 i] H fun r H' => r = .ret (.bool (wordB ts i)) ∧ H = H' := by
  have hlen := hr.len; simp at hlen
  have hcap := hr.cap
  obtain ⟨t, ht⟩ : ∃ t, ts[i]? = some t := ⟨_, List.getElem?_eq_getElem (by omega)⟩
  obtain ⟨tb, to, tst, rfl, hcell⟩ := hr.cell i t.cells (by simp [ht])
  have q0 := cellsAt_cell hcell (j := 0) rfl
  have hB : wordB ts i = if t.op = 3 ∨ t.op = 9 ∨ t.op = 10 ∨ t.op = 13 ∨ t.op = 14 then false else if t.op = 6 then decide (0 < i ∧ ((ts[i - 1]?).getD ⟨0, 0⟩).op = 2) else true := by unfold wordB; rw [ht]; rfl
  refine Does.of Try.func65 (fun _ _ => rfl) rfl ?_
  by_cases h1 : t.op = 3 ∨ t.op = 9 ∨ t.op = 10 ∨ t.op = 13 ∨ t.op = 14
  · rw [if_pos h1] at hB
    rw [hB]
    repeat' ((conv => whnf); first
      | (refine Both.intro ?_ ?_ <;> intro _ <;> try (exfalso; omega))
      | (refine Need.intro (by omega) ?_)
      | (refine ⟨_, q0, ?_⟩)
      | fail)
    all_goals (conv => whnf)
    all_goals exact ⟨rfl, rfl⟩
  · rw [if_neg h1] at hB
    by_cases h6 : t.op = 6
    · rw [if_pos h6] at hB
      by_cases hi0 : 0 < i
      · obtain ⟨u, hu⟩ : ∃ u, ts[i - 1]? = some u := ⟨_, List.getElem?_eq_getElem (by omega)⟩
        obtain ⟨ub, uo, ust, hbb, hcell2⟩ := hr.cell (i - 1) u.cells (by simp [hu])
        cases hbb
        have q1 := cellsAt_cell hcell2 (j := 0) rfl
        have hii : ((i : Int) - 1).toNat = i - 1 := by omega
        rw [← hii] at q1
        rw [hB, hu]
        by_cases hu2 : u.op = 2
        · skip
          repeat' ((conv => whnf); first
            | (refine Both.intro ?_ ?_ <;> intro _ <;> try (exfalso; omega))
            | (refine Need.intro (by omega) ?_)
            | (refine ⟨_, q0, ?_⟩)
            | (refine ⟨_, q1, ?_⟩)
            | fail)
          all_goals (conv => whnf)
          all_goals exact ⟨by rw [decide_eq_true ⟨hi0, hu2⟩]; rfl, rfl⟩
        · skip
          repeat' ((conv => whnf); first
            | (refine Both.intro ?_ ?_ <;> intro _ <;> try (exfalso; omega))
            | (refine Need.intro (by omega) ?_)
            | (refine ⟨_, q0, ?_⟩)
            | (refine ⟨_, q1, ?_⟩)
            | fail)
          all_goals (conv => whnf)
          all_goals exact ⟨by rw [decide_eq_false (fun h => hu2 h.2)]; rfl, rfl⟩
      · rw [hB, decide_eq_false (fun h => hi0 h.1)]
        repeat' ((conv => whnf); first
          | (refine Both.intro ?_ ?_ <;> intro _ <;> try (exfalso; omega))
          | (refine Need.intro (by omega) ?_)
          | (refine ⟨_, q0, ?_⟩)
          | fail)
        all_goals (conv => whnf)
        all_goals exact ⟨rfl, rfl⟩
    · rw [hB, if_neg h6]
      repeat' ((conv => whnf); first
        | (refine Both.intro ?_ ?_ <;> intro _ <;> try (exfalso; omega))
        | (refine Need.intro (by omega) ?_)
        | (refine ⟨_, q0, ?_⟩)
        | fail)
      all_goals (conv => whnf)
      all_goals exact ⟨rfl, rfl⟩
theorem Check8_any (H : AHeap) (hw : Wf H) (a : Option Addr) (n c : Nat) (ts : List Tk) (hr : RowS H a n c 2 (ts.map Tk.cells)) :
    Does Try.prog orc 28 [.slice a n c] H fun r H' => r = .ret (.int .i64 (chkF ts)) ∧ Ext H H' ∧ Wf H' := by
  have hlen := hr.len; simp at hlen
  have hcap := hr.cap
  refine Does.of Try.func28 (fun _ _ => rfl) rfl ?_
  by_cases h5 : 2048 < n
  · skip
    repeat' ((conv => whnf); first
      | (refine Both.intro ?_ ?_ <;> intro _ <;> try (exfalso; omega))
      | (refine Need.intro (by omega) ?_)
      | fail)
    all_goals (conv => whnf)
    exact ⟨by unfold chkF; rw [if_pos (by omega)]; rfl, Ext.refl _, hw⟩
  · have hrd := Read3_any H hw a n c ts hr (by omega)
    cases hf : foldR ts with
    | none =>
      have hrd := hrd.mono (Q' := fun r H' => r = .ret (.tuple #[.slice none 0 0, .slice none 0 0, .bool false]) ∧ Ext H H' ∧ Wf H') fun r H' h => by
        obtain ⟨h1, h2, h3⟩ := h
        rw [hf] at h3
        exact ⟨h3, h1, h2⟩
      repeat' ((conv => whnf); first
        | (refine Both.intro ?_ ?_ <;> intro _ <;> try (exfalso; omega))
        | (refine Need.intro (by omega) ?_)
        | (refine Does.mono hrd ?_ ; rintro _ H1 ⟨rfl, e1, w1⟩)
        | fail)
      all_goals (conv => whnf)
      exact ⟨by unfold chkF readF; rw [if_neg (by omega), hf]; rfl, e1, w1⟩
    | some z =>
      obtain ⟨j, ps⟩ := z
      have hrd := hrd.mono (Q' := fun r H' => (∃ (al : List Pt) (a1 : Option Addr) (c1 : Nat) (a2 : Option Addr) (c2 : Nat), r = .ret (.tuple #[.slice a1 al.length c1, .slice a2 ps.length c2, .bool true]) ∧ RowS H' a2 ps.length c2 4 (ps.map Pt.cells)) ∧ Ext H H' ∧ Wf H') fun r H' h => by
        obtain ⟨h1, h2, h3⟩ := h
        rw [hf] at h3
        obtain ⟨al, a1, c1, a2, c2, q1, q2, q3, -⟩ := h3
        exact ⟨⟨al, a1, c1, a2, c2, q1, q3⟩, h1, h2⟩
      by_cases h1 : ps.length = 1
      · obtain ⟨p, rfl⟩ := len_one h1
        have hrF : readF ts = some p := by unfold readF; rw [hf]
        have hT : chkF ts = if p.path then 7 else if wordsB ts then 0 else 7 := by unfold chkF; rw [if_neg (by omega), hrF]
        cases hpp : p.path with
        | true =>
          rw [hpp, if_pos rfl] at hT
          rw [hT]
          repeat' ((conv => whnf); first
            | (refine Both.intro ?_ ?_ <;> intro _ <;> try (exfalso; omega))
            | (refine Need.intro (by omega) ?_)
            | (refine Does.mono hrd ?_ ; rintro _ H1 ⟨⟨al, a1, c1, a2, c2, rfl, r2⟩, e1, w1⟩ ; obtain ⟨b2, o2, s2, rfl, hc2⟩ := r2.cell 0 p.cells rfl ; have hp0 := cellsAt_cell hc2 (j := 0) (v := .bool true) (by rw [← hpp]; rfl) ; have hcp := r2.cap)
            | (refine ⟨_, hp0, ?_⟩)
            | fail)
          all_goals (conv => whnf)
          exact ⟨rfl, e1, w1⟩
        | false =>
          rw [hpp, if_neg (by decide)] at hT
          rw [hT]
          repeat' ((conv => whnf); first
            | (refine Both.intro ?_ ?_ <;> intro _ <;> try (exfalso; omega))
            | (refine Need.intro (by omega) ?_)
            | (refine Does.mono hrd ?_ ; rintro _ H1 ⟨⟨al, a1, c1, a2, c2, rfl, r2⟩, e1, w1⟩ ; obtain ⟨b2, o2, s2, rfl, hc2⟩ := r2.cell 0 p.cells rfl ; have hp0 := cellsAt_cell hc2 (j := 0) (v := .bool false) (by rw [← hpp]; rfl) ; have hcp := r2.cap)
            | (refine ⟨_, hp0, ?_⟩)
            | fail)
          all_goals (conv => whnf)
          refine Runs.loop (fun i : Nat => [(6, .int .i64 i), (0, .slice a n c)]) (fun i H' => i ≤ n ∧ H1 = H' ∧ ∀ j, j < i → wordB ts j = true) (fun i => n - i) 0 ⟨rfl, rfl, trivial⟩ ⟨Nat.zero_le _, rfl, fun j hj => by omega⟩ ?_
          rintro i _ ⟨hi, rfl, hall⟩
          by_cases hlt : i < n
          · have hwd := word8_any H1 a n c ts (hr.ext hw e1) (by omega) i hlt
            cases hb : wordB ts i with
            | false =>
              rw [hb] at hwd
              repeat' ((conv => whnf); first
                | (refine Both.intro ?_ ?_ <;> intro _ <;> try (exfalso; omega))
                | (refine Need.intro (by omega) ?_)
                | (refine Does.mono hwd ?_ ; rintro _ _ ⟨rfl, rfl⟩)
                | fail)
              all_goals (conv => whnf)
              refine ⟨?_, e1, w1⟩
              rw [if_neg (fun h => by
                unfold wordsB at h
                rw [List.all_eq_true] at h
                have := h i (by simp; omega)
                rw [hb] at this; cases this)]
              rfl
            | true =>
              rw [hb] at hwd
              repeat' ((conv => whnf); first
                | (refine Both.intro ?_ ?_ <;> intro _ <;> try (exfalso; omega))
                | (refine Need.intro (by omega) ?_)
                | (refine Does.mono hwd ?_ ; rintro _ _ ⟨rfl, rfl⟩)
                | fail)
              all_goals (conv => whnf)
              exact ⟨i + 1, ⟨rfl, rfl, trivial⟩, ⟨by omega, rfl, fun j hj => by
                rcases Nat.lt_or_ge j i with h | h
                · exact hall j h
                · obtain rfl : j = i := by omega
                  exact hb⟩, by omega⟩
          · skip
            repeat' ((conv => whnf); first
              | (refine Both.intro ?_ ?_ <;> intro _ <;> try (exfalso; omega))
              | (refine Need.intro (by omega) ?_)
              | fail)
            all_goals (conv => whnf)
            refine ⟨?_, e1, w1⟩
            rw [if_pos (by
              unfold wordsB
              rw [List.all_eq_true]
              intro k hk
              exact hall k (by have := List.mem_range.1 hk; omega))]
            rfl
      · have hT : chkF ts = 7 := by
          unfold chkF; rw [if_neg (by omega)]
          unfold readF; rw [hf]
          rcases ps with _ | ⟨p, _ | ⟨q, r⟩⟩
          · rfl
          · simp at h1
          · rfl
        rw [hT]
        repeat' ((conv => whnf); first
          | (refine Both.intro ?_ ?_ <;> intro _ <;> try (exfalso; omega))
          | (refine Need.intro (by omega) ?_)
          | (refine Does.mono hrd ?_ ; rintro _ H1 ⟨⟨al, a1, c1, a2, c2, rfl, r2⟩, e1, w1⟩)
          | fail)
        all_goals (conv => whnf)
        exact ⟨rfl, e1, w1⟩
theorem chkF_nil : chkF [] = 7 := by decide
theorem checkF_nil : checkF [] = 7 := by decide
theorem chk_same {ts : List Tk} (h : checkF ts = 0 ∨ ts = []) : chkF ts = checkF ts := by
  rcases h with h | rfl
  · rw [h]; exact (checkF_ok h).1
  · rw [chkF_nil, checkF_nil]
theorem Neg8_any (H : AHeap) (hw : Wf H) (a : Option Addr) (n c : Nat) (ts : List Tk) (hr : RowS H a n c 2 (ts.map Tk.cells)) (h : checkF ts = 0 ∨ ts = []) :
    Does Try.prog orc 23 [.slice a n c] H fun r H' => ∃ v, r = .ret (.tuple #[v, .int .i64 (negE ts)]) ∧ Fm H' v (negF ts) ∧ Ext H H' ∧ Wf H' := by
  have hlen := hr.len; simp at hlen
  have hcap := hr.cap
  have hck := Check8_any H hw a n c ts hr
  rw [chk_same h] at hck
  refine Does.of Try.func23 (fun _ _ => rfl) rfl ?_
  by_cases h0 : checkF ts = 0
  · obtain ⟨-, i, p, hf, hp⟩ := checkF_ok h0
    obtain ⟨-, h2048⟩ := checkF_kinds h0
    have hck := hck.mono (Q' := fun r H' => r = .ret (.int .i64 ((0 : Nat) : Int)) ∧ Ext H H' ∧ Wf H') fun r H' h => by rw [h0] at h; exact h
    by_cases h1 : (formsF ts).no.length ≤ 2048
    · have hof : negE ts = 0 := by unfold negE; rw [if_pos h0, if_pos h1]
      have hff : negF ts = (formsF ts).no := by unfold negF; rw [if_pos hof]
      rw [hof, hff]
      repeat' ((conv => whnf); first
        | (refine Both.intro ?_ ?_ <;> intro _ <;> try (exfalso; omega))
        | (refine Need.intro (by omega) ?_)
        | (refine Does.mono hck ?_ ; rintro _ H1 ⟨rfl, e1, w1⟩)
        | (refine Does.mono (Grow_ok H1 w1 a n c ts (hr.ext hw e1) (by omega) hf hp rfl) ?_ ; rintro _ H2 ⟨x, b, m, d, rfl, hl, hwk, hxp, hPT, e2, w2⟩ ; have gX := get_new H2 (.cells [.int .u8 0, .int .u8 0, .slice none 0 0] (typedV 83) true) ; have eX := (Ext.push H2 (.cells [.int .u8 0, .int .u8 0, .slice none 0 0] (typedV 83) true)).set (Nat.le_refl _) (.cells [.int .u8 x.tok.op, .int .u8 x.tok.p, .slice b m d] (typedV 83) true) ; have wX := (w2.push (.cells [.int .u8 0, .int .u8 0, .slice none 0 0] (typedV 83) true)).set gX (.cells [.int .u8 x.tok.op, .int .u8 x.tok.p, .slice b m d] (typedV 83) true) ; have qX := cellsAt_all (n := 3) (get_set_same H2.next (H2.push (.cells [.int .u8 0, .int .u8 0, .slice none 0 0] (typedV 83) true)) (.cells [.int .u8 x.tok.op, .int .u8 x.tok.p, .slice b m d] (typedV 83) true)) rfl)
        | (refine Gives.intro ⟨_, zTree, ?_⟩)
        | (refine Outs.intro ⟨_, _, _, storeAgg_ok (vs := [.int .u8 x.tok.op, .int .u8 x.tok.p, .slice b m d]) (by kernel_rfl) rfl gX rfl, ?_⟩)
        | (refine ⟨_, qX, ?_⟩)
        | (refine Does.mono (sizes_any x _ _ wX hwk (hl.ext w2 eX)) ?_ ; rintro _ H3 ⟨y, m', rfl, hy, hm, hmp, e3, w3⟩ ; have hm' := hmp hxp ; rw [hPT] at hm' ; have q3 := cellsAt_ext wX e3 qX)
        | (refine ⟨_, q3, ?_⟩)
        | (refine Does.mono (K_any x _ true H3 w3 hwk ((hl.ext w2 eX).ext wX e3) (fun _ => hxp) (by simp only [sel, hPT, if_true]; omega)) ?_ ; rintro _ H4 ⟨u, rfl, f4, e4, w4⟩)
        | fail)
      all_goals (conv => whnf)
      exact ⟨_, rfl, by rw [← hPT]; exact f4, e1.trans (e2.trans (eX.trans (e3.trans e4))), w4⟩
    · have hof : negE ts = 3 := by unfold negE; rw [if_pos h0, if_neg h1]
      have hff : negF ts = [] := by unfold negF; rw [if_neg (by rw [hof]; decide)]
      rw [hof, hff]
      repeat' ((conv => whnf); first
        | (refine Both.intro ?_ ?_ <;> intro _ <;> try (exfalso; omega))
        | (refine Need.intro (by omega) ?_)
        | (refine Does.mono hck ?_ ; rintro _ H1 ⟨rfl, e1, w1⟩)
        | (refine Does.mono (Grow_ok H1 w1 a n c ts (hr.ext hw e1) (by omega) hf hp rfl) ?_ ; rintro _ H2 ⟨x, b, m, d, rfl, hl, hwk, hxp, hPT, e2, w2⟩ ; have gX := get_new H2 (.cells [.int .u8 0, .int .u8 0, .slice none 0 0] (typedV 83) true) ; have eX := (Ext.push H2 (.cells [.int .u8 0, .int .u8 0, .slice none 0 0] (typedV 83) true)).set (Nat.le_refl _) (.cells [.int .u8 x.tok.op, .int .u8 x.tok.p, .slice b m d] (typedV 83) true) ; have wX := (w2.push (.cells [.int .u8 0, .int .u8 0, .slice none 0 0] (typedV 83) true)).set gX (.cells [.int .u8 x.tok.op, .int .u8 x.tok.p, .slice b m d] (typedV 83) true) ; have qX := cellsAt_all (n := 3) (get_set_same H2.next (H2.push (.cells [.int .u8 0, .int .u8 0, .slice none 0 0] (typedV 83) true)) (.cells [.int .u8 x.tok.op, .int .u8 x.tok.p, .slice b m d] (typedV 83) true)) rfl)
        | (refine Gives.intro ⟨_, zTree, ?_⟩)
        | (refine Outs.intro ⟨_, _, _, storeAgg_ok (vs := [.int .u8 x.tok.op, .int .u8 x.tok.p, .slice b m d]) (by kernel_rfl) rfl gX rfl, ?_⟩)
        | (refine ⟨_, qX, ?_⟩)
        | (refine Does.mono (sizes_any x _ _ wX hwk (hl.ext w2 eX)) ?_ ; rintro _ H3 ⟨y, m', rfl, hy, hm, hmp, e3, w3⟩ ; have hm' := hmp hxp ; rw [hPT] at hm' ; have q3 := cellsAt_ext wX e3 qX)
        | (refine ⟨_, q3, ?_⟩)
        | fail)
      all_goals (conv => whnf)
      exact ⟨_, rfl, Fm.nil _, e1.trans (e2.trans (eX.trans e3)), w3⟩
  · have hof : negE ts = checkF ts := by unfold negE; rw [if_neg h0]
    have hff : negF ts = [] := by unfold negF; rw [if_neg (by rw [hof]; exact h0)]
    rw [hof, hff]
    repeat' ((conv => whnf); first
      | (refine Both.intro ?_ ?_ <;> intro _ <;> try (exfalso; omega))
      | (refine Need.intro (by omega) ?_)
      | (refine Does.mono hck ?_ ; rintro _ H1 ⟨rfl, e1, w1⟩)
      | fail)
    all_goals (conv => whnf)
    exact ⟨_, rfl, Fm.nil _, e1, w1⟩
end Go.AX.Try
/- KernelLong: formulas that double at each step are refused just where the document says. -/
namespace Go.AX.Try
open Go Go.AX Go.AX.Lw Go.Proofs
set_option linter.unusedVariables false
set_option linter.unusedSimpArgs false
set_option maxRecDepth 100000
/-- What Of tells is checked, or nothing. -/
theorem ofF_check (ts : List Tk) : checkF (ofF ts) = 0 ∨ ofF ts = [] := by
  by_cases h : ofE ts = 0
  · left
    have h0 : termF ts false = 0 := by
      by_cases hc : termF ts false = 0
      · exact hc
      · unfold ofE at h; rw [if_neg hc] at h; exact absurd h hc
    obtain ⟨x, pl, hx, ⟨n, hn⟩, -⟩ := forms_ok h0
    have hF : formsF ts = x := by unfold formsF; rw [hx]; rfl
    have hl : x.yes.length ≤ 2048 := by
      unfold ofE at h; rw [if_pos h0, hF] at h
      by_cases hc : x.yes.length ≤ 2048
      · exact hc
      · rw [if_neg hc] at h; cases h
    have : ofF ts = x.yes := by unfold ofF; rw [if_pos h, hF]
    rw [this]
    obtain ⟨s, h1, h2, -⟩ := hn.sy []
    unfold checkF
    rw [if_neg (by omega), h1]
    simp [h2]
  · right; unfold ofF; rw [if_neg h]
theorem ofF_len (ts : List Tk) : (ofF ts).length ≤ 2048 := by
  rcases ofF_check ts with h | h
  · exact (checkF_kinds h).2
  · rw [h]; simp
theorem negF_len (ts : List Tk) : (negF ts).length ≤ 2048 := by
  unfold negF
  split
  · rename_i h
    unfold negE at h
    by_cases h0 : checkF ts = 0
    · rw [if_pos h0] at h
      by_cases h1 : (formsF ts).no.length ≤ 2048
      · exact h1
      · rw [if_neg h1] at h; cases h
    · rw [if_neg h0] at h; exact absurd h h0
  · simp
theorem sameF (H : AHeap) (v w : Value) (ts : List Tk) (hv : Fm H v ts) (hw : Fm H w ts) (hn : ts.length ≤ 2 ^ 60) :
    Does Try.prog orc 31 [v, w] H fun r H' => r = .ret (.bool true) ∧ H = H' := by
  obtain ⟨a, n, c, rfl, hr⟩ := hv
  obtain ⟨a', n', c', rfl, hr'⟩ := hw
  have h1 := hr.len; simp at h1
  have h2 := hr'.len; simp at h2
  refine (sameToks_any H a a' n c n' c' ts ts hr hr' (by omega) (by omega)).mono fun r H' ⟨b, h1, h2, h3⟩ => ⟨by rw [h1, h2.2 rfl], h3⟩
theorem and7 (i : Nat) (h : i < 80) : aInt .and .i64 (i : Int) 7 = some (.int .i64 ((i % 8 : Nat) : Int)) := by
  have : ∀ i : Fin 80, IntKind.i64.wrap (BitVec.ofInt IntKind.i64.bits (i.val : Int) &&& BitVec.ofInt IntKind.i64.bits 7).toNat = ((i.val % 8 : Nat) : Int) := by decide +kernel
  show some (Value.int .i64 _) = _
  rw [this ⟨i, h⟩]
theorem conv8 (q : Nat) (h : q < 8) : aConv Try.prog 3 5 (.int .i64 (q : Int)) = some (.int .u8 (q : Int)) := by
  rcases (show q = 0 ∨ q = 1 ∨ q = 2 ∨ q = 3 ∨ q = 4 ∨ q = 5 ∨ q = 6 ∨ q = 7 by omega) with rfl | rfl | rfl | rfl | rfl | rfl | rfl | rfl <;> kernel_rfl
theorem bTok2 (a b : Int) : aBuild Try.prog 46 [(0, .int .u8 a), (1, .int .u8 b)] = some (.agg #[.int .u8 a, .int .u8 b]) := by kernel_rfl
theorem bTok1 (a : Int) : aBuild Try.prog 46 [(0, .int .u8 a)] = some (.agg #[.int .u8 a, .int .u8 0]) := by kernel_rfl
theorem bsTok2 (a b c d : Int) : aBuildSlice Try.prog 22 2 [(0, .agg #[.int .u8 a, .int .u8 b]), (1, .agg #[.int .u8 c, .int .u8 d])] = mkSlice [.int .u8 a, .int .u8 b, .int .u8 c, .int .u8 d] 2 2 := by kernel_rfl
theorem kernelLong_any (H : AHeap) (hw : Wf H) (a : Option Addr) (n c : Nat) (ts : List Tk) (hr : RowS H a n c 2 (ts.map Tk.cells)) (z : Int) (b : Bool) :
    Does Try.prog orc 5 [.slice a n c, .int .i64 z, .bool b] H fun r H' => r = .ret (.bool true) := by
  have hlen := hr.len; simp at hlen
  have hcap := hr.cap
  refine Does.of Try.func5 (fun _ _ => rfl) rfl ?_
  by_cases h1 : n ≤ 20 ∧ 0 ≤ z ∧ z ≤ 80
  · obtain ⟨h20, hz0, hz80⟩ := h1
    obtain ⟨N, rfl⟩ : ∃ N : Nat, z = N := ⟨z.toNat, by omega⟩
    obtain ⟨a1, c1, H1, p1, s1, e1, w1⟩ := appNil hw (l := ts) ⟨a, n, c, rfl, hr⟩ (by omega)
    repeat' ((conv => whnf); first
      | (refine Both.intro ?_ ?_ <;> intro _ <;> try (exfalso; omega))
      | (refine Need.intro (by omega) ?_)
      | (refine Outs.intro ⟨_, _, _, p1, ?_⟩)
      | fail)
    all_goals (conv => whnf)
    refine Runs.loop (fun s : Nat × List Tk × Option Addr × Nat => [(8, .int .i64 s.1), (7, .slice s.2.2.1 s.2.1.length s.2.2.2), (1, .int .i64 N), (2, .bool b)])
      (fun s H' => s.1 ≤ N ∧ Ext H H' ∧ Wf H' ∧ Stk H H' (rowV 46 2) 2 s.2.2.1 s.2.1.length s.2.2.2 (s.2.1.map Tk.cells) ∧ s.2.1.length ≤ 20 + 3 * s.1) (fun s => N - s.1) ⟨0, ts, a1, c1⟩ ⟨rfl, rfl, rfl, rfl, trivial⟩ ⟨Nat.zero_le _, e1, w1, s1, by dsimp only; omega⟩ ?_
    rintro ⟨i, ls, la, lc⟩ H2 ⟨hi, e2, w2, s2, hls⟩
    dsimp only at hi s2 hls
    show vc _ _ _ _ _ [(8, .int .i64 i), (7, .slice la ls.length lc), (1, .int .i64 N), (2, .bool b)] _ _
    clear s1 w1 e1 p1
    by_cases hlt : i < N
    · have tA : ∀ (X : AHeap) (l : List Tk), Fm (X.push (.cells (l.map Tk.cells).flatten 0 true)) (.slice (some ⟨X.next, 0, none⟩) l.length l.length) l := fun X l => FmS.fm (S := fun _ => True) (fmS_block (get_new _ _) rfl True.intro)
      obtain ⟨a3, c3, H3, p3, s3, e3, w3⟩ := appTo (e2.trans (Ext.push H2 (.cells ([⟨2, i % 8⟩, opT 14].map Tk.cells).flatten 0 true))) (w2.push _) (s2.ext w2 (Ext.push H2 (.cells ([⟨2, i % 8⟩, opT 14].map Tk.cells).flatten 0 true))) (tA H2 [⟨2, i % 8⟩, opT 14]) (by omega) (by simp)
      have hl3 : (ls ++ [⟨2, i % 8⟩, opT 14]).length = ls.length + 2 := by simp
      obtain ⟨a4, c4, H4, p4, s4, e4, w4⟩ := appTo (e3.trans (Ext.push H3 (.cells ([opT 6].map Tk.cells).flatten 0 true))) (w3.push _) (s3.ext w3 (Ext.push H3 (.cells ([opT 6].map Tk.cells).flatten 0 true))) (tA H3 [opT 6]) (by omega) (by simp)
      have hl4 : (ls ++ [⟨2, i % 8⟩, opT 14] ++ [opT 6]).length = ls.length + 3 := by simp
      cases b
      · skip
        repeat' ((conv => whnf); first
          | (refine Both.intro ?_ ?_ <;> intro _ <;> try (exfalso; omega))
          | (refine Need.intro (by omega) ?_)
          | (refine Gives.intro ⟨_, and7 i (by omega), ?_⟩)
          | (refine Gives.intro ⟨_, conv8 (i % 8) (by omega), ?_⟩)
          | (refine Gives.intro ⟨_, zTok, ?_⟩)
          | (refine Gives.intro ⟨_, bTok2 _ _, ?_⟩)
          | (refine Gives.intro ⟨_, bTok1 _, ?_⟩)
          | (refine ⟨_, bsTok2 _ _ _ _, ?_⟩)
          | (refine Outs.intro ⟨_, _, _, p3, ?_⟩)
          | (refine ⟨_, bsTok _ _, ?_⟩)
          | (refine Outs.intro ⟨_, _, _, p4, ?_⟩)
          | fail)
        all_goals (conv => whnf)
        exact ⟨(i + 1, ls ++ [⟨2, i % 8⟩, opT 14], a3, c3), ⟨rfl, rfl, rfl, rfl, trivial⟩, ⟨by dsimp only; omega, e3, w3, s3, by dsimp only; omega⟩, by dsimp only; omega⟩
      · skip
        repeat' ((conv => whnf); first
          | (refine Both.intro ?_ ?_ <;> intro _ <;> try (exfalso; omega))
          | (refine Need.intro (by omega) ?_)
          | (refine Gives.intro ⟨_, and7 i (by omega), ?_⟩)
          | (refine Gives.intro ⟨_, conv8 (i % 8) (by omega), ?_⟩)
          | (refine Gives.intro ⟨_, zTok, ?_⟩)
          | (refine Gives.intro ⟨_, bTok2 _ _, ?_⟩)
          | (refine Gives.intro ⟨_, bTok1 _, ?_⟩)
          | (refine ⟨_, bsTok2 _ _ _ _, ?_⟩)
          | (refine Outs.intro ⟨_, _, _, p3, ?_⟩)
          | (refine ⟨_, bsTok _ _, ?_⟩)
          | (refine Outs.intro ⟨_, _, _, p4, ?_⟩)
          | fail)
        all_goals (conv => whnf)
        exact ⟨(i + 1, ls ++ [⟨2, i % 8⟩, opT 14] ++ [opT 6], a4, c4), ⟨rfl, rfl, rfl, rfl, trivial⟩, ⟨by dsimp only; omega, e4, w4, s4, by dsimp only; omega⟩, by dsimp only; omega⟩
    · have row := s2.row
      have hch := ofF_check ls
      have hol := ofF_len ls
      have hnl := negF_len (ofF ls)
      have hks := chk_same hch
      obtain ⟨E, hE⟩ : ∃ E, E = ofE ls := ⟨_, rfl⟩
      obtain ⟨F, hF⟩ : ∃ F, F = ofF ls := ⟨_, rfl⟩
      obtain ⟨NE, hNE⟩ : ∃ NE, NE = negE F := ⟨_, rfl⟩
      obtain ⟨NF, hNF⟩ : ∃ NF, NF = negF F := ⟨_, rfl⟩
      rw [← hF] at hch hol hks hnl
      rw [← hNF] at hnl
      have hOf := fun X e w => Of_any X w la _ lc ls (row.ext w2 e)
      have hOf8 := fun X e w => Of8_any X w la _ lc ls (row.ext w2 e)
      have hSz := fun X e w => Size_any X w la _ lc ls (row.ext w2 e)
      have hSz8 := fun X e w => Size8_any X w la _ lc ls (row.ext w2 e)
      rw [← hE, ← hF] at hOf hOf8
      have hNeg := fun X w a n c (r : RowS X a n c 2 (F.map Tk.cells)) hn => Neg_any X w a n c F r hn
      have hNeg8 := fun X w a n c (r : RowS X a n c 2 (F.map Tk.cells)) => Neg8_any X w a n c F r hch
      have hCk8 := fun X w a n c (r : RowS X a n c 2 (F.map Tk.cells)) => Check8_any X w a n c F r
      rw [← hNE, ← hNF] at hNeg hNeg8
      rw [hks] at hCk8
      repeat' ((conv => whnf); first
        | (refine Both.intro ?_ ?_ <;> intro _ <;> try (exfalso; omega))
        | (refine Need.intro (by omega) ?_)
        | (refine Does.mono (hOf H2 (Ext.refl _) w2) ?_ ; rintro _ A1 ⟨v1, rfl, f1, d1, u1⟩)
        | (refine Does.mono (hOf8 A1 d1 u1) ?_ ; rintro _ A2 ⟨v2, rfl, f2, d2, u2⟩ ; obtain ⟨b2, k2, c2, rfl, r2⟩ := f2 ; have l2 := r2.len ; simp at l2)
        | (refine Does.mono (hSz A2 (d1.trans d2) u2) ?_ ; rintro _ A3 ⟨rfl, d3, u3⟩)
        | (refine Does.mono (hSz8 A3 ((d1.trans d2).trans d3) u3) ?_ ; rintro _ A4 ⟨rfl, d4, u4⟩ ; have r4 := r2.ext u2 (d3.trans d4))
        | (refine Does.mono (hNeg A4 u4 b2 k2 c2 r4 (by omega)) ?_ ; rintro _ A5 ⟨v5, rfl, f5, d5, u5⟩)
        | (refine Does.mono (hNeg8 A5 u5 b2 k2 c2 (r4.ext u4 d5)) ?_ ; rintro _ A6 ⟨v6, rfl, f6, d6, u6⟩ ; have r6 := r4.ext u4 (d5.trans d6) ; have f16 := f1.ext u1 (d2.trans ((d3.trans d4).trans (d5.trans d6))) ; have f56 := f5.ext u5 d6)
        | (refine Does.mono (sameF A6 _ _ F f16 ⟨b2, k2, c2, rfl, r6⟩ (by omega)) ?_ ; rintro _ _ ⟨rfl, rfl⟩)
        | (refine Does.mono (sameF A6 _ _ NF f56 f6 (by omega)) ?_ ; rintro _ _ ⟨rfl, rfl⟩)
        | (refine Does.mono (check_any A6 u6 b2 k2 c2 F r6 (by omega)) ?_ ; rintro _ A7 ⟨rfl, d7, u7⟩)
        | (refine Does.mono (hCk8 A7 u7 b2 k2 c2 (r6.ext u6 d7)) ?_ ; rintro _ A8 ⟨rfl, d8, u8⟩)
        | fail)
      all_goals (conv => whnf)
      rfl
  · by_cases h2 : n ≤ 20
    · by_cases h3 : 0 ≤ z
      · skip
        repeat' ((conv => whnf); first
          | (refine Both.intro ?_ ?_ <;> intro _ <;> try (exfalso; omega))
          | (refine Need.intro (by omega) ?_)
          | fail)
        all_goals (conv => whnf)
        rfl
      · skip
        repeat' ((conv => whnf); first
          | (refine Both.intro ?_ ?_ <;> intro _ <;> try (exfalso; omega))
          | (refine Need.intro (by omega) ?_)
          | fail)
        all_goals (conv => whnf)
        rfl
    · skip
      repeat' ((conv => whnf); first
        | (refine Both.intro ?_ ?_ <;> intro _ <;> try (exfalso; omega))
        | (refine Need.intro (by omega) ?_)
        | fail)
      all_goals (conv => whnf)
      rfl
end Go.AX.Try
