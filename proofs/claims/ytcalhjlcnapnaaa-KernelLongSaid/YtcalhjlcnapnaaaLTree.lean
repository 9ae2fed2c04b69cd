/- rejoinderref03.Takes, rejoinderref07.Grow: the tree of tokens. -/
import Derived.Test.YtcalhjlcnapnaaaLSame
namespace Go.AX.Try
open Go Go.AX Go.AX.Lw Go.Proofs
set_option linter.unusedVariables false
set_option linter.unusedSimpArgs false
set_option maxRecDepth 100000
theorem Takes3_any (H : AHeap) (hw : Wf H) (t : Tk) : Does Try.prog orc 97 [.agg #[.int .u8 t.op, .int .u8 t.p]] H fun r H' => r = .ret (.int .i64 (takesT t)) ∧ Ext H H' ∧ Wf H' := by
  refine Does.mono (((?_ : Does Try.prog orc 97 [.agg #[.int .u8 t.op, .int .u8 t.p]] H fun r H' => r = .ret (.int .i64 (takesT t)) ∧ Ext H H')).wf hw) fun r H' h => ⟨h.1.1, h.1.2, h.2⟩
  refine Does.of Try.func97 (fun _ _ => rfl) rfl ?_
  obtain ⟨op, p⟩ := t
  have g0 := get_new H (.cells [.int .u8 op, .int .u8 p] 0 true)
  have q0 := cellAt_of g0 (o := 0) rfl
  have q1 := cellAt_of g0 (o := 1) rfl
  repeat' ((conv => whnf); first
    | (refine Both.intro ?_ ?_ <;> intro _ <;> try (exfalso; omega))
    | (refine Need.intro (by omega) ?_)
    | (refine ⟨_, q0, ?_⟩)
    | (refine ⟨_, q1, ?_⟩)
    | fail)
  all_goals (conv => whnf)
  all_goals
    refine ⟨?_, Ext.push _ _⟩
    unfold takesT okT
    dsimp only
    first
    | (rw [if_neg (by simp; omega)]; rfl)
    | (rw [if_pos (by simp; omega)]; unfold takesF; first | (rw [if_pos (by omega)]; rfl) | (rw [if_neg (by omega), if_pos (by omega)]; rfl) | (rw [if_neg (by omega), if_neg (by omega)]; rfl))
/-- A tree. -/
inductive Tre where
  | n0 (t : Tk)
  | n1 (t : Tk) (a : Tre)
  | n2 (t : Tk) (a b : Tre)
def Tre.tok : Tre → Tk
  | .n0 t => t
  | .n1 t _ => t
  | .n2 t _ _ => t
/-- A tree's cells, with what it takes. -/
def tcells (p : Tre × Value) : List Value := [.int .u8 p.1.tok.op, .int .u8 p.1.tok.p, p.2]
def tval (p : Tre × Value) : Value := .agg #[.int .u8 p.1.tok.op, .int .u8 p.1.tok.p, p.2]
/-- What a tree takes lies so, in blocks from N on. -/
def Tre.lies (N : Nat) (H : AHeap) : Tre → Value → Prop
  | .n0 _, v => ∃ a c, v = .slice a 0 c
  | .n1 _ x, v => ∃ a c u, v = .slice a 1 c ∧ (∀ b o s, a = some ⟨b, o, s⟩ → N ≤ b) ∧ RowS H a 1 c 3 [tcells (x, u)] ∧ x.lies N H u
  | .n2 _ x y, v => ∃ a c u w, v = .slice a 2 c ∧ (∀ b o s, a = some ⟨b, o, s⟩ → N ≤ b) ∧ RowS H a 2 c 3 [tcells (x, u), tcells (y, w)] ∧ x.lies N H u ∧ y.lies N H w
theorem Tre.lies.ext {N : Nat} {H H' : AHeap} (hw : Wf H) (e : Ext H H') : ∀ {x : Tre} {v : Value}, x.lies N H v → x.lies N H' v
  | .n0 _, v, h => h
  | .n1 _ x, v, ⟨a, c, u, h, k, r, hx⟩ => ⟨a, c, u, h, k, r.ext hw e, Tre.lies.ext hw e hx⟩
  | .n2 _ x y, v, ⟨a, c, u, w, h, k, r, hx, hy⟩ => ⟨a, c, u, w, h, k, r.ext hw e, Tre.lies.ext hw e hx, Tre.lies.ext hw e hy⟩
theorem Tre.lies.keep {N M : Nat} {H H' : AHeap} (hm : M ≤ N) (e : ∀ b, N ≤ b → H'.get b = H.get b) : ∀ {x : Tre} {v : Value}, x.lies N H v → x.lies M H' v
  | .n0 _, v, h => h
  | .n1 _ x, v, ⟨a, c, u, h, k, r, hx⟩ => ⟨a, c, u, h, fun b o s q => Nat.le_trans hm (k b o s q), RowS.sameB r fun b o s q => e b (k b o s q), Tre.lies.keep hm e hx⟩
  | .n2 _ x y, v, ⟨a, c, u, w, h, k, r, hx, hy⟩ => ⟨a, c, u, w, h, fun b o s q => Nat.le_trans hm (k b o s q), RowS.sameB r fun b o s q => e b (k b o s q), Tre.lies.keep hm e hx, Tre.lies.keep hm e hy⟩
theorem Tre.lies.slice {N : Nat} {H : AHeap} : ∀ {x : Tre} {v : Value}, x.lies N H v → ∃ a n c, v = .slice a n c
  | .n0 _, v, ⟨a, c, h⟩ => ⟨a, 0, c, h⟩
  | .n1 _ x, v, ⟨a, c, u, h, k, r, hx⟩ => ⟨a, 1, c, h⟩
  | .n2 _ x y, v, ⟨a, c, u, w, h, k, r, hx, hy⟩ => ⟨a, 2, c, h⟩
def node (t : Tk) : List Tre → Tre
  | [a] => .n1 t a
  | [a, b] => .n2 t a b
  | _ => .n0 t
theorem node_tok (t : Tk) (l : List Tre) : (node t l).tok = t := by
  unfold node
  split <;> rfl
def stepG (st : List Tre) (t : Tk) : List Tre := st.take (st.length - takesF t.op) ++ [node t (st.drop (st.length - takesF t.op))]
theorem treeTy : AppTyS Try.prog #[81, 81] 83 3 32 where
  t0 := by kernel_rfl
  t1 := by kernel_rfl
  size := by kernel_rfl
  bytes := by kernel_rfl
  pos := by decide
  szp := by decide
  szl := by decide
  zero := ⟨.agg #[.int .u8 0, .int .u8 0, .slice none 0 0], by kernel_rfl, by kernel_rfl⟩
theorem zTree : zeroOf Try.prog 83 = some (.agg #[.int .u8 0, .int .u8 0, .slice none 0 0]) := by kernel_rfl
theorem bTree (a b : Int) (o : Option Addr) (n c : Nat) : aBuild Try.prog 83 [(0, .agg #[.int .u8 a, .int .u8 b]), (1, .slice o n c)] = some (.agg #[.int .u8 a, .int .u8 b, .slice o n c]) := by kernel_rfl
theorem row_src {H : AHeap} {a : Option Addr} {n c sz : Nat} {l : List (List Value)} (h : RowS H a n c sz l) (hs : 1 ≤ sz) : srcCells H sz (.slice a n c) = some (n, l.flatten) := by
  have hn := h.len
  have hncap := h.cap
  by_cases h0 : n = 0
  · have hl0 : l = [] := List.length_eq_zero_iff.1 (by omega)
    subst hl0
    rw [h0]
    cases a <;> rfl
  · obtain ⟨b', o', st', rfl, hcs⟩ := RowS.flat h (by omega) hs
    unfold srcCells
    simp only [nbeq_no h0, cond_false, nble hncap, cond_true, hcs]
theorem tc_one {N : Nat} {H : AHeap} (l : List (Tre × Value)) (h : ∀ p ∈ l, p.1.lies N H p.2) : allOne (l.map tcells).flatten = true := by
  unfold allOne; rw [List.all_eq_true]; intro x hx
  obtain ⟨y, hy', hx'⟩ := List.mem_flatten.1 hx
  obtain ⟨t, ht, rfl⟩ := List.mem_map.1 hy'
  obtain ⟨a, n, c, hs⟩ := (h t ht).slice
  simp [tcells, hs] at hx'; rcases hx' with rfl | rfl | rfl <;> rfl
theorem tc_three (l : List (Tre × Value)) : ∀ y ∈ l.map tcells, y.length = 3 := by intro y hy'; obtain ⟨t, _, rfl⟩ := List.mem_map.1 hy'; rfl
/-- Trees that are copied. -/
theorem copyTr {N : Nat} {H : AHeap} (hw : Wf H) {a : Option Addr} {n c : Nat} {l : List (Tre × Value)} (hr : RowS H a n c 3 (l.map tcells)) (hl : ∀ p ∈ l, p.1.lies N H p.2) (hn : n ≤ 2 ^ 20) :
    ∃ a' c' H', aAppend Try.prog H #[81, 81] [.slice none 0 0, .slice a n c] = some (.val (.slice a' n c') H' (.eff H H')) ∧ Stk H H' (rowV 83 3) 3 a' n c' (l.map tcells) ∧ Ext H H' ∧ Wf H' := by
  have hlen := hr.len
  obtain ⟨a', c', H', h1, h2, h3, h4, h5⟩ := stk_app (Ext.refl H) hw treeTy (Stk.nil H H _ 3) (row_src hr (by decide)) hlen (tc_three l) (tc_one l hl) (by omega) (by omega)
  rw [Nat.zero_add] at h1 h2
  exact ⟨a', c', H', h1, h2, h3, h4⟩
theorem bsTree (a b : Int) (o : Option Addr) (n c : Nat) : aBuildSlice Try.prog 81 1 [(0, .agg #[.int .u8 a, .int .u8 b, .slice o n c])] = mkSlice [.int .u8 a, .int .u8 b, .slice o n c] 1 1 := by kernel_rfl
theorem Stk.low {Z H0 H : AHeap} {code sz : Nat} {a : Option Addr} {n c : Nat} {xs : List (List Value)} (h : Stk H0 H code sz a n c xs) (hn : Z.next ≤ H0.next) : Stk Z H code sz a n c xs := by
  obtain ⟨h1, h2, h3, h4⟩ := h
  refine ⟨h1, h2, h3, ?_⟩
  rcases h4 with h4 | ⟨b, cs, q1, q2, q3, q4, q5⟩
  · exact .inl h4
  · exact .inr ⟨b, cs, q1, q2, q3, q4, Nat.le_trans hn q5⟩
theorem node_lies {N : Nat} {H : AHeap} {a : Option Addr} {n c : Nat} {l : List (Tre × Value)} (t : Tk) (hr : RowS H a n c 3 (l.map tcells)) (hk : ∀ b o s, a = some ⟨b, o, s⟩ → N ≤ b) (hl : ∀ p ∈ l, p.1.lies N H p.2) (h2 : l.length ≤ 2) : (node t (l.map Prod.fst)).lies N H (.slice a n c) := by
  have hlen := hr.len
  match l, h2 with
  | [], _ => simp at hlen; exact ⟨a, c, by rw [hlen]⟩
  | [p], _ => simp at hlen; exact ⟨a, c, p.2, by rw [hlen], hk, by rw [hlen] at hr; exact hr, hl p (by simp)⟩
  | [p, q], _ => simp at hlen; exact ⟨a, c, p.2, q.2, by rw [hlen], hk, by rw [hlen] at hr; exact hr, hl p (by simp), hl q (by simp)⟩
  | _ :: _ :: _ :: _, h => simp at h
/-- The stack of Grow. -/
structure GI (Z H : AHeap) (ts : List Tk) (k : Nat) (xs : List (Tre × Value)) (a : Option Addr) (c : Nat) : Prop where
  kle : k ≤ ts.length
  e : Ext Z H
  w : Wf H
  row : Stk Z H (rowV 83 3) 3 a xs.length c (xs.map tcells)
  lies : ∀ p ∈ xs, p.1.lies Z.next H p.2
  fd : xs.map Prod.fst = (ts.take k).foldl stepG []
  ln : xs.length ≤ k
theorem foldR_part {ts : List Tk} {i : Nat} {ps : List Pt} (hf : foldR ts = some (i, ps)) {k : Nat} {t : Tk} (ht : ts[k]? = some t) : ∃ j qs, foldR (ts.take k) = some (j, qs) ∧ okT t = true ∧ takesF t.op ≤ qs.length ∧ fitsF t.op (qs.drop (qs.length - takesF t.op)) = true := by
  cases hs : stepR (foldR (ts.take k)) t with
  | none => rw [foldR_rest ht hs] at hf; cases hf
  | some z =>
    cases hq : foldR (ts.take k) with
    | none => rw [hq] at hs; cases hs
    | some w =>
      obtain ⟨j, qs⟩ := w
      rw [hq] at hs
      unfold stepR at hs
      dsimp only at hs
      split at hs
      · rename_i h
        exact ⟨j, qs, rfl, h⟩
      · cases hs
theorem foldR_len : ∀ (l : List Tk) (i : Nat) (ps : List Pt) (j : Nat) (qs : List Pt) (gs : List Tre), ps.length = gs.length → l.foldl stepR (some (i, ps)) = some (j, qs) → qs.length = (l.foldl stepG gs).length
  | [], i, ps, j, qs, gs, h, hf => by cases hf; exact h
  | t :: l, i, ps, j, qs, gs, h, hf => by
    rw [List.foldl_cons] at hf ⊢
    cases hs : stepR (some (i, ps)) t with
    | none => rw [hs, foldR_none] at hf; cases hf
    | some w =>
      obtain ⟨i', ps'⟩ := w
      rw [hs] at hf
      refine foldR_len l i' ps' j qs _ ?_ hf
      unfold stepR at hs
      dsimp only at hs
      split at hs
      · rename_i hk
        cases hs
        unfold stepG
        simp only [List.length_append, List.length_take, List.length_singleton]
        omega
      · cases hs
theorem Grow_any (H : AHeap) (hw : Wf H) (a : Option Addr) (n c : Nat) (ts : List Tk) (hr : RowS H a n c 2 (ts.map Tk.cells)) (hn : n ≤ 2 ^ 20) {i : Nat} {ps : List Pt} (hf : foldR ts = some (i, ps)) (hp : ps ≠ []) :
    Does Try.prog orc 59 [.slice a n c] H fun r H' => ∃ x v, r = .ret (tval (x, v)) ∧ x.lies 0 H' v ∧ (ts.foldl stepG [])[0]? = some x ∧ Ext H H' ∧ Wf H' := by
  have hlen := hr.len; simp at hlen
  have hcap := hr.cap
  refine Does.of Try.func59 (fun _ _ => rfl) rfl ?_
  obtain ⟨Z, h_Z⟩ : ∃ X, X = (H.push (.cells [.int .u8 0, .int .u8 0, .slice none 0 0] (typedV 83) true)) := ⟨_, rfl⟩
  have n_Z : Z.next = H.next + 1 := by rw [h_Z]; rfl
  have e_Z : Ext H Z := by rw [h_Z]; exact (⟨by first | (simp; done) | (simp; omega), fun b hb => by (simp only [AHeap.get_push, AHeap.get_set, AHeap.next_push, AHeap.next_set]; repeat rw [if_neg (by omega)])⟩)
  have w_Z : Wf Z := by rw [h_Z]; exact (fun b hb => by (simp only [AHeap.get_push, AHeap.get_set, AHeap.next_push, AHeap.next_set] at hb ⊢; repeat rw [if_neg (by omega)]); exact hw b (by omega))
  have g_Z_0 : Z.get (H.next) = some (.cells [.int .u8 0, .int .u8 0, .slice none 0 0] (typedV 83) true) := by rw [h_Z]; exact (by (simp only [AHeap.get_push, AHeap.get_set, AHeap.next_push, AHeap.next_set, if_true]); repeat (first | rw [if_pos rfl] | rw [if_neg (by omega)]))
  have o_Z : ∀ b, b < H.next → Z.get b = H.get b := e_Z.get
  have x_Z := h_Z
  repeat' ((conv => whnf); first
    | (refine Both.intro ?_ ?_ <;> intro _ <;> try (exfalso; omega))
    | (refine Need.intro (by omega) ?_)
    | (refine Gives.intro ⟨_, zTree, ?_⟩)
    | fail)
  all_goals (conv => whnf)
  refine Runs.loop (fun s : Nat × List (Tre × Value) × Option Addr × Nat => [(4, .int .i64 s.1), (3, .slice s.2.2.1 s.2.1.length s.2.2.2), (2, .pointer (some ⟨H.next, 0, none⟩)), (0, .slice a n c)])
    (fun s H' => GI Z H' ts s.1 s.2.1 s.2.2.1 s.2.2.2) (fun s => n - s.1) ⟨0, [], none, 0⟩ ⟨rfl, rfl, rfl, rfl, trivial⟩
    ⟨Nat.zero_le _, by rw [h_Z]; exact Ext.refl _, by rw [h_Z] at w_Z; exact w_Z, Stk.nil _ _ _ _, by simp, rfl, Nat.le_refl _⟩ ?_
  rintro ⟨k, xs, sa, sc⟩ H1 hI
  dsimp only at hI
  show vc _ _ _ _ _ [(4, .int .i64 k), (3, .slice sa xs.length sc), (2, .pointer (some ⟨H.next, 0, none⟩)), (0, .slice a n c)] _ _
  have w1 := hI.w
  have eH1 := e_Z.trans hI.e
  have hlp := hI.ln
  have hsc := hI.row.2.1
  have gz1 := get_ext w_Z hI.e g_Z_0
  have lz : H.next < H1.next := w1.lt gz1
  by_cases hlt : k < n
  · obtain ⟨t, ht⟩ : ∃ t, ts[k]? = some t := ⟨_, List.getElem?_eq_getElem (by omega)⟩
    obtain ⟨tb, to, tst, rfl, hcell⟩ := hr.cell k t.cells (by simp [ht])
    have hcell := cellsAt_ext hw eH1 hcell
    obtain ⟨j, qs, hq, hok, htl, hfit⟩ := foldR_part hf ht
    have hql := foldR_len (ts.take k) 0 [] j qs [] rfl hq
    rw [← hI.fd, List.length_map] at hql
    have htk : takesT t = (takesF t.op : Int) := by unfold takesT; rw [if_pos hok]
    have hT2 := takesF_le t.op
    have htakes := Takes3_any H1 w1 t
    rw [htk] at htakes
    have hsl : aSlice Try.prog 81 (.slice sa xs.length sc) (some (.int .i64 ((xs.length : Int) - (takesF t.op : Int)))) none none = some (.slice (offA sa ((xs.length - takesF t.op) * 3)) (xs.length - (xs.length - takesF t.op)) (sc - (xs.length - takesF t.op))) := slice_fromI (e := 83) (n := 3) (by kernel_rfl) (by kernel_rfl) (by omega) (by omega) hsc hI.row.spot
    have hslt : aSlice Try.prog 81 (.slice sa xs.length sc) none (some (.int .i64 ((xs.length : Int) - (takesF t.op : Int)))) none = some (.slice sa (xs.length - takesF t.op) sc) := slice_toI (e := 83) (n := 3) (by kernel_rfl) (by kernel_rfl) (by omega) (by omega)
    repeat' ((conv => whnf); first
      | (refine Both.intro ?_ ?_ <;> intro _ <;> try (exfalso; omega))
      | (refine Need.intro (by omega) ?_)
      | (refine ⟨_, hcell, ?_⟩)
      | (refine Does.mono htakes ?_ ; rintro _ H2 ⟨rfl, e2, w2⟩)
      | (refine Gives.intro ⟨_, hsl, ?_⟩)
      | fail)
    all_goals (conv => whnf)
    have hrest := ((hI.row.rest (m := xs.length - takesF t.op) (by omega)).ext w1 e2)
    have hcut := ((hI.row.cut (m := xs.length - takesF t.op) (by omega)).row.ext w1 e2)
    rw [← List.map_drop] at hrest
    rw [← List.map_take] at hcut
    have hl2 : ∀ p ∈ xs, p.1.lies Z.next H2 p.2 := fun p hp => (hI.lies p hp).ext w1 e2
    obtain ⟨oa, oc, H3, happ3, st3, e3, w3⟩ := copyTr w2 hrest (fun p hp => hl2 p (List.mem_of_mem_drop hp)) (by omega)
    obtain ⟨na, nc, H4, happ4, st4, e4, w4⟩ := copyTr w3 (hcut.ext w2 e3) (fun p hp => (hl2 p (List.mem_of_mem_take hp)).ext w2 e3) (by omega)
    have hcell4 := cellsAt_ext w1 ((e2.trans e3).trans e4) hcell
    obtain ⟨m, hm⟩ : ∃ m, m = xs.length - takesF t.op := ⟨_, rfl⟩
    obtain ⟨tw, htw⟩ : ∃ tw, tw = xs.length - m := ⟨_, rfl⟩
    rw [← hm] at happ3 happ4 st3 st4 hslt
    rw [← htw] at happ3 st3
    rw [← hm, ← htw]
    have st5 := st4.ext w4 (Ext.push H4 (.cells [.int .u8 t.op, .int .u8 t.p, .slice oa tw oc] 0 true))
    obtain ⟨pa, pc, H5, happ5, st6, e5, w5, -⟩ := stk_push (e4.trans (Ext.push H4 (.cells [.int .u8 t.op, .int .u8 t.p, .slice oa tw oc] 0 true))) (w4.push _) treeTy st5 (m := m) (Nat.le_refl _) (srcS (get_new _ _) rfl) rfl rfl (by omega) (by omega)
    repeat' ((conv => whnf); first
      | (refine Both.intro ?_ ?_ <;> intro _ <;> try (exfalso; omega))
      | (refine Need.intro (by omega) ?_)
      | (refine Outs.intro ⟨_, _, _, happ3, ?_⟩)
      | (refine Gives.intro ⟨_, hslt, ?_⟩)
      | (refine Outs.intro ⟨_, _, _, happ4, ?_⟩)
      | (refine ⟨_, hcell4, ?_⟩)
      | (refine Gives.intro ⟨_, bTree _ _ _ _ _, ?_⟩)
      | (refine ⟨_, bsTree _ _ _ _ _, ?_⟩)
      | (refine Outs.intro ⟨_, _, _, happ5, ?_⟩)
      | fail)
    all_goals (conv => whnf)
    have hx2 : (xs.drop m).map Prod.fst = (xs.map Prod.fst).drop ((xs.map Prod.fst).length - takesF t.op) := by rw [List.map_drop, List.length_map, ← hm]
    have hlen2 : (xs.take m ++ [(node t ((xs.drop m).map Prod.fst), Value.slice oa tw oc)]).length = m + 1 := by rw [List.length_append, List.length_take, Nat.min_eq_left (by omega)]; rfl
    have hdl : (xs.drop m).length ≤ 2 := by rw [List.length_drop]; omega
    have e35 : Ext H3 H5 := e5
    have hdrow := (st3.row.ext w3 e35)
    have hdl3 : ∀ p ∈ xs.drop m, p.1.lies Z.next H5 p.2 := fun p hp => ((hl2 p (List.mem_of_mem_drop hp)).ext w2 e3).ext w3 e35
    have hnl := node_lies t hdrow (fun b o s hb => by have := (st3.lt w3 hb).1; have := (hI.e.trans e2).next; omega) hdl3 hdl
    refine ⟨(k + 1, xs.take m ++ [(node t ((xs.drop m).map Prod.fst), .slice oa tw oc)], pa, pc), ⟨rfl, by dsimp only; rw [hlen2]; rfl, rfl, rfl, trivial⟩, ⟨by dsimp only; omega, ((hI.e.trans e2).trans e3).trans e5, w5, ?_, ?_, ?_, by dsimp only; rw [hlen2]; omega⟩, by dsimp only; omega⟩
    · dsimp only
      rw [hlen2, List.map_append]
      have hl3 : ((xs.take m).map tcells).length = m := by rw [List.length_map, List.length_take, Nat.min_eq_left (by omega)]
      have := st6
      rw [List.take_of_length_le (by omega)] at this
      refine Stk.low (H0 := H3) ?_ (by have := ((hI.e.trans e2).trans e3).next; omega)
      have hc : [(node t ((xs.drop m).map Prod.fst), Value.slice oa tw oc)].map tcells = [[.int .u8 t.op, .int .u8 t.p, .slice oa tw oc]] := by simp only [List.map_cons, List.map_nil, tcells, node_tok]
      rw [hc]; exact this
    · intro p hp
      dsimp only at hp
      rcases List.mem_append.1 hp with hp | hp
      · exact ((hl2 p (List.mem_of_mem_take hp)).ext w2 e3).ext w3 e35
      · rw [List.mem_singleton.1 hp]; exact hnl
    · dsimp only
      rw [List.take_add_one, ht, List.foldl_append, ← hI.fd]
      show _ = stepG (xs.map Prod.fst) t
      unfold stepG
      rw [List.map_append, List.map_take, ← hx2, List.length_map, ← hm]
      rfl
  · have hkle := hI.kle
    obtain rfl : k = n := by omega
    have hq := foldR_len ts 0 [] i ps [] rfl hf
    have hfd := hI.fd
    rw [List.take_of_length_le (by omega)] at hfd
    rw [← hfd, List.length_map] at hq
    have hx0 : 0 < xs.length := by
      rw [← hq]; exact List.length_pos_iff.2 hp
    obtain ⟨y, hy⟩ : ∃ y, xs[0]? = some y := ⟨_, List.getElem?_eq_getElem hx0⟩
    obtain ⟨sb, so, sst, rfl, hcell⟩ := hI.row.row.cell 0 (tcells y) (by simp [hy])
    obtain ⟨ya, yn, yc, hyv⟩ := (hI.lies y (List.mem_of_getElem? hy)).slice
    unfold tcells at hcell
    rw [hyv] at hcell
    have hst := storeAgg_ok (P := Try.prog) (t := 83) (vs := [.int .u8 y.1.tok.op, .int .u8 y.1.tok.p, .slice ya yn yc]) (by kernel_rfl) rfl gz1 rfl
    have ez : Ext H (H1.set H.next (.cells [.int .u8 y.1.tok.op, .int .u8 y.1.tok.p, .slice ya yn yc] (typedV 83) true)) := eH1.set (Nat.le_refl _) _
    repeat' ((conv => whnf); first
      | (refine Both.intro ?_ ?_ <;> intro _ <;> try (exfalso; omega))
      | (refine Need.intro (by omega) ?_)
      | (refine ⟨_, hcell, ?_⟩)
      | (refine Outs.intro ⟨_, _, _, hst, ?_⟩)
      | (refine ⟨_, cellsAt_all (n := 3) (by rw [AHeap.get_set, if_pos rfl]) rfl, ?_⟩)
      | fail)
    all_goals (conv => whnf)
    refine ⟨y.1, y.2, by unfold tval; rw [hyv]; rfl, ?_, by rw [← hfd, List.getElem?_map, hy]; rfl, ez, w1.set gz1 _⟩
    exact (hI.lies y (List.mem_of_getElem? hy)).keep (Nat.zero_le _) fun b hb => by rw [AHeap.get_set, if_neg (by omega)]
end Go.AX.Try
/- rejoinderref03: what it reads and checks. -/
namespace Go.AX.Try
open Go Go.AX Go.AX.Lw Go.Proofs
set_option linter.unusedVariables false
set_option linter.unusedSimpArgs false
set_option maxRecDepth 100000
theorem IsPath3_any (H : AHeap) (op : Nat) : Does Try.prog orc 139 [.int .u8 op] H fun r H' => r = .ret (.bool (decide (19 ≤ op))) ∧ H = H' := by
  refine Does.of Try.func139 (fun _ _ => rfl) rfl ?_
  by_cases h : 19 ≤ op
  · skip
    repeat' ((conv => whnf); first
      | (refine Both.intro ?_ ?_ <;> intro _ <;> try (exfalso; omega))
      | (refine Need.intro (by omega) ?_)
      | fail)
    all_goals (conv => whnf)
    exact ⟨by rw [decide_eq_true h]; rfl, rfl⟩
  · skip
    repeat' ((conv => whnf); first
      | (refine Both.intro ?_ ?_ <;> intro _ <;> try (exfalso; omega))
      | (refine Need.intro (by omega) ?_)
      | fail)
    all_goals (conv => whnf)
    exact ⟨by rw [decide_eq_false h]; rfl, rfl⟩
theorem plain3_any (H : AHeap) (op : Nat) : Does Try.prog orc 140 [.int .u8 op] H fun r H' => r = .ret (.bool (plainF op)) ∧ H = H' := by
  refine Does.of Try.func140 (fun _ _ => rfl) rfl ?_
  repeat' ((conv => whnf); first
    | (refine Both.intro ?_ ?_ <;> intro _ <;> try (exfalso; omega))
    | (refine Need.intro (by omega) ?_)
    | fail)
  all_goals (conv => whnf)
  all_goals
    refine ⟨?_, rfl⟩
    unfold plainF
    first
    | (rw [decide_eq_true (by omega)]; rfl)
    | (rw [decide_eq_false (by omega)]; rfl)
theorem fits3_any (H : AHeap) (hw : Wf H) (op : Nat) (a : Option Addr) (n c : Nat) (ps : List Pt) (hr : RowS H a n c 4 (ps.map Pt.cells)) (hop : op ≤ 23) (hn : n = takesF op) :
    Does Try.prog orc 100 [.int .u8 op, .slice a n c] H fun r H' => r = .ret (.bool (fitsF op ps)) ∧ Ext H H' := by
  have hlen := hr.len; simp at hlen
  have hcap := hr.cap
  refine Does.of Try.func100 (fun _ _ => rfl) rfl ?_
  have hel : ∀ i, i < n → ∃ x b o st, ps[i]? = some x ∧ a = some ⟨b, o, st⟩ ∧ cellAt H b (o + i * 4 + 0) = some (.bool x.path) ∧ cellAt H b (o + i * 4 + 1) = some (.bool x.plain) := fun i hi => by
    obtain ⟨x, hx⟩ : ∃ x, ps[i]? = some x := ⟨_, List.getElem?_eq_getElem (by omega)⟩
    obtain ⟨b, o, st, rfl, hc⟩ := hr.cell i x.cells (by simp [hx])
    exact ⟨x, b, o, st, hx, rfl, cellsAt_cell hc (j := 0) rfl, cellsAt_cell hc (j := 1) rfl⟩
  by_cases h2 : op = 17 ∨ op = 18 ∨ op = 21 ∨ op = 22
  · have htk : takesF op = 2 := by unfold takesF; rw [if_neg (by omega), if_neg (by omega)]
    obtain ⟨x, b, o, st, hx, rfl, l0, l1⟩ := hel 0 (by omega)
    obtain ⟨y, b', o', st', hy, hb', r0, r1⟩ := hel 1 (by omega)
    cases hb'
    cases hxp : x.path <;> rw [hxp] at l0 <;> cases hyp : y.path <;> rw [hyp] at r0
    all_goals
      repeat' ((conv => whnf); first
        | (refine Both.intro ?_ ?_ <;> intro _ <;> try (exfalso; omega))
        | (refine Need.intro (by omega) ?_)
        | (refine ⟨_, l0, ?_⟩)
        | (refine ⟨_, r0, ?_⟩)
        | fail)
      all_goals (conv => whnf)
      all_goals
        refine ⟨?_, Ext.refl _⟩
        unfold fitsF
        rw [hx, hy]
        dsimp only [Option.getD_some]
        first
        | (rw [if_pos (by omega), hxp]; rfl)
        | (rw [if_pos (by omega), hxp, hyp]; rfl)
        | (rw [if_neg (by omega), if_pos (by omega), hxp]; rfl)
        | (rw [if_neg (by omega), if_pos (by omega), hxp, hyp]; rfl)
  · by_cases h1 : op = 23 ∨ op = 19
    · have htk : takesF op = 1 := by unfold takesF; rw [if_neg (by omega), if_pos (by omega)]
      obtain ⟨x, b, o, st, hx, rfl, l0, l1⟩ := hel 0 (by omega)
      cases hxp : x.path <;> rw [hxp] at l0 <;> cases hyp : x.plain <;> rw [hyp] at l1
      all_goals
        repeat' ((conv => whnf); first
          | (refine Both.intro ?_ ?_ <;> intro _ <;> try (exfalso; omega))
          | (refine Need.intro (by omega) ?_)
          | (refine ⟨_, l0, ?_⟩)
          | (refine ⟨_, l1, ?_⟩)
          | fail)
        all_goals (conv => whnf)
        all_goals
          refine ⟨?_, Ext.refl _⟩
          unfold fitsF
          rw [hx]
          dsimp only [Option.getD_some]
          first
          | (rw [if_neg (by omega), if_neg (by omega), if_pos (by omega), hxp]; rfl)
          | (rw [if_neg (by omega), if_neg (by omega), if_neg (by omega), if_pos (by omega), hxp]; rfl)
          | (rw [if_neg (by omega), if_neg (by omega), if_neg (by omega), if_pos (by omega), hxp, hyp]; rfl)
    · have hle := takesF_le op
      have hfin : fitsF op ps = !ps.any fun x => x.path := by
        unfold fitsF
        dsimp only
        rw [if_neg (by omega), if_neg (by omega), if_neg (by omega), if_neg (by omega)]
      repeat' ((conv => whnf); first
        | (refine Both.intro ?_ ?_ <;> intro _ <;> try (exfalso; omega))
        | (refine Need.intro (by omega) ?_)
        | fail)
      all_goals (conv => whnf)
      refine Runs.loop (fun k : Nat => [(5, .int .i64 k), (1, .slice a n c)]) (fun k H' => k ≤ n ∧ H = H' ∧ (ps.take k).any (fun x => x.path) = false) (fun k => n - k) 0 ⟨rfl, rfl, trivial⟩ ⟨Nat.zero_le _, rfl, rfl⟩ ?_
      rintro k _ ⟨hk, rfl, hall⟩
      by_cases hlt : k < n
      · obtain ⟨x, b, o, st, hx, rfl, l0, l1⟩ := hel k hlt
        cases hp : x.path <;> rw [hp] at l0
        · skip
          repeat' ((conv => whnf); first
            | (refine Both.intro ?_ ?_ <;> intro _ <;> try (exfalso; omega))
            | (refine Need.intro (by omega) ?_)
            | (refine ⟨_, l0, ?_⟩)
            | fail)
          all_goals (conv => whnf)
          exact ⟨k + 1, ⟨rfl, rfl, trivial⟩, ⟨by omega, rfl, by rw [List.take_add_one, hx]; simp [hall, hp]⟩, by omega⟩
        · skip
          repeat' ((conv => whnf); first
            | (refine Both.intro ?_ ?_ <;> intro _ <;> try (exfalso; omega))
            | (refine Need.intro (by omega) ?_)
            | (refine ⟨_, l0, ?_⟩)
            | fail)
          all_goals (conv => whnf)
          refine ⟨?_, Ext.refl _⟩
          rw [hfin, List.any_eq_true.2 ⟨x, List.mem_of_getElem? hx, hp⟩]; rfl
      · skip
        repeat' ((conv => whnf); first
          | (refine Both.intro ?_ ?_ <;> intro _ <;> try (exfalso; omega))
          | (refine Need.intro (by omega) ?_)
          | fail)
        all_goals (conv => whnf)
        obtain rfl : k = n := by omega
        rw [List.take_of_length_le (by omega)] at hall
        exact ⟨by rw [hfin, hall]; rfl, Ext.refl _⟩
theorem zPart3 : zeroOf Try.prog 96 = some (.agg #[.bool false, .bool false, .int .i64 0, .int .i64 0]) := by kernel_rfl
theorem bPart3 (a b : Bool) (c d : Int) : aBuild Try.prog 96 [(0, .bool a), (1, .bool b), (2, .int .i64 c), (3, .int .i64 d)] = some (.agg #[.bool a, .bool b, .int .i64 c, .int .i64 d]) := by kernel_rfl
theorem partTy3 : AppTyS Try.prog #[92, 92] 96 4 24 where
  t0 := by kernel_rfl
  t1 := by kernel_rfl
  size := by kernel_rfl
  bytes := by kernel_rfl
  pos := by decide
  szp := by decide
  szl := by decide
  zero := ⟨.agg #[.bool false, .bool false, .int .i64 0, .int .i64 0], by kernel_rfl, rfl⟩
theorem put3_any (H : AHeap) (hw : Wf H) (t : Tk) (i : Nat) (hi : i ≤ 2 ^ 30) (a : Option Addr) (n c : Nat) (ps : List Pt) (hr : RowS H a n c 4 (ps.map Pt.cells)) (hn : n ≤ 2) (hb : ∀ x ∈ ps, x.depth ≤ 2 ^ 30 ∧ x.src ≤ 2 ^ 30) :
    Does Try.prog orc 101 [.agg #[.int .u8 t.op, .int .u8 t.p], .slice a n c, .int .i64 i] H fun r H' => r = .ret (.agg (partF i t ps).cells.toArray) ∧ Ext H H' ∧ Wf H' := by
  have hlen := hr.len; simp at hlen
  have hcap := hr.cap
  refine Does.of Try.func101 (fun _ _ => rfl) rfl ?_
  obtain ⟨Y, h_Y⟩ : ∃ X, X = ((H.push (.cells [.int .u8 t.op, .int .u8 t.p] 0 true)).push (.cells [.bool false, .bool false, .int .i64 0, .int .i64 0] (typedV 96) true)) := ⟨_, rfl⟩
  have n_Y : Y.next = H.next + 2 := by rw [h_Y]; rfl
  have e_Y : Ext H Y := by rw [h_Y]; exact (⟨by first | (simp; done) | (simp; omega), fun b hb => by (simp only [AHeap.get_push, AHeap.get_set, AHeap.next_push, AHeap.next_set]; repeat rw [if_neg (by omega)])⟩)
  have w_Y : Wf Y := by rw [h_Y]; exact (fun b hb => by (simp only [AHeap.get_push, AHeap.get_set, AHeap.next_push, AHeap.next_set] at hb ⊢; repeat rw [if_neg (by omega)]); exact hw b (by omega))
  have g_Y_0 : Y.get (H.next) = some (.cells [.int .u8 t.op, .int .u8 t.p] 0 true) := by rw [h_Y]; exact (by (simp only [AHeap.get_push, AHeap.get_set, AHeap.next_push, AHeap.next_set, if_true]); repeat (first | rw [if_pos rfl] | rw [if_neg (by omega)]))
  have g_Y_1 : Y.get (H.next + 1) = some (.cells [.bool false, .bool false, .int .i64 0, .int .i64 0] (typedV 96) true) := by rw [h_Y]; exact (by (simp only [AHeap.get_push, AHeap.get_set, AHeap.next_push, AHeap.next_set, if_true]); repeat (first | rw [if_pos rfl] | rw [if_neg (by omega)]))
  have o_Y : ∀ b, b < H.next → Y.get b = H.get b := e_Y.get
  have x_Y := h_Y
  obtain ⟨Z, h_Z⟩ : ∃ X, X = (((H.push (.cells [.int .u8 t.op, .int .u8 t.p] 0 true)).push (.cells [.bool false, .bool false, .int .i64 0, .int .i64 0] (typedV 96) true)).push (.cells [.bool false, .bool false, .int .i64 0, .int .i64 0] (typedV 96) true)) := ⟨_, rfl⟩
  have n_Z : Z.next = H.next + 3 := by rw [h_Z]; rfl
  have e_Z : Ext H Z := by rw [h_Z]; exact (⟨by first | (simp; done) | (simp; omega), fun b hb => by (simp only [AHeap.get_push, AHeap.get_set, AHeap.next_push, AHeap.next_set]; repeat rw [if_neg (by omega)])⟩)
  have w_Z : Wf Z := by rw [h_Z]; exact (fun b hb => by (simp only [AHeap.get_push, AHeap.get_set, AHeap.next_push, AHeap.next_set] at hb ⊢; repeat rw [if_neg (by omega)]); exact hw b (by omega))
  have g_Z_0 : Z.get (H.next) = some (.cells [.int .u8 t.op, .int .u8 t.p] 0 true) := by rw [h_Z]; exact (by (simp only [AHeap.get_push, AHeap.get_set, AHeap.next_push, AHeap.next_set, if_true]); repeat (first | rw [if_pos rfl] | rw [if_neg (by omega)]))
  have g_Z_1 : Z.get (H.next + 1) = some (.cells [.bool false, .bool false, .int .i64 0, .int .i64 0] (typedV 96) true) := by rw [h_Z]; exact (by (simp only [AHeap.get_push, AHeap.get_set, AHeap.next_push, AHeap.next_set, if_true]); repeat (first | rw [if_pos rfl] | rw [if_neg (by omega)]))
  have g_Z_2 : Z.get (H.next + 2) = some (.cells [.bool false, .bool false, .int .i64 0, .int .i64 0] (typedV 96) true) := by rw [h_Z]; exact (by (simp only [AHeap.get_push, AHeap.get_set, AHeap.next_push, AHeap.next_set, if_true]); repeat (first | rw [if_pos rfl] | rw [if_neg (by omega)]))
  have o_Z : ∀ b, b < H.next → Z.get b = H.get b := e_Z.get
  have x_Z := h_Z
  obtain ⟨D, h_D⟩ : ∃ X, X = ((((H.push (.cells [.int .u8 t.op, .int .u8 t.p] 0 true)).push (.cells [.bool false, .bool false, .int .i64 0, .int .i64 0] (typedV 96) true)).push (.cells [.bool false, .bool false, .int .i64 0, .int .i64 0] (typedV 96) true)).set (H.next + 2) (.cells [.bool (decide (19 ≤ t.op)), .bool (plainF t.op), .int .i64 1, .int .i64 i] (typedV 96) true)) := ⟨_, rfl⟩
  have n_D : D.next = H.next + 3 := by rw [h_D]; rfl
  have e_D : Ext H D := by rw [h_D]; exact (⟨by first | (simp; done) | (simp; omega), fun b hb => by (simp only [AHeap.get_push, AHeap.get_set, AHeap.next_push, AHeap.next_set]; repeat rw [if_neg (by omega)])⟩)
  have w_D : Wf D := by rw [h_D]; exact (fun b hb => by (simp only [AHeap.get_push, AHeap.get_set, AHeap.next_push, AHeap.next_set] at hb ⊢; repeat rw [if_neg (by omega)]); exact hw b (by omega))
  have g_D_0 : D.get (H.next) = some (.cells [.int .u8 t.op, .int .u8 t.p] 0 true) := by rw [h_D]; exact (by (simp only [AHeap.get_push, AHeap.get_set, AHeap.next_push, AHeap.next_set, if_true]); repeat (first | rw [if_pos rfl] | rw [if_neg (by omega)]))
  have g_D_1 : D.get (H.next + 1) = some (.cells [.bool false, .bool false, .int .i64 0, .int .i64 0] (typedV 96) true) := by rw [h_D]; exact (by (simp only [AHeap.get_push, AHeap.get_set, AHeap.next_push, AHeap.next_set, if_true]); repeat (first | rw [if_pos rfl] | rw [if_neg (by omega)]))
  have g_D_2 : D.get (H.next + 2) = some (.cells [.bool (decide (19 ≤ t.op)), .bool (plainF t.op), .int .i64 1, .int .i64 i] (typedV 96) true) := by rw [h_D]; exact (by (simp only [AHeap.get_push, AHeap.get_set, AHeap.next_push, AHeap.next_set, if_true]); repeat (first | rw [if_pos rfl] | rw [if_neg (by omega)]))
  have o_D : ∀ b, b < H.next → D.get b = H.get b := e_D.get
  have x_D := h_D
  have q0 := cellAt_of g_Y_0 (o := 0) rfl
  have gz2 := g_Z_2
  rw [x_Y] at q0
  rw [x_Z] at gz2
  repeat' ((conv => whnf); first
    | (refine Both.intro ?_ ?_ <;> intro _ <;> try (exfalso; omega))
    | (refine Need.intro (by omega) ?_)
    | (refine Gives.intro ⟨_, zPart3, ?_⟩)
    | (refine ⟨_, q0, ?_⟩)
    | (refine Does.mono (IsPath3_any _ t.op) ?_ ; rintro _ _ ⟨rfl, rfl⟩)
    | (refine Does.mono (plain3_any _ t.op) ?_ ; rintro _ _ ⟨rfl, rfl⟩)
    | (refine Gives.intro ⟨_, bPart3 _ _ _ _, ?_⟩)
    | (refine Outs.intro ⟨_, _, _, storeAgg_ok (vs := [.bool _, .bool _, .int .i64 _, .int .i64 _]) (by kernel_rfl) rfl gz2 rfl, ?_⟩)
    | (refine Need.intro (draw_last (by first | exact ⟨.inl rfl, True.intro⟩ | exact ⟨.inl rfl, .inr rfl, True.intro⟩ | exact ⟨.inl rfl, .inr rfl, .inr rfl, True.intro⟩ | exact ⟨.inl rfl, .inr rfl, .inr rfl, .inr rfl, True.intro⟩) (by kernel_rfl)) ?_)
    | fail)
  all_goals (conv => whnf)
  have hel : ∀ k, k < n → ∃ x b o st, ps[k]? = some x ∧ a = some ⟨b, o, st⟩ ∧ b < H.next ∧ cellAt H b (o + k * 4 + 1) = some (.bool x.plain) ∧ cellAt H b (o + k * 4 + 2) = some (.int .i64 x.depth) ∧ cellAt H b (o + k * 4 + 3) = some (.int .i64 x.src) := fun k hk => by
    obtain ⟨x, hx⟩ : ∃ x, ps[k]? = some x := ⟨_, List.getElem?_eq_getElem (by omega)⟩
    obtain ⟨b, o, st, rfl, hc⟩ := hr.cell k x.cells (by simp [hx])
    have c1 := cellsAt_cell hc (j := 1) rfl
    exact ⟨x, b, o, st, hx, rfl, cellAt_lt hw c1, c1, cellsAt_cell hc (j := 2) rfl, cellsAt_cell hc (j := 3) rfl⟩
  have hE0 := e_D
  have hE1 := w_D
  have hE2 := g_D_2
  have hE3 := g_D_1
  rw [x_D] at hE0 hE1 hE2 hE3
  refine Runs.loop (fun kk : Nat => [(8, .int .i64 kk), (7, .pointer (some ⟨H.next + 2, 0, none⟩)), (6, .pointer (some ⟨H.next + 1, 0, none⟩)), (1, .slice a n c)])
    (fun kk H' => kk ≤ n ∧ Ext H H' ∧ Wf H' ∧ H'.get (H.next + 2) = some (.cells [.bool (partG i t ps kk).path, .bool (partG i t ps kk).plain, .int .i64 (partG i t ps kk).depth, .int .i64 i] (typedV 96) true) ∧ H'.get (H.next + 1) = some (.cells [.bool false, .bool false, .int .i64 0, .int .i64 0] (typedV 96) true)) (fun kk => n - kk) 0 ⟨rfl, rfl, rfl, rfl, trivial⟩ ⟨Nat.zero_le _, hE0, hE1, hE2, hE3⟩ ?_
  rintro kk H2 ⟨hkk, e2, w2, gP, gQ⟩
  by_cases hkl : kk < n
  · obtain ⟨x, b, o, st, hx, rfl, hb9, y1, y2, y3⟩ := hel kk hkl
    obtain ⟨q, hq⟩ : ∃ q, q = partG i t ps kk := ⟨_, rfl⟩
    rw [← hq] at gP
    have y1 := cellAt_ext hw e2 y1
    have y2 := cellAt_ext hw e2 y2
    have r1 := cellAt_of gP (o := 1) rfl
    have nP : H.next + 2 < H2.next := w2.lt gP
    have hxb := (hb x (List.mem_of_getElem? hx)).1
    clear h_Y n_Y e_Y w_Y g_Y_0 g_Y_1 o_Y x_Y h_Z n_Z e_Z w_Z g_Z_0 g_Z_1 g_Z_2 o_Z x_Z h_D n_D e_D w_D g_D_0 g_D_1 g_D_2 o_D x_D hE0 hE1 hE2 hE3 q0 gz2
    cases hqp : q.plain
    · rw [hqp] at r1
      by_cases hmx : q.depth < x.depth + 1
      · skip
        obtain ⟨F1, h_F1⟩ : ∃ X, X = (H2.set (H.next + 2) (.cells [.bool q.path, .bool false, .int .i64 q.depth, .int .i64 i] (typedV 96) true)) := ⟨_, rfl⟩
        have n_F1 : F1.next = H2.next + 0 := by rw [h_F1]; rfl
        have w_F1 : Wf F1 := by rw [h_F1]; exact (fun b hb => by (simp only [AHeap.get_push, AHeap.get_set, AHeap.next_push, AHeap.next_set] at hb ⊢; repeat rw [if_neg (by omega)]); exact w2 b (by omega))
        have s_F1_0 : F1.get (H.next + 2) = some (.cells [.bool q.path, .bool false, .int .i64 q.depth, .int .i64 i] (typedV 96) true) := by rw [h_F1]; exact (by (simp only [AHeap.get_push, AHeap.get_set, AHeap.next_push, AHeap.next_set, if_true]); repeat (first | rw [if_pos rfl] | rw [if_neg (by omega)]))
        have x_F1 := h_F1
        obtain ⟨F2, h_F2⟩ : ∃ X, X = (F1.set (H.next + 2) (.cells [.bool q.path, .bool false, .int .i64 (x.depth + 1 : Nat), .int .i64 i] (typedV 96) true)) := ⟨_, rfl⟩
        have n_F2 : F2.next = F1.next + 0 := by rw [h_F2]; rfl
        have w_F2 : Wf F2 := by rw [h_F2]; exact (fun b hb => by (simp only [AHeap.get_push, AHeap.get_set, AHeap.next_push, AHeap.next_set] at hb ⊢; repeat rw [if_neg (by omega)]); exact w_F1 b (by omega))
        have s_F2_0 : F2.get (H.next + 2) = some (.cells [.bool q.path, .bool false, .int .i64 (x.depth + 1 : Nat), .int .i64 i] (typedV 96) true) := by rw [h_F2]; exact (by (simp only [AHeap.get_push, AHeap.get_set, AHeap.next_push, AHeap.next_set, if_true]); repeat (first | rw [if_pos rfl] | rw [if_neg (by omega)]))
        have x_F2 := h_F2
        rw [x_F1] at x_F2
        have hst1 := store_ok (P := Try.prog) (t := 4) (o := 1) (v := .bool false) (by kernel_rfl) rfl rfl gP (by simp)
        have r2 := cellAt_of s_F1_0 (o := 2) rfl
        have z2 : cellAt F1 b (o + kk * 4 + 2) = some (.int .i64 x.depth) := by rw [← y2]; unfold cellAt; rw [h_F1, AHeap.get_set, if_neg (by omega)]
        have hst2 := store_ok (P := Try.prog) (t := 3) (o := 2) (v := .int .i64 (x.depth + 1 : Nat)) (by kernel_rfl) rfl rfl s_F1_0 (by simp)
        have eL : Ext H F2 := by
          refine ⟨by rw [n_F2, n_F1]; exact e2.next, fun b' hb' => ?_⟩
          rw [h_F2, AHeap.get_set, if_neg (by omega), h_F1, AHeap.get_set, if_neg (by omega)]
          exact e2.get b' hb'
        have gL : F2.get (H.next + 1) = some (.cells [.bool false, .bool false, .int .i64 0, .int .i64 0] (typedV 96) true) := by rw [h_F2, AHeap.get_set, if_neg (by omega), h_F1, AHeap.get_set, if_neg (by omega)]; exact gQ
        have gM : F2.get (H.next + 2) = some (.cells [.bool (partG i t ps (kk + 1)).path, .bool (partG i t ps (kk + 1)).plain, .int .i64 (partG i t ps (kk + 1)).depth, .int .i64 i] (typedV 96) true) := by
          rw [s_F2_0]
          simp only [partG, hx, Option.getD_some, ← hq, hqp, Bool.false_and, Bool.true_and]
          first
          | done
          | (rw [show max q.depth (x.depth + 1) = (x.depth + 1 : Nat) by omega])
        rw [x_F1] at hst2 r2 z2
        rw [x_F2] at eL gL gM w_F2
        repeat' ((conv => whnf); first
          | (refine Both.intro ?_ ?_ <;> intro _ <;> try (exfalso; omega))
          | (refine Need.intro (by omega) ?_)
          | (refine ⟨_, r1, ?_⟩)
          | (refine ⟨_, y1, ?_⟩)
          | (refine Outs.intro ⟨_, _, _, hst1, ?_⟩)
          | (refine ⟨_, r2, ?_⟩)
          | (refine ⟨_, z2, ?_⟩)
          | (refine Outs.intro ⟨_, _, _, hst2, ?_⟩)
          | (refine Need.intro (draw_last (by first | exact ⟨.inl rfl, True.intro⟩ | exact ⟨.inl rfl, .inr rfl, True.intro⟩) (by kernel_rfl)) ?_)
          | fail)
        all_goals (conv => whnf)
        exact ⟨kk + 1, ⟨rfl, rfl, rfl, rfl, trivial⟩, ⟨by omega, eL, w_F2, gM, gL⟩, by omega⟩
      · skip
        obtain ⟨F1, h_F1⟩ : ∃ X, X = (H2.set (H.next + 2) (.cells [.bool q.path, .bool false, .int .i64 q.depth, .int .i64 i] (typedV 96) true)) := ⟨_, rfl⟩
        have n_F1 : F1.next = H2.next + 0 := by rw [h_F1]; rfl
        have w_F1 : Wf F1 := by rw [h_F1]; exact (fun b hb => by (simp only [AHeap.get_push, AHeap.get_set, AHeap.next_push, AHeap.next_set] at hb ⊢; repeat rw [if_neg (by omega)]); exact w2 b (by omega))
        have s_F1_0 : F1.get (H.next + 2) = some (.cells [.bool q.path, .bool false, .int .i64 q.depth, .int .i64 i] (typedV 96) true) := by rw [h_F1]; exact (by (simp only [AHeap.get_push, AHeap.get_set, AHeap.next_push, AHeap.next_set, if_true]); repeat (first | rw [if_pos rfl] | rw [if_neg (by omega)]))
        have x_F1 := h_F1
        obtain ⟨F2, h_F2⟩ : ∃ X, X = (F1.set (H.next + 2) (.cells [.bool q.path, .bool false, .int .i64 q.depth, .int .i64 i] (typedV 96) true)) := ⟨_, rfl⟩
        have n_F2 : F2.next = F1.next + 0 := by rw [h_F2]; rfl
        have w_F2 : Wf F2 := by rw [h_F2]; exact (fun b hb => by (simp only [AHeap.get_push, AHeap.get_set, AHeap.next_push, AHeap.next_set] at hb ⊢; repeat rw [if_neg (by omega)]); exact w_F1 b (by omega))
        have s_F2_0 : F2.get (H.next + 2) = some (.cells [.bool q.path, .bool false, .int .i64 q.depth, .int .i64 i] (typedV 96) true) := by rw [h_F2]; exact (by (simp only [AHeap.get_push, AHeap.get_set, AHeap.next_push, AHeap.next_set, if_true]); repeat (first | rw [if_pos rfl] | rw [if_neg (by omega)]))
        have x_F2 := h_F2
        rw [x_F1] at x_F2
        have hst1 := store_ok (P := Try.prog) (t := 4) (o := 1) (v := .bool false) (by kernel_rfl) rfl rfl gP (by simp)
        have r2 := cellAt_of s_F1_0 (o := 2) rfl
        have z2 : cellAt F1 b (o + kk * 4 + 2) = some (.int .i64 x.depth) := by rw [← y2]; unfold cellAt; rw [h_F1, AHeap.get_set, if_neg (by omega)]
        have hst2 := store_ok (P := Try.prog) (t := 3) (o := 2) (v := .int .i64 q.depth) (by kernel_rfl) rfl rfl s_F1_0 (by simp)
        have eL : Ext H F2 := by
          refine ⟨by rw [n_F2, n_F1]; exact e2.next, fun b' hb' => ?_⟩
          rw [h_F2, AHeap.get_set, if_neg (by omega), h_F1, AHeap.get_set, if_neg (by omega)]
          exact e2.get b' hb'
        have gL : F2.get (H.next + 1) = some (.cells [.bool false, .bool false, .int .i64 0, .int .i64 0] (typedV 96) true) := by rw [h_F2, AHeap.get_set, if_neg (by omega), h_F1, AHeap.get_set, if_neg (by omega)]; exact gQ
        have gM : F2.get (H.next + 2) = some (.cells [.bool (partG i t ps (kk + 1)).path, .bool (partG i t ps (kk + 1)).plain, .int .i64 (partG i t ps (kk + 1)).depth, .int .i64 i] (typedV 96) true) := by
          rw [s_F2_0]
          simp only [partG, hx, Option.getD_some, ← hq, hqp, Bool.false_and, Bool.true_and]
          first
          | done
          | (rw [show max q.depth (x.depth + 1) = q.depth by omega])
        rw [x_F1] at hst2 r2 z2
        rw [x_F2] at eL gL gM w_F2
        repeat' ((conv => whnf); first
          | (refine Both.intro ?_ ?_ <;> intro _ <;> try (exfalso; omega))
          | (refine Need.intro (by omega) ?_)
          | (refine ⟨_, r1, ?_⟩)
          | (refine ⟨_, y1, ?_⟩)
          | (refine Outs.intro ⟨_, _, _, hst1, ?_⟩)
          | (refine ⟨_, r2, ?_⟩)
          | (refine ⟨_, z2, ?_⟩)
          | (refine Outs.intro ⟨_, _, _, hst2, ?_⟩)
          | (refine Need.intro (draw_last (by first | exact ⟨.inl rfl, True.intro⟩ | exact ⟨.inl rfl, .inr rfl, True.intro⟩) (by kernel_rfl)) ?_)
          | fail)
        all_goals (conv => whnf)
        exact ⟨kk + 1, ⟨rfl, rfl, rfl, rfl, trivial⟩, ⟨by omega, eL, w_F2, gM, gL⟩, by omega⟩
    · rw [hqp] at r1
      by_cases hmx : q.depth < x.depth + 1
      · skip
        obtain ⟨F1, h_F1⟩ : ∃ X, X = (H2.set (H.next + 2) (.cells [.bool q.path, .bool x.plain, .int .i64 q.depth, .int .i64 i] (typedV 96) true)) := ⟨_, rfl⟩
        have n_F1 : F1.next = H2.next + 0 := by rw [h_F1]; rfl
        have w_F1 : Wf F1 := by rw [h_F1]; exact (fun b hb => by (simp only [AHeap.get_push, AHeap.get_set, AHeap.next_push, AHeap.next_set] at hb ⊢; repeat rw [if_neg (by omega)]); exact w2 b (by omega))
        have s_F1_0 : F1.get (H.next + 2) = some (.cells [.bool q.path, .bool x.plain, .int .i64 q.depth, .int .i64 i] (typedV 96) true) := by rw [h_F1]; exact (by (simp only [AHeap.get_push, AHeap.get_set, AHeap.next_push, AHeap.next_set, if_true]); repeat (first | rw [if_pos rfl] | rw [if_neg (by omega)]))
        have x_F1 := h_F1
        obtain ⟨F2, h_F2⟩ : ∃ X, X = (F1.set (H.next + 2) (.cells [.bool q.path, .bool x.plain, .int .i64 (x.depth + 1 : Nat), .int .i64 i] (typedV 96) true)) := ⟨_, rfl⟩
        have n_F2 : F2.next = F1.next + 0 := by rw [h_F2]; rfl
        have w_F2 : Wf F2 := by rw [h_F2]; exact (fun b hb => by (simp only [AHeap.get_push, AHeap.get_set, AHeap.next_push, AHeap.next_set] at hb ⊢; repeat rw [if_neg (by omega)]); exact w_F1 b (by omega))
        have s_F2_0 : F2.get (H.next + 2) = some (.cells [.bool q.path, .bool x.plain, .int .i64 (x.depth + 1 : Nat), .int .i64 i] (typedV 96) true) := by rw [h_F2]; exact (by (simp only [AHeap.get_push, AHeap.get_set, AHeap.next_push, AHeap.next_set, if_true]); repeat (first | rw [if_pos rfl] | rw [if_neg (by omega)]))
        have x_F2 := h_F2
        rw [x_F1] at x_F2
        have hst1 := store_ok (P := Try.prog) (t := 4) (o := 1) (v := .bool x.plain) (by kernel_rfl) rfl rfl gP (by simp)
        have r2 := cellAt_of s_F1_0 (o := 2) rfl
        have z2 : cellAt F1 b (o + kk * 4 + 2) = some (.int .i64 x.depth) := by rw [← y2]; unfold cellAt; rw [h_F1, AHeap.get_set, if_neg (by omega)]
        have hst2 := store_ok (P := Try.prog) (t := 3) (o := 2) (v := .int .i64 (x.depth + 1 : Nat)) (by kernel_rfl) rfl rfl s_F1_0 (by simp)
        have eL : Ext H F2 := by
          refine ⟨by rw [n_F2, n_F1]; exact e2.next, fun b' hb' => ?_⟩
          rw [h_F2, AHeap.get_set, if_neg (by omega), h_F1, AHeap.get_set, if_neg (by omega)]
          exact e2.get b' hb'
        have gL : F2.get (H.next + 1) = some (.cells [.bool false, .bool false, .int .i64 0, .int .i64 0] (typedV 96) true) := by rw [h_F2, AHeap.get_set, if_neg (by omega), h_F1, AHeap.get_set, if_neg (by omega)]; exact gQ
        have gM : F2.get (H.next + 2) = some (.cells [.bool (partG i t ps (kk + 1)).path, .bool (partG i t ps (kk + 1)).plain, .int .i64 (partG i t ps (kk + 1)).depth, .int .i64 i] (typedV 96) true) := by
          rw [s_F2_0]
          simp only [partG, hx, Option.getD_some, ← hq, hqp, Bool.false_and, Bool.true_and]
          first
          | done
          | (rw [show max q.depth (x.depth + 1) = (x.depth + 1 : Nat) by omega])
        rw [x_F1] at hst2 r2 z2
        rw [x_F2] at eL gL gM w_F2
        repeat' ((conv => whnf); first
          | (refine Both.intro ?_ ?_ <;> intro _ <;> try (exfalso; omega))
          | (refine Need.intro (by omega) ?_)
          | (refine ⟨_, r1, ?_⟩)
          | (refine ⟨_, y1, ?_⟩)
          | (refine Outs.intro ⟨_, _, _, hst1, ?_⟩)
          | (refine ⟨_, r2, ?_⟩)
          | (refine ⟨_, z2, ?_⟩)
          | (refine Outs.intro ⟨_, _, _, hst2, ?_⟩)
          | (refine Need.intro (draw_last (by first | exact ⟨.inl rfl, True.intro⟩ | exact ⟨.inl rfl, .inr rfl, True.intro⟩) (by kernel_rfl)) ?_)
          | fail)
        all_goals (conv => whnf)
        exact ⟨kk + 1, ⟨rfl, rfl, rfl, rfl, trivial⟩, ⟨by omega, eL, w_F2, gM, gL⟩, by omega⟩
      · skip
        obtain ⟨F1, h_F1⟩ : ∃ X, X = (H2.set (H.next + 2) (.cells [.bool q.path, .bool x.plain, .int .i64 q.depth, .int .i64 i] (typedV 96) true)) := ⟨_, rfl⟩
        have n_F1 : F1.next = H2.next + 0 := by rw [h_F1]; rfl
        have w_F1 : Wf F1 := by rw [h_F1]; exact (fun b hb => by (simp only [AHeap.get_push, AHeap.get_set, AHeap.next_push, AHeap.next_set] at hb ⊢; repeat rw [if_neg (by omega)]); exact w2 b (by omega))
        have s_F1_0 : F1.get (H.next + 2) = some (.cells [.bool q.path, .bool x.plain, .int .i64 q.depth, .int .i64 i] (typedV 96) true) := by rw [h_F1]; exact (by (simp only [AHeap.get_push, AHeap.get_set, AHeap.next_push, AHeap.next_set, if_true]); repeat (first | rw [if_pos rfl] | rw [if_neg (by omega)]))
        have x_F1 := h_F1
        obtain ⟨F2, h_F2⟩ : ∃ X, X = (F1.set (H.next + 2) (.cells [.bool q.path, .bool x.plain, .int .i64 q.depth, .int .i64 i] (typedV 96) true)) := ⟨_, rfl⟩
        have n_F2 : F2.next = F1.next + 0 := by rw [h_F2]; rfl
        have w_F2 : Wf F2 := by rw [h_F2]; exact (fun b hb => by (simp only [AHeap.get_push, AHeap.get_set, AHeap.next_push, AHeap.next_set] at hb ⊢; repeat rw [if_neg (by omega)]); exact w_F1 b (by omega))
        have s_F2_0 : F2.get (H.next + 2) = some (.cells [.bool q.path, .bool x.plain, .int .i64 q.depth, .int .i64 i] (typedV 96) true) := by rw [h_F2]; exact (by (simp only [AHeap.get_push, AHeap.get_set, AHeap.next_push, AHeap.next_set, if_true]); repeat (first | rw [if_pos rfl] | rw [if_neg (by omega)]))
        have x_F2 := h_F2
        rw [x_F1] at x_F2
        have hst1 := store_ok (P := Try.prog) (t := 4) (o := 1) (v := .bool x.plain) (by kernel_rfl) rfl rfl gP (by simp)
        have r2 := cellAt_of s_F1_0 (o := 2) rfl
        have z2 : cellAt F1 b (o + kk * 4 + 2) = some (.int .i64 x.depth) := by rw [← y2]; unfold cellAt; rw [h_F1, AHeap.get_set, if_neg (by omega)]
        have hst2 := store_ok (P := Try.prog) (t := 3) (o := 2) (v := .int .i64 q.depth) (by kernel_rfl) rfl rfl s_F1_0 (by simp)
        have eL : Ext H F2 := by
          refine ⟨by rw [n_F2, n_F1]; exact e2.next, fun b' hb' => ?_⟩
          rw [h_F2, AHeap.get_set, if_neg (by omega), h_F1, AHeap.get_set, if_neg (by omega)]
          exact e2.get b' hb'
        have gL : F2.get (H.next + 1) = some (.cells [.bool false, .bool false, .int .i64 0, .int .i64 0] (typedV 96) true) := by rw [h_F2, AHeap.get_set, if_neg (by omega), h_F1, AHeap.get_set, if_neg (by omega)]; exact gQ
        have gM : F2.get (H.next + 2) = some (.cells [.bool (partG i t ps (kk + 1)).path, .bool (partG i t ps (kk + 1)).plain, .int .i64 (partG i t ps (kk + 1)).depth, .int .i64 i] (typedV 96) true) := by
          rw [s_F2_0]
          simp only [partG, hx, Option.getD_some, ← hq, hqp, Bool.false_and, Bool.true_and]
          first
          | done
          | (rw [show max q.depth (x.depth + 1) = q.depth by omega])
        rw [x_F1] at hst2 r2 z2
        rw [x_F2] at eL gL gM w_F2
        repeat' ((conv => whnf); first
          | (refine Both.intro ?_ ?_ <;> intro _ <;> try (exfalso; omega))
          | (refine Need.intro (by omega) ?_)
          | (refine ⟨_, r1, ?_⟩)
          | (refine ⟨_, y1, ?_⟩)
          | (refine Outs.intro ⟨_, _, _, hst1, ?_⟩)
          | (refine ⟨_, r2, ?_⟩)
          | (refine ⟨_, z2, ?_⟩)
          | (refine Outs.intro ⟨_, _, _, hst2, ?_⟩)
          | (refine Need.intro (draw_last (by first | exact ⟨.inl rfl, True.intro⟩ | exact ⟨.inl rfl, .inr rfl, True.intro⟩) (by kernel_rfl)) ?_)
          | fail)
        all_goals (conv => whnf)
        exact ⟨kk + 1, ⟨rfl, rfl, rfl, rfl, trivial⟩, ⟨by omega, eL, w_F2, gM, gL⟩, by omega⟩
  · have nP : H.next + 2 < H2.next := w2.lt gP
    have hun : partF i t ps = partG i t ps n := by unfold partF; rw [hlen]
    obtain rfl : kk = n := by omega
    by_cases hn0 : kk = 0
    · have qP := cellsAt_all (n := 4) gP rfl
      obtain ⟨F2, h_F2⟩ : ∃ X, X = (H2.set (H.next + 1) (.cells [.bool (partG i t ps kk).path, .bool (partG i t ps kk).plain, .int .i64 (partG i t ps kk).depth, .int .i64 i] (typedV 96) true)) := ⟨_, rfl⟩
      have n_F2 : F2.next = H2.next + 0 := by rw [h_F2]; rfl
      have w_F2 : Wf F2 := by rw [h_F2]; exact (fun b hb => by (simp only [AHeap.get_push, AHeap.get_set, AHeap.next_push, AHeap.next_set] at hb ⊢; repeat rw [if_neg (by omega)]); exact w2 b (by omega))
      have s_F2_0 : F2.get (H.next + 1) = some (.cells [.bool (partG i t ps kk).path, .bool (partG i t ps kk).plain, .int .i64 (partG i t ps kk).depth, .int .i64 i] (typedV 96) true) := by rw [h_F2]; exact (by (simp only [AHeap.get_push, AHeap.get_set, AHeap.next_push, AHeap.next_set, if_true]); repeat (first | rw [if_pos rfl] | rw [if_neg (by omega)]))
      have x_F2 := h_F2
      have hst2 := storeAgg_ok (P := Try.prog) (t := 96) (vs := [.bool (partG i t ps kk).path, .bool (partG i t ps kk).plain, .int .i64 (partG i t ps kk).depth, .int .i64 i]) (by kernel_rfl) rfl gQ rfl
      have qR := cellsAt_all (n := 4) s_F2_0 rfl
      have eF := e2.set (Nat.le_succ H.next) (.cells [.bool (partG i t ps kk).path, .bool (partG i t ps kk).plain, .int .i64 (partG i t ps kk).depth, .int .i64 i] (typedV 96) true)
      rw [x_F2] at qR w_F2
      repeat' ((conv => whnf); first
        | (refine Both.intro ?_ ?_ <;> intro _ <;> try (exfalso; omega))
        | (refine Need.intro (by omega) ?_)
        | (refine ⟨_, qP, ?_⟩)
        | (refine Outs.intro ⟨_, _, _, hst2, ?_⟩)
        | (refine ⟨_, qR, ?_⟩)
        | fail)
      all_goals (conv => whnf)
      refine ⟨?_, eF, w_F2⟩
      rw [hun, hn0]
      rfl
    · obtain ⟨x, b, o, st, hx, rfl, hb9, y1, y2, y3⟩ := hel 0 (by omega)
      have y3 := cellAt_ext hw e2 y3
      have hst1 := store_ok (P := Try.prog) (t := 3) (o := 3) (v := .int .i64 x.src) (by kernel_rfl) rfl rfl gP (by simp)
      obtain ⟨F1, h_F1⟩ : ∃ X, X = (H2.set (H.next + 2) (.cells [.bool (partG i t ps kk).path, .bool (partG i t ps kk).plain, .int .i64 (partG i t ps kk).depth, .int .i64 x.src] (typedV 96) true)) := ⟨_, rfl⟩
      have n_F1 : F1.next = H2.next + 0 := by rw [h_F1]; rfl
      have w_F1 : Wf F1 := by rw [h_F1]; exact (fun b hb => by (simp only [AHeap.get_push, AHeap.get_set, AHeap.next_push, AHeap.next_set] at hb ⊢; repeat rw [if_neg (by omega)]); exact w2 b (by omega))
      have s_F1_0 : F1.get (H.next + 2) = some (.cells [.bool (partG i t ps kk).path, .bool (partG i t ps kk).plain, .int .i64 (partG i t ps kk).depth, .int .i64 x.src] (typedV 96) true) := by rw [h_F1]; exact (by (simp only [AHeap.get_push, AHeap.get_set, AHeap.next_push, AHeap.next_set, if_true]); repeat (first | rw [if_pos rfl] | rw [if_neg (by omega)]))
      have x_F1 := h_F1
      have gQ1 : F1.get (H.next + 1) = some (.cells [.bool false, .bool false, .int .i64 0, .int .i64 0] (typedV 96) true) := by rw [h_F1, AHeap.get_set, if_neg (by omega)]; exact gQ
      obtain ⟨F2, h_F2⟩ : ∃ X, X = (F1.set (H.next + 1) (.cells [.bool (partG i t ps kk).path, .bool (partG i t ps kk).plain, .int .i64 (partG i t ps kk).depth, .int .i64 x.src] (typedV 96) true)) := ⟨_, rfl⟩
      have n_F2 : F2.next = F1.next + 0 := by rw [h_F2]; rfl
      have w_F2 : Wf F2 := by rw [h_F2]; exact (fun b hb => by (simp only [AHeap.get_push, AHeap.get_set, AHeap.next_push, AHeap.next_set] at hb ⊢; repeat rw [if_neg (by omega)]); exact w_F1 b (by omega))
      have s_F2_0 : F2.get (H.next + 1) = some (.cells [.bool (partG i t ps kk).path, .bool (partG i t ps kk).plain, .int .i64 (partG i t ps kk).depth, .int .i64 x.src] (typedV 96) true) := by rw [h_F2]; exact (by (simp only [AHeap.get_push, AHeap.get_set, AHeap.next_push, AHeap.next_set, if_true]); repeat (first | rw [if_pos rfl] | rw [if_neg (by omega)]))
      have x_F2 := h_F2
      rw [x_F1] at x_F2
      have hst2 := storeAgg_ok (P := Try.prog) (t := 96) (vs := [.bool (partG i t ps kk).path, .bool (partG i t ps kk).plain, .int .i64 (partG i t ps kk).depth, .int .i64 x.src]) (by kernel_rfl) rfl gQ1 rfl
      have qP := cellsAt_all (n := 4) s_F1_0 rfl
      have qR := cellsAt_all (n := 4) s_F2_0 rfl
      have eL : Ext H F2 := by
        refine ⟨by rw [n_F2, n_F1]; exact e2.next, fun b' hb' => ?_⟩
        rw [h_F2, AHeap.get_set, if_neg (by omega), h_F1, AHeap.get_set, if_neg (by omega)]
        exact e2.get b' hb'
      rw [x_F1] at qP hst2
      rw [x_F2] at qR eL w_F2
      repeat' ((conv => whnf); first
        | (refine Both.intro ?_ ?_ <;> intro _ <;> try (exfalso; omega))
        | (refine Need.intro (by omega) ?_)
        | (refine ⟨_, y3, ?_⟩)
        | (refine Outs.intro ⟨_, _, _, hst1, ?_⟩)
        | (refine ⟨_, qP, ?_⟩)
        | (refine Outs.intro ⟨_, _, _, hst2, ?_⟩)
        | (refine ⟨_, qR, ?_⟩)
        | fail)
      all_goals (conv => whnf)
      have hsrc : (partG i t ps kk).src = x.src := by
        obtain ⟨m, rfl⟩ : ∃ m, kk = m + 1 := ⟨kk - 1, by omega⟩
        rcases Nat.lt_or_ge m 1 with hm | hm
        · obtain rfl : m = 0 := by omega
          simp only [partG, hx, Option.getD_some]; rfl
        · obtain rfl : m = 1 := by omega
          simp only [partG, hx, Option.getD_some]; rfl
      refine ⟨?_, eL, w_F2⟩
      rw [hun, ← hsrc]
      rfl
theorem okT_le {t : Tk} (h : okT t = true) : t.op ≤ 23 := by unfold okT at h; exact (of_decide_eq_true h).2
/-- The state of Read. -/
structure R3 (Z H : AHeap) (ts : List Tk) (k : Nat) (ps : List Pt) (sa : Option Addr) (sc : Nat) (al : List Pt) (aa : Option Addr) (ac : Nat) : Prop where
  kle : k ≤ ts.length
  e : Ext Z H
  w : Wf H
  st : Stk Z H (rowV 96 4) 4 sa ps.length sc (ps.map Pt.cells)
  at_ : Stk Z H (rowV 96 4) 4 aa al.length ac (al.map Pt.cells)
  ap : ∀ b o q o' q', sa = some ⟨b, o, q⟩ → aa ≠ some ⟨b, o', q'⟩
  fd : foldR (ts.take k) = some (k, ps)
  lp : ps.length ≤ k
  la : al.length = k
  sm : ∀ x ∈ ps, x.depth ≤ k ∧ x.src ≤ k
  di : ∀ x ∈ al, ∃ s ∈ ps, x.depth ≤ s.depth
  im : ∀ s ∈ ps, s ∈ al
/-- What Read answers. -/
def Read3P (ts : List Tk) (H : AHeap) (r : CRes) (H' : AHeap) : Prop :=
  Ext H H' ∧ Wf H' ∧ match foldR ts with
  | none => r = .ret (.tuple #[.slice none 0 0, .slice none 0 0, .bool false])
  | some (_, ps) => ∃ (al : List Pt) (a1 : Option Addr) (c1 : Nat) (a2 : Option Addr) (c2 : Nat), r = .ret (.tuple #[.slice a1 al.length c1, .slice a2 ps.length c2, .bool true]) ∧ RowS H' a1 al.length c1 4 (al.map Pt.cells) ∧ RowS H' a2 ps.length c2 4 (ps.map Pt.cells) ∧
      al.length = ts.length ∧ (∀ x ∈ al, ∃ s ∈ ps, x.depth ≤ s.depth) ∧ ∀ s ∈ ps, s ∈ al
theorem bsPart3 (a b : Bool) (c d : Int) : aBuildSlice Try.prog 92 1 [(0, .agg #[.bool a, .bool b, .int .i64 c, .int .i64 d])] = mkSlice [.bool a, .bool b, .int .i64 c, .int .i64 d] 1 1 := by kernel_rfl
theorem pt_one (l : List Pt) : allOne (l.map Pt.cells).flatten = true := by
  unfold allOne; rw [List.all_eq_true]; intro x hx
  obtain ⟨y, hy', hx'⟩ := List.mem_flatten.1 hx
  obtain ⟨t, _, rfl⟩ := List.mem_map.1 hy'
  simp [Pt.cells] at hx'; rcases hx' with rfl | rfl | rfl | rfl <;> rfl
theorem pt_four (l : List Pt) : ∀ y ∈ l.map Pt.cells, y.length = 4 := by intro y hy'; obtain ⟨t, _, rfl⟩ := List.mem_map.1 hy'; rfl
theorem copyPt {H : AHeap} (hw : Wf H) {a : Option Addr} {n c : Nat} {l : List Pt} (hr : RowS H a n c 4 (l.map Pt.cells)) (hn : n ≤ 2 ^ 20) :
    ∃ a' c' H', aAppend Try.prog H #[92, 92] [.slice none 0 0, .slice a n c] = some (.val (.slice a' n c') H' (.eff H H')) ∧ Stk H H' (rowV 96 4) 4 a' n c' (l.map Pt.cells) ∧ Ext H H' ∧ Wf H' := by
  have hlen := hr.len
  obtain ⟨a', c', H', h1, h2, h3, h4, h5⟩ := stk_app (Ext.refl H) hw partTy3 (Stk.nil H H _ 4) (row_src hr (by decide)) hlen (pt_four l) (pt_one l) (by omega) (by omega)
  rw [Nat.zero_add] at h1 h2
  exact ⟨a', c', H', h1, h2, h3, h4⟩
structure S3 where
  k : Nat
  ps : List Pt
  sa : Option Addr
  sc : Nat
  al : List Pt
  aa : Option Addr
  ac : Nat
theorem Read3_any (H : AHeap) (hw : Wf H) (a : Option Addr) (n c : Nat) (ts : List Tk) (hr : RowS H a n c 2 (ts.map Tk.cells)) (hn : n ≤ 2 ^ 20) :
    Does Try.prog orc 64 [.slice a n c] H (Read3P ts H) := by
  have hlen := hr.len; simp at hlen
  have hcap := hr.cap
  refine Does.of Try.func64 (fun _ _ => rfl) rfl ?_
  repeat' ((conv => whnf); first
    | (refine Both.intro ?_ ?_ <;> intro _ <;> try (exfalso; omega))
    | (refine Need.intro (by omega) ?_)
    | fail)
  all_goals (conv => whnf)
  refine Runs.loop (fun s : S3 => [(7, .int .i64 s.k), (6, .slice s.sa s.ps.length s.sc), (5, .slice s.aa s.al.length s.ac), (0, .slice a n c)])
    (fun s H' => R3 H H' ts s.k s.ps s.sa s.sc s.al s.aa s.ac) (fun s => n - s.k) ⟨0, [], none, 0, [], none, 0⟩ ⟨rfl, rfl, rfl, rfl, trivial⟩
    ⟨Nat.zero_le _, Ext.refl _, hw, Stk.nil _ _ _ _, Stk.nil _ _ _ _, by simp, rfl, Nat.le_refl _, rfl, by simp, by simp, by simp⟩ ?_
  rintro ⟨k, ps, sa, sc, al, aa, ac⟩ H1 hI
  dsimp only at hI
  show vc _ _ _ _ _ [(7, .int .i64 k), (6, .slice sa ps.length sc), (5, .slice aa al.length ac), (0, .slice a n c)] _ _
  have w1 := hI.w
  have e1 := hI.e
  have hlp := hI.lp
  have hla := hI.la
  have hsc := hI.st.2.1
  by_cases hlt : k < n
  · obtain ⟨t, ht⟩ : ∃ t, ts[k]? = some t := ⟨_, List.getElem?_eq_getElem (by omega)⟩
    obtain ⟨tb, to, tst, rfl, hcell⟩ := hr.cell k t.cells (by simp [ht])
    have hcell := cellsAt_ext hw e1 hcell
    have htakes := Takes3_any H1 w1 t
    have hnone : ∀ H', Ext H H' → Wf H' → stepR (foldR (ts.take k)) t = none → Read3P ts H (.ret (.tuple #[.slice none 0 0, .slice none 0 0, .bool false])) H' := fun H' e w hs => by
      refine ⟨e, w, ?_⟩
      rw [foldR_rest ht hs]
    by_cases hok : okT t = true
    · have htk : takesT t = (takesF t.op : Int) := by unfold takesT; rw [if_pos hok]
      by_cases hle : takesF t.op ≤ ps.length
      · have hT2 := takesF_le t.op
        have hok2 : t.op ≤ 23 := okT_le hok
        rw [htk] at htakes
        obtain ⟨m, hm⟩ : ∃ m, m = ps.length - takesF t.op := ⟨_, rfl⟩
        have hmI : ((ps.length : Int) - (takesF t.op : Int)) = (m : Int) := by omega
        have htm : ps.length - m = takesF t.op := by omega
        have hsl := slice_fromI (P := Try.prog) (t := 92) (e := 96) (n := 4) (a := sa) (len := ps.length) (c := sc) (m := m) (k := .i64) (by kernel_rfl) (by kernel_rfl) hmI (by omega) hsc hI.st.spot
        have hslt := slice_toI (P := Try.prog) (t := 92) (e := 96) (n := 4) (a := sa) (len := ps.length) (c := sc) (m := m) (k := .i64) (by kernel_rfl) (by kernel_rfl) hmI (by omega)
        obtain ⟨A0, hA0⟩ : ∃ A0, A0 = ps.drop m := ⟨_, rfl⟩
        have hrest := hI.st.rest (m := m) (by omega)
        rw [htm] at hsl hrest
        rw [← List.map_drop, ← hA0] at hrest
        have hl0 : A0.length = takesF t.op := by rw [hA0, List.length_drop]; omega
        cases hfit : fitsF t.op A0 with
        | false =>
          have hfits := fun X (e : Ext H1 X) (w : Wf X) => (fits3_any X w t.op _ _ _ A0 (hrest.ext w1 e) hok2 rfl).wf w
          rw [hfit] at hfits
          repeat' ((conv => whnf); first
            | (refine Both.intro ?_ ?_ <;> intro _ <;> try (exfalso; omega))
            | (refine Need.intro (by omega) ?_)
            | (refine ⟨_, hcell, ?_⟩)
            | (refine Does.mono htakes ?_ ; rintro _ H2 ⟨rfl, e2, w2⟩ ; have q0 := cellsAt_cell (cellsAt_ext w1 e2 hcell) (j := 0) rfl)
            | (refine Gives.intro ⟨_, hsl, ?_⟩)
            | (refine ⟨_, q0, ?_⟩)
            | (refine Does.mono (hfits H2 e2 w2) ?_ ; rintro _ H3 ⟨⟨rfl, e3⟩, w3⟩)
            | fail)
          all_goals (conv => whnf)
          exact hnone H3 (e1.trans (e2.trans e3)) w3 (by rw [hI.fd, stepR, if_neg (fun h => by rw [← hm, ← hA0, hfit] at h; exact absurd h.2.2 (by decide))])
        | true =>
          obtain ⟨P, hP⟩ : ∃ P, P = partF k t A0 := ⟨_, rfl⟩
          have hfits := fun X (e : Ext H1 X) (w : Wf X) => (fits3_any X w t.op _ _ _ A0 (hrest.ext w1 e) hok2 rfl).wf w
          rw [hfit] at hfits
          have hput := fun X (e : Ext H1 X) (w : Wf X) => put3_any X w t k (by omega) _ _ _ A0 (hrest.ext w1 e) (by omega) (fun x hx => by
            rw [hA0] at hx; have := hI.sm x (List.mem_of_mem_drop hx); omega)
          rw [← hP] at hput
          have hrestA : ∀ X, Ext H1 X → Wf X → ∃ a5 c5 H5 na nc H6 pa pc H7,
              aAppend Try.prog (X.push (.cells P.cells 0 true)) #[92, 92] [.slice aa al.length ac, .slice (some ⟨X.next, 0, none⟩) 1 1] = some (.val (.slice a5 (al.length + 1) c5) H5 (.eff (X.push (.cells P.cells 0 true)) H5)) ∧
              aAppend Try.prog H5 #[92, 92] [.slice none 0 0, .slice sa m sc] = some (.val (.slice na m nc) H6 (.eff H5 H6)) ∧
              aAppend Try.prog (H6.push (.cells P.cells 0 true)) #[92, 92] [.slice na m nc, .slice (some ⟨H6.next, 0, none⟩) 1 1] = some (.val (.slice pa (m + 1) pc) H7 (.eff (H6.push (.cells P.cells 0 true)) H7)) ∧
              R3 H H7 ts (k + 1) (ps.take m ++ [P]) pa pc (al ++ [P]) a5 c5 ∧ ∀ b, H1.next ≤ b → b < X.next → H6.get b = X.get b := fun X eX wX => by
            have atX := (hI.at_.ext w1 eX).ext wX (Ext.push X (.cells P.cells 0 true))
            have stX := (hI.st.ext w1 eX).ext wX (Ext.push X (.cells P.cells 0 true))
            obtain ⟨a5, c5, H5, hp5, at5, e5, w5, n5, hk5, hn5⟩ := stk_push ((e1.trans eX).trans (Ext.push X (.cells P.cells 0 true))) (wX.push _) partTy3 atX (m := al.length) (Nat.le_refl _) (srcS (get_new _ _) rfl) rfl rfl (by omega) (by omega)
            have st5 := stX.same (H' := H5) fun b hb => hk5 b (stX.lt (wX.push _) hb).2 fun o s hs => hI.ap _ _ _ _ _ hb hs
            have hcut := (st5.cut (m := m) (by omega)).row
            rw [← List.map_take] at hcut
            obtain ⟨na, nc, H6, hp6, st6, e6, w6⟩ := copyPt w5 hcut (by omega)
            obtain ⟨pa, pc, H7, hp7, st7, e7, w7, -⟩ := stk_push (e6.trans (Ext.push H6 (.cells P.cells 0 true))) (w6.push _) partTy3 (st6.ext w6 (Ext.push H6 (.cells P.cells 0 true))) (m := m) (Nat.le_refl _) (srcS (get_new _ _) rfl) rfl rfl (by omega) (by omega)
            have hln : (ps.take m ++ [P]).length = m + 1 := by rw [List.length_append, List.length_take, Nat.min_eq_left (by omega)]; rfl
            have hlt3 : ((ps.take m).map Pt.cells).length = m := by rw [List.length_map, List.length_take, Nat.min_eq_left (by omega)]
            rw [List.take_of_length_le (by omega)] at st7
            rw [List.take_of_length_le (by rw [List.length_map]; exact Nat.le_refl _)] at at5
            refine ⟨a5, c5, H5, na, nc, H6, pa, pc, H7, hp5, hp6, hp7, ⟨by omega, e5.trans e7, w7, ?_, ?_, ?_, ?_, by rw [hln]; omega, by simp; omega, ?_, ?_, ?_⟩, fun b h1 h2 => ?_⟩
            · rw [hln, List.map_append]; exact Stk.low st7 e5.next
            · rw [List.length_append, List.map_append]; exact at5.ext w5 e7
            · intro b o q o' q' hb hb'
              have h1 := (st7.lt w7 hb).1
              have h2 := (at5.lt w5 hb').2
              omega
            · rw [foldR_take ht, hI.fd, stepR, if_pos ⟨hok, hle, by rw [← hm, ← hA0]; exact hfit⟩, ← hm, ← hA0, ← hP]
            · intro x hx
              rcases List.mem_append.1 hx with hx | hx
              · have := hI.sm x (List.mem_of_mem_take hx); omega
              · rw [List.mem_singleton.1 hx, hP]
                by_cases hz : k = 0
                · have hps : A0 = [] := List.length_eq_zero_iff.1 (by rw [hA0, List.length_drop]; omega)
                  rw [hps]
                  simp [partF, partG, hz]
                · have := partG_small k t A0 k (by omega) (fun y hy => hI.sm y (by rw [hA0] at hy; exact List.mem_of_mem_drop hy)) A0.length
                  unfold partF
                  omega
            · intro x hx
              rcases List.mem_append.1 hx with hx | hx
              · obtain ⟨s, hs, hd⟩ := hI.di x hx
                by_cases hst : s ∈ ps.take m
                · exact ⟨s, List.mem_append_left _ hst, hd⟩
                · have hsd : s ∈ A0 := by
                    rw [hA0]
                    rw [← List.take_append_drop m ps] at hs
                    rcases List.mem_append.1 hs with hs | hs
                    · exact absurd hs hst
                    · exact hs
                  refine ⟨P, by simp, Nat.le_trans hd ?_⟩
                  have hge : ∀ (l : List Pt) (j : Nat), s ∈ l.take j → s.depth ≤ (partG k t l j).depth := fun l j => by
                    induction j with
                    | zero => intro h; simp at h
                    | succ j ih =>
                      intro h
                      show _ ≤ max _ _
                      rw [List.take_add_one] at h
                      rcases List.mem_append.1 h with h | h
                      · have := ih h; omega
                      · cases hj : l[j]? with
                        | none => rw [hj] at h; cases h
                        | some y =>
                          rw [hj] at h
                          have : s = y := by simpa using h
                          subst this
                          simp only [Option.getD_some]; omega
                  rw [hP]
                  exact hge A0 A0.length (by rw [List.take_length]; exact hsd)
              · rw [List.mem_singleton.1 hx]; exact ⟨P, by simp, Nat.le_refl _⟩
            · intro s hs
              rcases List.mem_append.1 hs with hs | hs
              · exact List.mem_append_left _ (hI.im s (List.mem_of_mem_take hs))
              · exact List.mem_append_right _ hs
            · have nX : (X.push (.cells P.cells 0 true)).next = X.next + 1 := rfl
              rw [e6.get b (by omega), hk5 b (by omega) (fun o s hs => by have := (hI.at_.lt w1 hs).2; omega), AHeap.get_push, if_neg (by omega)]
          repeat' ((conv => whnf); first
            | (refine Both.intro ?_ ?_ <;> intro _ <;> try (exfalso; omega))
            | (refine Need.intro (by omega) ?_)
            | (refine ⟨_, hcell, ?_⟩)
            | (refine Does.mono htakes ?_ ; rintro _ H2 ⟨rfl, e2, w2⟩ ; have q0 := cellsAt_cell (cellsAt_ext w1 e2 hcell) (j := 0) rfl)
            | (refine Gives.intro ⟨_, hsl, ?_⟩)
            | (refine ⟨_, q0, ?_⟩)
            | (refine Does.mono (hfits H2 e2 w2) ?_ ; rintro _ H3 ⟨⟨rfl, e3⟩, w3⟩ ; have q3 := cellsAt_ext w1 (e2.trans e3) hcell)
            | (refine ⟨_, q3, ?_⟩)
            | (refine Does.mono (hput H3 (e2.trans e3) w3) ?_ ; rintro _ H4 ⟨rfl, e4, w4⟩ ; have gX := get_new H4 (.cells [.bool false, .bool false, .int .i64 0, .int .i64 0] (typedV 96) true) ; obtain ⟨a5, c5, H5, na, nc, H6, pa, pc, H7, hp5, hp6, hp7, hI7, hk7⟩ := hrestA _ (((e2.trans e3).trans e4).trans ((Ext.push H4 _).set (Nat.le_refl _) (.cells P.cells (typedV 96) true))) ((w4.push _).set gX (.cells P.cells (typedV 96) true)) ; have gP6 := (hk7 H4.next ((e2.trans e3).trans e4).next (Nat.lt_succ_self _)).trans (by rw [AHeap.get_set, if_pos rfl]))
            | (refine Gives.intro ⟨_, zPart3, ?_⟩)
            | (refine Outs.intro ⟨_, _, _, storeAgg_ok (vs := [.bool P.path, .bool P.plain, .int .i64 P.depth, .int .i64 P.src]) (by kernel_rfl) rfl gX rfl, ?_⟩)
            | (refine ⟨_, cellsAt_all (n := 4) (by rw [AHeap.get_set, if_pos rfl]) rfl, ?_⟩)
            | (refine ⟨_, cellsAt_all (n := 4) gP6 rfl, ?_⟩)
            | (refine ⟨_, bsPart3 _ _ _ _, ?_⟩)
            | (refine Outs.intro ⟨_, _, _, hp5, ?_⟩)
            | (refine Gives.intro ⟨_, hslt, ?_⟩)
            | (refine Outs.intro ⟨_, _, _, hp6, ?_⟩)
            | (refine Outs.intro ⟨_, _, _, hp7, ?_⟩)
            | fail)
          all_goals (conv => whnf)
          have hln : (ps.take m ++ [P]).length = m + 1 := by rw [List.length_append, List.length_take, Nat.min_eq_left (by omega)]; rfl
          exact ⟨⟨k + 1, ps.take m ++ [P], pa, pc, al ++ [P], a5, c5⟩, ⟨rfl, by dsimp only; rw [hln]; rfl, by dsimp only; rw [List.length_append]; rfl, rfl, trivial⟩, hI7, by dsimp only; omega⟩
      · rw [htk] at htakes
        repeat' ((conv => whnf); first
          | (refine Both.intro ?_ ?_ <;> intro _ <;> try (exfalso; omega))
          | (refine Need.intro (by omega) ?_)
          | (refine ⟨_, hcell, ?_⟩)
          | (refine Does.mono htakes ?_ ; rintro _ H2 ⟨rfl, e2, w2⟩)
          | fail)
        all_goals (conv => whnf)
        exact hnone H2 (e1.trans e2) w2 (by rw [hI.fd, stepR, if_neg (fun h => hle h.2.1)])
    · have htk : takesT t = ((-1 : Int)) := by unfold takesT; rw [if_neg hok]
      rw [htk] at htakes
      repeat' ((conv => whnf); first
        | (refine Both.intro ?_ ?_ <;> intro _ <;> try (exfalso; omega))
        | (refine Need.intro (by omega) ?_)
        | (refine ⟨_, hcell, ?_⟩)
        | (refine Does.mono htakes ?_ ; rintro _ H2 ⟨rfl, e2, w2⟩)
        | fail)
      all_goals (conv => whnf)
      exact hnone H2 (e1.trans e2) w2 (by rw [hI.fd, stepR, if_neg (fun h => hok h.1)])
  · have hkle := hI.kle
    obtain rfl : k = n := by omega
    repeat' ((conv => whnf); first
      | (refine Both.intro ?_ ?_ <;> intro _ <;> try (exfalso; omega))
      | (refine Need.intro (by omega) ?_)
      | fail)
    all_goals (conv => whnf)
    have hfd := hI.fd
    rw [List.take_of_length_le (by omega)] at hfd
    refine ⟨e1, w1, ?_⟩
    rw [hfd]
    exact ⟨al, aa, ac, sa, sc, rfl, hI.at_.row, hI.st.row, by omega, hI.di, hI.im⟩
theorem kind3_any (H : AHeap) (hw : Wf H) (a : Option Addr) (n c : Nat) (ts : List Tk) (hr : RowS H a n c 2 (ts.map Tk.cells)) :
    Does Try.prog orc 99 [.slice a n c, .bool true, .bool false] H fun r H' => ∃ v, r = .ret (.tuple #[v, .int .i64 (termF ts false)]) ∧ Ext H H' ∧ Wf H' := by
  have hlen := hr.len; simp at hlen
  have hcap := hr.cap
  refine Does.of Try.func99 (fun _ _ => rfl) rfl ?_
  by_cases h5 : 512 < n
  · skip
    repeat' ((conv => whnf); first
      | (refine Both.intro ?_ ?_ <;> intro _ <;> try (exfalso; omega))
      | (refine Need.intro (by omega) ?_)
      | fail)
    all_goals (conv => whnf)
    exact ⟨_, by unfold termF; rw [if_pos (by omega)]; rfl, Ext.refl _, hw⟩
  · have hrd := Read3_any H hw a n c ts hr (by omega)
    cases hf : foldR ts with
    | none =>
      have hrd := hrd.mono (Q' := fun r H' => r = .ret (.tuple #[.slice none 0 0, .slice none 0 0, .bool false]) ∧ Ext H H' ∧ Wf H') fun r H' h => by
        obtain ⟨h1, h2, h3⟩ := h
        rw [hf] at h3
        exact ⟨h3, h1, h2⟩
      repeat' ((conv => whnf); first
        | (refine Both.intro ?_ ?_ <;> intro _ <;> try (exfalso; omega))
        | (refine Need.intro (by omega) ?_)
        | (refine Does.mono hrd ?_ ; rintro _ H1 ⟨rfl, e1, w1⟩)
        | fail)
      all_goals (conv => whnf)
      exact ⟨_, by unfold termF readF; rw [if_neg (by omega), hf]; rfl, e1, w1⟩
    | some z =>
      obtain ⟨j, ps⟩ := z
      have hrd := hrd.mono (Q' := fun r H' => (∃ (al : List Pt) (a1 : Option Addr) (c1 : Nat) (a2 : Option Addr) (c2 : Nat), r = .ret (.tuple #[.slice a1 al.length c1, .slice a2 ps.length c2, .bool true]) ∧ RowS H' a1 al.length c1 4 (al.map Pt.cells) ∧ RowS H' a2 ps.length c2 4 (ps.map Pt.cells) ∧ al.length = ts.length ∧ (∀ x ∈ al, ∃ s ∈ ps, x.depth ≤ s.depth) ∧ ∀ s ∈ ps, s ∈ al) ∧ Ext H H' ∧ Wf H') fun r H' h => by
        obtain ⟨h1, h2, h3⟩ := h
        rw [hf] at h3
        exact ⟨h3, h1, h2⟩
      by_cases h1 : ps.length = 1
      · obtain ⟨p, rfl⟩ := len_one h1
        have hrF : readF ts = some p := by unfold readF; rw [hf]
        have hT : termF ts false = if p.path != false then 7 else if 64 < p.depth then 8 else 0 := by unfold termF; rw [if_neg (by omega), hrF]
        cases hpp : p.path with
        | true =>
          have hT : termF ts false = 7 := by rw [hT, hpp]; rfl
          rw [hT]
          repeat' ((conv => whnf); first
            | (refine Both.intro ?_ ?_ <;> intro _ <;> try (exfalso; omega))
            | (refine Need.intro (by omega) ?_)
            | (refine Does.mono hrd ?_ ; rintro _ H1 ⟨⟨al, a1, c1, a2, c2, rfl, r1, r2, hal, hdi, him⟩, e1, w1⟩ ; obtain ⟨b2, o2, s2, rfl, hc2⟩ := r2.cell 0 p.cells rfl ; have hp0 := cellsAt_cell hc2 (j := 0) (v := .bool true) (by rw [← hpp]; rfl) ; have hcp := r2.cap)
            | (refine ⟨_, hp0, ?_⟩)
            | fail)
          all_goals (conv => whnf)
          exact ⟨_, rfl, e1, w1⟩
        | false =>
          have hT : termF ts false = if 64 < p.depth then 8 else 0 := by rw [hT, hpp]; rfl
          rw [hT]
          repeat' ((conv => whnf); first
            | (refine Both.intro ?_ ?_ <;> intro _ <;> try (exfalso; omega))
            | (refine Need.intro (by omega) ?_)
            | (refine Does.mono hrd ?_ ; rintro _ H1 ⟨⟨al, a1, c1, a2, c2, rfl, r1, r2, hal, hdi, him⟩, e1, w1⟩ ; obtain ⟨b2, o2, s2, rfl, hc2⟩ := r2.cell 0 p.cells rfl ; have hp0 := cellsAt_cell hc2 (j := 0) (v := .bool false) (by rw [← hpp]; rfl) ; have hcp := r2.cap ; have hca := r1.cap)
            | (refine ⟨_, hp0, ?_⟩)
            | fail)
          all_goals (conv => whnf)
          refine Runs.loop (fun i : Nat => [(11, .int .i64 i), (8, .slice a1 al.length c1)]) (fun i H' => i ≤ al.length ∧ H1 = H' ∧ ∀ x ∈ al.take i, x.depth ≤ 64) (fun i => al.length - i) 0 ⟨rfl, rfl, trivial⟩ ⟨Nat.zero_le _, rfl, by simp⟩ ?_
          rintro i _ ⟨hi, rfl, hall⟩
          by_cases hlt : i < al.length
          · obtain ⟨x, hx⟩ : ∃ x, al[i]? = some x := ⟨_, List.getElem?_eq_getElem hlt⟩
            obtain ⟨b1, o1, s1, rfl, hc1⟩ := r1.cell i x.cells (by simp [hx])
            have hx2 := cellsAt_cell hc1 (j := 2) rfl
            by_cases hd : 64 < x.depth
            · skip
              repeat' ((conv => whnf); first
                | (refine Both.intro ?_ ?_ <;> intro _ <;> try (exfalso; omega))
                | (refine Need.intro (by omega) ?_)
                | (refine ⟨_, hx2, ?_⟩)
                | fail)
              all_goals (conv => whnf)
              obtain ⟨s, hs, hsd⟩ := hdi x (List.mem_of_getElem? hx)
              have : s = p := by simpa using hs
              subst this
              exact ⟨_, by rw [if_pos (by omega)]; rfl, e1, w1⟩
            · skip
              repeat' ((conv => whnf); first
                | (refine Both.intro ?_ ?_ <;> intro _ <;> try (exfalso; omega))
                | (refine Need.intro (by omega) ?_)
                | (refine ⟨_, hx2, ?_⟩)
                | fail)
              all_goals (conv => whnf)
              exact ⟨i + 1, ⟨rfl, rfl, trivial⟩, ⟨by omega, rfl, fun y hy => by
                rw [List.take_add_one, hx] at hy
                rcases List.mem_append.1 hy with hy | hy
                · exact hall y hy
                · have : y = x := by simpa using hy
                  subst this; omega⟩, by omega⟩
          · skip
            repeat' ((conv => whnf); first
              | (refine Both.intro ?_ ?_ <;> intro _ <;> try (exfalso; omega))
              | (refine Need.intro (by omega) ?_)
              | fail)
            all_goals (conv => whnf)
            rw [List.take_of_length_le (by omega)] at hall
            have := hall p (him p (by simp))
            exact ⟨_, by rw [if_neg (by omega)]; rfl, e1, w1⟩
      · have hT : termF ts false = 7 := by
          unfold termF; rw [if_neg (by omega)]
          unfold readF; rw [hf]
          rcases ps with _ | ⟨p, _ | ⟨q, r⟩⟩
          · rfl
          · simp at h1
          · rfl
        rw [hT]
        repeat' ((conv => whnf); first
          | (refine Both.intro ?_ ?_ <;> intro _ <;> try (exfalso; omega))
          | (refine Need.intro (by omega) ?_)
          | (refine Does.mono hrd ?_ ; rintro _ H1 ⟨⟨al, a1, c1, a2, c2, rfl, r1, r2, hal, hdi, him⟩, e1, w1⟩)
          | fail)
        all_goals (conv => whnf)
        exact ⟨_, rfl, e1, w1⟩
theorem Check3_any (H : AHeap) (hw : Wf H) (a : Option Addr) (n c : Nat) (ts : List Tk) (hr : RowS H a n c 2 (ts.map Tk.cells)) :
    Does Try.prog orc 61 [.slice a n c] H fun r H' => r = .ret (.int .i64 (termF ts false)) ∧ Ext H H' ∧ Wf H' := by
  refine Does.of Try.func61 (fun _ _ => rfl) rfl ?_
  repeat' ((conv => whnf); first
    | (refine Both.intro ?_ ?_ <;> intro _ <;> try (exfalso; omega))
    | (refine Need.intro (by omega) ?_)
    | (refine Does.mono (kind3_any H hw a n c ts hr) ?_ ; rintro _ H1 ⟨v, rfl, e1, w1⟩)
    | fail)
  all_goals (conv => whnf)
  exact ⟨rfl, e1, w1⟩
end Go.AX.Try
/- Trees: what they are of tokens that are read; a kernel formula is read. -/
namespace Go.AX.Try
open Go Go.AX Go.AX.Lw Go.Proofs
set_option linter.unusedVariables false
set_option linter.unusedSimpArgs false
set_option maxRecDepth 100000
/-- Is a tree a path's? -/
def Tre.path (x : Tre) : Bool := decide (19 ≤ x.tok.op)
/-- A tree whose parts fit. -/
def Tre.wk : Tre → Prop
  | .n0 t => okT t = true ∧ takesF t.op = 0
  | .n1 t a => okT t = true ∧ takesF t.op = 1 ∧ fitK t.op [a.path] = true ∧ a.wk
  | .n2 t a b => okT t = true ∧ takesF t.op = 2 ∧ fitK t.op [a.path, b.path] = true ∧ a.wk ∧ b.wk
/-- Both forms of a tree. -/
def PT : Tre → Pr
  | .n0 t => leafP t
  | .n1 t a => joinP t.op [PT a]
  | .n2 t a b => joinP t.op [PT a, PT b]
def sel (x : Pr) (no : Bool) : List Tk := if no then x.no else x.yes
structure GR (p : Pt) (g : Tre) : Prop where
  wk : g.wk
  path : g.path = p.path
theorem pt_node (t : Tk) (l : List Tre) (h : l.length = takesF t.op) : PT (node t l) = partP t (l.map PT) := by
  have hT := takesF_le t.op
  unfold partP
  match l, h with
  | [], h => simp at h; rw [if_pos h.symm]; rfl
  | [a], h => simp at h; rw [if_neg (by omega)]; rfl
  | [a, b], h => simp at h; rw [if_neg (by omega)]; rfl
  | _ :: _ :: _ :: _, h => simp at h; omega
theorem gr_node (i : Nat) (t : Tk) (ps : List Pt) (gs : List Tre) (h : All2 GR ps gs) (hok : okT t = true) (hl : ps.length = takesF t.op) (hf : fitsF t.op ps = true) : GR (partF i t ps) (node t gs) := by
  have hk := fits_kinds hl (okT_le hok) hf
  have hT := takesF_le t.op
  refine ⟨?_, by unfold Tre.path; rw [node_tok]; exact (partG_path i t ps _).symm⟩
  by_cases h0 : takesF t.op = 0
  · obtain rfl := List.length_eq_zero_iff.1 (hl.trans h0)
    have := h.len
    obtain rfl : gs = [] := List.length_eq_zero_iff.1 (by simpa using this.symm)
    exact ⟨hok, h0⟩
  · by_cases h1 : takesF t.op = 1
    · obtain ⟨p, rfl⟩ := len_one (hl.trans h1)
      obtain ⟨g, rfl, hg⟩ := h.one
      refine ⟨hok, h1, ?_, hg.wk⟩
      rw [hg.path]; exact hk
    · obtain ⟨p, q, rfl⟩ := len_two (show ps.length = 2 by omega)
      obtain ⟨g, g', rfl, hg, hg'⟩ := h.two
      refine ⟨hok, by omega, ?_, hg.wk, hg'.wk⟩
      rw [hg.path, hg'.path]; exact hk
theorem gr_fold : ∀ (ts : List Tk) (i : Nat) (ps : List Pt) (gs : List Tre) (j : Nat) (qs : List Pt), All2 GR ps gs → ts.foldl stepR (some (i, ps)) = some (j, qs) → All2 GR qs (ts.foldl stepG gs) ∧ (ts.foldl stepG gs).map PT = ts.foldl stepP (gs.map PT)
  | [], i, ps, gs, j, qs, h, hf => by cases hf; exact ⟨h, rfl⟩
  | t :: ts, i, ps, gs, j, qs, h, hf => by
    simp only [List.foldl_cons] at hf ⊢
    by_cases hc : okT t = true ∧ takesF t.op ≤ ps.length ∧ fitsF t.op (ps.drop (ps.length - takesF t.op)) = true
    · rw [stepR, if_pos hc] at hf
      have hle := h.len
      have hd := h.drop (ps.length - takesF t.op)
      have ht := h.take (ps.length - takesF t.op)
      have hdl : (ps.drop (ps.length - takesF t.op)).length = takesF t.op := by rw [List.length_drop]; omega
      have hn := gr_node i t _ _ hd hc.1 hdl hc.2.2
      have ih := gr_fold ts (i + 1) _ (stepG gs t) j qs (by unfold stepG; rw [← hle]; exact ht.snoc hn) hf
      refine ⟨ih.1, ?_⟩
      rw [ih.2]
      congr 1
      unfold stepG stepP
      rw [List.map_append, List.map_take, List.map_cons, List.map_nil, pt_node t _ (by rw [List.length_drop]; omega), List.map_drop, List.length_map]
    · rw [stepR, if_neg hc, foldR_none] at hf; cases hf
theorem grow_ok {ts : List Tk} {i : Nat} {p : Pt} (h : foldR ts = some (i, [p])) : ∃ x : Tre, ts.foldl stepG [] = [x] ∧ x.wk ∧ x.path = p.path ∧ ts.foldl stepP [] = [PT x] := by
  obtain ⟨h1, h2⟩ := gr_fold ts 0 [] [] i [p] True.intro h
  obtain ⟨x, hx, hg⟩ := h1.one
  refine ⟨x, hx, hg.wk, hg.path, ?_⟩
  rw [hx] at h2
  exact h2.symm
theorem termF_fold {ts : List Tk} (h : termF ts false = 0) : ∃ i p, foldR ts = some (i, [p]) ∧ p.path = false ∧ ts.length ≤ 512 := by
  unfold termF at h
  split at h
  · cases h
  · rename_i hl
    unfold readF at h
    cases hf : foldR ts with
    | none => simp [hf] at h
    | some x =>
      obtain ⟨j, qs⟩ := x
      rcases qs with _ | ⟨q, _ | ⟨q2, r⟩⟩
      · simp [hf] at h
      · simp only [hf] at h
        split at h
        · cases h
        · rename_i hp
          exact ⟨j, q, rfl, by simpa using hp, by omega⟩
      · simp [hf] at h
/-- May a token stand in a kernel formula, behind the one ahead? -/
def wordB (ts : List Tk) (i : Nat) : Bool :=
  let op := ((ts[i]?).getD ⟨0, 0⟩).op
  if op = 3 ∨ op = 9 ∨ op = 10 ∨ op = 13 ∨ op = 14 then false else
  if op = 6 then decide (0 < i ∧ ((ts[i - 1]?).getD ⟨0, 0⟩).op = 2) else true
def wordsB (ts : List Tk) : Bool := (List.range ts.length).all (wordB ts)
/-- What the reference says of a kernel formula. -/
def chkF (ts : List Tk) : Nat :=
  if 2048 < ts.length then 3 else
  match readF ts with
  | none => 7
  | some p => if p.path then 7 else if wordsB ts then 0 else 7
structure SR (s : So) (p : Pt) : Prop where
  path : s.path = p.path
  plain : s.plain = true → p.plain = true
  prop : s.prop = true → p.plain = true ∧ p.path = false
theorem pt0 (i : Nat) (t : Tk) : partF i t [] = ⟨decide (19 ≤ t.op), plainF t.op, 1, i⟩ := rfl
theorem pt1 (i : Nat) (t : Tk) (x : Pt) : (partF i t [x]).path = decide (19 ≤ t.op) ∧ (partF i t [x]).plain = (plainF t.op && x.plain) := ⟨rfl, rfl⟩
theorem pt2 (i : Nat) (t : Tk) (x y : Pt) : (partF i t [x, y]).path = decide (19 ≤ t.op) ∧ (partF i t [x, y]).plain = (plainF t.op && x.plain && y.plain) := ⟨rfl, rfl⟩
theorem word_part (i : Nat) (t : Tk) (ss : List So) (ps : List Pt) (h : All2 SR ss ps) (hl : ss.length = takesF t.op) (hw : (wordF t ss).2 = true) :
    okT t = true ∧ fitsF t.op ps = true ∧ SR (wordF t ss).1 (partF i t ps) ∧ ((wordF t ss).1.prop = true → t.op = 2) ∧ ¬ (t.op = 3 ∨ t.op = 9 ∨ t.op = 10 ∨ t.op = 13 ∨ t.op = 14) ∧ (t.op = 6 → ∃ s, ss = [s] ∧ s.prop = true) := by
  have hi : ∀ s ∈ ss, s.prop = true → s.path = false := fun s hs hp => by
    obtain ⟨p, hp2⟩ : ∃ p, SR s p := by
      clear hw hl
      induction ss generalizing ps with
      | nil => cases hs
      | cons a r ih =>
        match ps, h with
        | b :: q, h =>
          rcases List.mem_cons.1 hs with rfl | hs
          · exact ⟨b, h.1⟩
          · exact ih q h.2 hs
    rw [hp2.path]; exact (hp2.prop hp).2
  obtain ⟨h23, hp8, -, -, -⟩ := word_kinds t ss hl hi hw
  obtain ⟨op, p⟩ := t
  dsimp only at hl h23 hp8
  have hpz : ¬ (op ≠ 2 ∧ p ≠ 0 ∨ p ≥ 8) := fun hc => by unfold wordF at hw; dsimp only at hw; rw [if_pos hc] at hw; cases hw
  have hok : okT ⟨op, p⟩ = true := by unfold okT; exact decide_eq_true ⟨hpz, h23⟩
  refine ⟨hok, ?_⟩
  clear hi hok
  have hT := takesF_le op
  by_cases h0 : takesF op = 0
  · obtain rfl := List.length_eq_zero_iff.1 (hl.trans h0)
    have := h.len
    obtain rfl : ps = [] := List.length_eq_zero_iff.1 (by simpa using this.symm)
    rcases op_none h0 with rfl | rfl | rfl | rfl | rfl | rfl
    all_goals
      unfold wordF at hw ⊢
      dsimp only at hw ⊢
      rw [if_neg hpz] at hw ⊢
      first
      | (cases hw; done)
      | (exact ⟨rfl, ⟨rfl, fun h => by first | exact h | rfl, fun h => (by first | exact ⟨rfl, rfl⟩ | cases h)⟩, fun h => (by first | rfl | cases h), by decide, fun h => by cases h⟩)
  · by_cases h1 : takesF op = 1
    · obtain ⟨s, rfl⟩ := len_one (hl.trans h1)
      obtain ⟨x, rfl, hx⟩ := h.one
      obtain ⟨sp, sl, sr⟩ := s
      obtain ⟨x1, x2, x3⟩ := hx
      dsimp only at x1 x2 x3
      obtain ⟨q1, q2⟩ := pt1 i ⟨op, p⟩ x
      rcases op_one h1 with rfl | rfl | rfl | rfl | rfl | rfl | rfl | rfl
      all_goals
        unfold wordF at hw ⊢
        dsimp only at hw ⊢
        rw [if_neg hpz] at hw ⊢
        first
        | (simp [no] at hw; done)
        | (clear h0 h1 hl h hT; simp [no] at hw; refine ⟨?_, ⟨?_, ?_, ?_⟩, ?_, ?_, ?_⟩ <;> simp_all [no, fitsF, plainF, ptNo])
    · obtain ⟨s, r, rfl⟩ := len_two (show ss.length = 2 by omega)
      obtain ⟨x, y, rfl, hx, hy⟩ := h.two
      obtain ⟨sp, sl, sr⟩ := s
      obtain ⟨rp, rl, rr⟩ := r
      obtain ⟨x1, x2, x3⟩ := hx
      obtain ⟨y1, y2, y3⟩ := hy
      dsimp only at x1 x2 x3 y1 y2 y3
      obtain ⟨q1, q2⟩ := pt2 i ⟨op, p⟩ x y
      rcases op_two (show takesF op = 2 by omega) h23 with rfl | rfl | rfl | rfl | rfl | rfl | rfl | rfl | rfl | rfl
      all_goals
        unfold wordF at hw ⊢
        dsimp only at hw ⊢
        rw [if_neg hpz] at hw ⊢
        first
        | (simp [no] at hw; done)
        | (clear h0 h1 hl h hT; simp [no] at hw; refine ⟨?_, ⟨?_, ?_, ?_⟩, ?_, ?_, ?_⟩ <;> simp_all [no, fitsF, plainF, ptNo])
theorem chk_fold : ∀ (ts pre : List Tk) (i : Nat) (ss ss' : List So) (ps : List Pt), All2 SR ss ps → (∀ s, ss.getLast? = some s → s.prop = true → ∃ u, pre.getLast? = some u ∧ u.op = 2) → ts.foldl stepS (some ss) = some ss' →
    ∃ j qs, ts.foldl stepR (some (i, ps)) = some (j, qs) ∧ All2 SR ss' qs ∧ ∀ k, pre.length ≤ k → k < pre.length + ts.length → wordB (pre ++ ts) k = true
  | [], pre, i, ss, ss', ps, h, hp, hf => by cases hf; exact ⟨i, ps, rfl, h, fun k h1 h2 => by simp at h2; omega⟩
  | t :: ts, pre, i, ss, ss', ps, h, hp, hf => by
    simp only [List.foldl_cons] at hf ⊢
    by_cases hc : ss.length < takesF t.op
    · rw [stepS, if_pos hc, foldS_none] at hf; cases hf
    · by_cases hw : (wordF t (ss.drop (ss.length - takesF t.op))).2 = true
      · rw [stepS, if_neg hc, if_pos hw] at hf
        have hle := h.len
        have hd := h.drop (ss.length - takesF t.op)
        have htk := h.take (ss.length - takesF t.op)
        obtain ⟨c1, c2, c3, c4, c5, c6⟩ := word_part i t _ _ hd (by rw [List.length_drop]; omega) hw
        obtain ⟨j, qs, r1, r2, r3⟩ := chk_fold ts (pre ++ [t]) (i + 1) _ ss' _ (htk.snoc c3) (fun s hs hsp => by
          rw [List.getLast?_append] at hs
          simp at hs
          subst hs
          exact ⟨t, by simp, c4 hsp⟩) hf
        refine ⟨j, qs, ?_, r2, fun k h1 h2 => ?_⟩
        · rw [stepR, if_pos ⟨c1, by omega, by rw [← hle]; exact c2⟩, ← hle]; exact r1
        · by_cases hk : k = pre.length
          · subst hk
            have hget : (pre ++ t :: ts)[pre.length]? = some t := by simp
            unfold wordB
            rw [hget]
            dsimp only [Option.getD_some]
            rw [if_neg c5]
            by_cases h6 : t.op = 6
            · rw [if_pos h6]
              obtain ⟨s, hs1, hs2⟩ := c6 h6
              have hlast : ss.getLast? = some s := by
                have : ss = ss.take (ss.length - takesF t.op) ++ [s] := by rw [← hs1, List.take_append_drop]
                rw [this]; simp
              obtain ⟨u, hu1, hu2⟩ := hp s hlast hs2
              have hpl : 0 < pre.length := by
                cases pre with
                | nil => cases hu1
                | cons a r => simp
              refine decide_eq_true ⟨hpl, ?_⟩
              rw [List.getElem?_append_left (by omega), ← List.getLast?_eq_getElem?, hu1]
              exact hu2
            · rw [if_neg h6]
          · have := r3 k (by simp; omega) (by simp at h2 ⊢; omega)
            simpa using this
      · rw [stepS, if_neg hc, if_neg hw, foldS_none] at hf; cases hf
theorem checkF_ok {ts : List Tk} (h : checkF ts = 0) : chkF ts = 0 ∧ ∃ i p, foldR ts = some (i, [p]) ∧ p.path = false := by
  unfold checkF at h
  split at h
  · cases h
  · rename_i hl
    cases hf : ts.foldl stepS (some []) with
    | none => simp [hf] at h
    | some qs =>
      rcases qs with _ | ⟨q, _ | ⟨q2, r⟩⟩
      · simp [hf] at h
      · simp only [hf] at h
        obtain ⟨j, us, r1, r2, r3⟩ := chk_fold ts [] 0 [] [q] [] True.intro (by simp) hf
        obtain ⟨u, rfl, hu⟩ := r2.one
        have hqp : u.path = false := by
          rw [← hu.path]
          cases hq : q.path with
          | true => rw [hq, if_pos rfl] at h; cases h
          | false => rfl
        refine ⟨?_, j, u, r1, hqp⟩
        have hrd : readF ts = some u := by unfold readF foldR; rw [r1]
        have hwd : wordsB ts = true := by
          unfold wordsB
          rw [List.all_eq_true]
          intro k hk
          exact r3 k (by simp) (by simpa using hk)
        unfold chkF
        rw [if_neg hl, hrd]
        simp [hqp, hwd]
      · simp [hf] at h
end Go.AX.Try
