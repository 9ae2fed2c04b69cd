/- mean's work: what tokens mean. -/
import Derived.Test.YtcalhjlcnapnaaaLWork
namespace Go.AX.Try
open Go Go.AX Go.AX.Lw Go.Proofs
set_option linter.unusedVariables false
set_option linter.unusedSimpArgs false
set_option maxRecDepth 100000
theorem _root_.Go.AX.Does.heap {P : Program} {O : Orc} {g : FuncId} {args : List Value} {H H' : AHeap} {Q : CRes → AHeap → Prop} (h : Does P O g args H Q) (e : H = H') : Does P O g args H' Q := e ▸ h
theorem kind_at {ts : List Tk} {r ps : List Bool} {k : Nat} {tk : Tk} (h : kinds ts = some r) (ht : ts[k]? = some tk) (hp : kinds (ts.take k) = some ps) : tk.op ≤ 23 ∧ tk.p < 8 ∧ takesF tk.op ≤ ps.length ∧ fitK tk.op (ps.drop (ps.length - takesF tk.op)) = true := by
  have hs : kinds ts = (ts.drop (k + 1)).foldl stepK (stepK (some ps) tk) := by
    have h1 : kinds (ts.take (k + 1)) = stepK (some ps) tk := by
      unfold kinds at hp ⊢
      rw [List.take_add_one, ht, List.foldl_append, hp]; rfl
    rw [← h1]
    unfold kinds
    rw [← List.foldl_append, List.take_append_drop]
  by_cases hc : tk.op ≤ 23 ∧ tk.p < 8 ∧ takesF tk.op ≤ ps.length ∧ fitK tk.op (ps.drop (ps.length - takesF tk.op)) = true
  · exact hc
  · rw [hs, stepK, if_neg hc, foldK_none] at h; cases h
theorem BRow.lt {H : AHeap} (hw : Wf H) {a : Option Addr} {n c : Nat} {f : Nat → Bool} (h : BRow H a (n + 1) c f) {b o : Nat} {s : Option Nat} (e : a = some ⟨b, o, s⟩) : b < H.next := by
  obtain ⟨b', o', s', e', hc⟩ := h.at (i := 0) (by omega)
  rw [e] at e'; cases e'
  exact cellAt_lt hw hc
/-- New places become a value. -/
theorem res_ok {S : Nat → Prop} {H A H' : AHeap} {n code : Nat} {f : Nat → Bool} {r : CRes} {a0 : Option Addr} (hA : Ext H A) (nA : A.next = H.next + 2) (gA : A.get (H.next + 1) = some (.cells [.slice none 0 0, .nilFunc, .nilFunc] code true)) (wA : Wf A) (hS : ∀ b, S b → b < H.next)
    (h : PRes n a0 f A r H') (h0 : ∀ b o s, a0 = some ⟨b, o, s⟩ → S b) :
    ∃ a' c' H5, r = .ret (.slice a' (n + 1) c') ∧ aStore Try.prog H' 68 (.pointer (some ⟨H.next + 1, 0 + 0, none⟩)) (.slice a' (n + 1) c') = some (.val undef H5 (.eff H' H5)) ∧ Ext H H5 ∧ Wf H5 ∧ VR (SNew S H H5) n H5 [.slice a' (n + 1) c', .nilFunc, .nilFunc] (.at f) ∧
      cellsAt H5 (H.next + 1) 0 3 = some [.slice a' (n + 1) c', .nilFunc, .nilFunc] ∧ Ext A H' ∧ Wf H' ∧ H5 = H'.set (H.next + 1) (.cells [.slice a' (n + 1) c', .nilFunc, .nilFunc] code true) := by
  obtain ⟨a', c', rfl, hr, hb, e, w⟩ := h
  have g1 := (e.get (H.next + 1) (by omega)).trans gA
  have hne : ∀ b o s, a' = some ⟨b, o, s⟩ → b ≠ H.next + 1 := fun b o s he => by
    rcases hb b o s he with h1 | ⟨o', s', h1⟩
    · omega
    · have := hS b (h0 b o' s' h1); omega
  have hrow : BRow (H'.set (H.next + 1) (.cells [.slice a' (n + 1) c', .nilFunc, .nilFunc] code true)) a' (n + 1) c' f := Row.same hr fun b o s he => (get_set_ne (hne b o s he)).symm
  refine ⟨a', c', _, rfl, store_ok (v := .slice a' (n + 1) c') (o := 0) (by kernel_rfl) rfl rfl g1 (by simp), (hA.trans e).set (by omega) _, w.set g1 _, ?_, cellsAt_all (n := 3) (by rw [AHeap.get_set, if_pos rfl]; rfl) rfl, e, w, rfl⟩
  unfold VR
  rw [if_neg (show ¬ (Sm.at f).path = true from Bool.false_ne_true)]
  refine ⟨a', c', rfl, hrow, fun b o s he => ?_⟩
  rcases hb b o s he with h1 | ⟨o', s', h1⟩
  · exact .inr ⟨by omega, BRow.lt w hr he⟩
  · exact .inl (h0 b o' s' h1)
/-- What path gives becomes a value. -/
theorem way_ok {S : Nat → Prop} {H A B H' : AHeap} {n code : Nat} {bk on : (Nat → Bool) → Nat → Bool} {r : CRes} (hA : Ext H A) (nA : A.next = H.next + 2) (gA : A.get (H.next + 1) = some (.cells [.slice none 0 0, .nilFunc, .nilFunc] code true)) (hS : ∀ b, S b → b < H.next) (eB : Ext A B)
    (h : PVal (SNew S A B) n bk on B r H') :
    ∃ x2 x3 H5, r = .ret (.agg #[.slice none 0 0, x2, x3]) ∧ aStore Try.prog H' 71 (.pointer (some ⟨H.next + 1, 0, none⟩)) (.agg #[.slice none 0 0, x2, x3]) = some (.val undef H5 (.eff H' H5)) ∧ Ext H H5 ∧ Wf H5 ∧ VR (SNew S H H5) n H5 [.slice none 0 0, x2, x3] (.way bk on) ∧
      cellsAt H5 (H.next + 1) 0 3 = some [.slice none 0 0, x2, x3] ∧ Ext B H' ∧ Wf H' ∧ H5 = H'.set (H.next + 1) (.cells [.slice none 0 0, x2, x3] code true) := by
  obtain ⟨x2, x3, rfl, f1, f2, e, w⟩ := h
  have nB := eB.next
  have nH := e.next
  have g1 := (e.get (H.next + 1) (by omega)).trans ((eB.get _ (by omega)).trans gA)
  have e5 : Ext H (H'.set (H.next + 1) (.cells [.slice none 0 0, x2, x3] code true)) := ((hA.trans eB).trans e).set (by omega) _
  have hlt := SNew.lt hS e5.next
  have hk : SKeep (SNew (SNew S A B) B H') H' (H'.set (H.next + 1) (.cells [.slice none 0 0, x2, x3] code true)) := ⟨fun b hb => (get_set_ne (fun he => by
    rcases hb with (hb | hb) | hb
    · have := hS b hb; omega
    · omega
    · omega)).symm, Nat.le_refl _⟩
  have hsub : ∀ b, SNew (SNew S A B) B H' b → SNew S H (H'.set (H.next + 1) (.cells [.slice none 0 0, x2, x3] code true)) b := fun b hb => by
    have nS : (H'.set (H.next + 1) (.cells [.slice none 0 0, x2, x3] code true)).next = H'.next := rfl
    rcases hb with (hb | hb) | hb
    · exact .inl hb
    · exact .inr ⟨by omega, by omega⟩
    · exact .inr ⟨by omega, by omega⟩
  have hv : VR (SNew S H (H'.set (H.next + 1) (.cells [.slice none 0 0, x2, x3] code true))) n (H'.set (H.next + 1) (.cells [.slice none 0 0, x2, x3] code true)) [.slice none 0 0, x2, x3] (.way bk on) := by
    unfold VR
    rw [if_pos (show (Sm.way bk on).path = true from rfl)]
    exact ⟨x2, x3, rfl, f1.wide hk hsub hlt, f2.wide hk hsub hlt⟩
  refine ⟨x2, x3, _, rfl, storeAgg_ok (vs := [.slice none 0 0, x2, x3]) (by kernel_rfl) hv.len.2 g1 rfl, e5, w.set g1 _, hv, cellsAt_all (n := 3) (by rw [AHeap.get_set, if_pos rfl]) rfl, e, w, rfl⟩
theorem cellsAt_len {H : AHeap} {b o n : Nat} {l : List Value} (h : cellsAt H b o n = some l) : l.length = n ∧ ∃ cs e ow, H.get b = some (.cells cs e ow) ∧ ∀ j, j < n → cs[o + j]? = l[j]? := by
  unfold cellsAt at h
  cases hg : H.get b with
  | none => rw [hg] at h; cases h
  | some x =>
    rw [hg] at h
    cases x with
    | cells cs e ow =>
      obtain ⟨h1, h2⟩ := takeN_get h
      exact ⟨h1, cs, e, ow, rfl, fun j hj => by have := h2 j hj; rw [dropN_get] at this; exact this.symm⟩
    | _ => cases h
theorem RowS.flat {H : AHeap} {a : Option Addr} {n c sz : Nat} {xs : List (List Value)} (h : RowS H a n c sz xs) (hn : 1 ≤ n) (hsz : 1 ≤ sz) : ∃ b o st, a = some ⟨b, o, st⟩ ∧ cellsAt H b o (n * sz) = some xs.flatten := by
  have hlen := h.len
  obtain ⟨x0, hx0⟩ : ∃ x, xs[0]? = some x := ⟨_, List.getElem?_eq_getElem (by omega)⟩
  obtain ⟨b, o, st, rfl, hc0⟩ := h.cell 0 x0 hx0
  obtain ⟨_, cs, e, ow, hg, _⟩ := cellsAt_len hc0
  refine ⟨b, o, st, rfl, ?_⟩
  unfold cellsAt
  rw [hg]
  refine takeN_of _ _ _ (by rw [flat_len h.all, ← hlen]) fun i x hx => ?_
  have hi := (List.getElem?_eq_some_iff.1 hx).1
  rw [flat_len h.all] at hi
  have hq : i / sz < xs.length := (Nat.div_lt_iff_lt_mul (by omega)).2 hi
  have hr := Nat.mod_lt i (show 0 < sz by omega)
  obtain ⟨y, hy⟩ : ∃ y, xs[i / sz]? = some y := ⟨_, List.getElem?_eq_getElem hq⟩
  obtain ⟨b', o', st', he, hc⟩ := h.cell (i / sz) y hy
  cases he
  obtain ⟨_, cs', e', ow', hg', hcell⟩ := cellsAt_len hc
  rw [hg] at hg'; cases hg'
  have h1 := flat_get h.all hy (i % sz) hr
  have hdm : i / sz * sz + i % sz = i := by rw [Nat.mul_comm]; exact Nat.div_add_mod i sz
  rw [hdm] at h1
  have h2 := hcell (i % sz) hr
  rw [dropN_get, ← hx, h1, ← h2]
  congr 1
  omega
/-- A copy of elements. -/
theorem appCopy {H : AHeap} {a : Option Addr} {n c : Nat} {xs : List (List Value)} (hr : RowS H a n c 3 xs) (hn : 1 ≤ n ∧ n ≤ 2) (hone : allOne xs.flatten = true) :
    aAppend Try.prog H #[109, 109] [.slice none 0 0, .slice a n c] = some (.val (.slice (some ⟨H.next, 0, some 0⟩) n n) (H.push (.cells xs.flatten (rowV 71 3) true)) (.eff H (H.push (.cells xs.flatten (rowV 71 3) true)))) := by
  have hlen := hr.len
  have hfl := flat_len hr.all
  have hcap := hr.cap
  obtain ⟨b, o, st, rfl, hc⟩ := RowS.flat hr hn.1 (by decide)
  have hsrc : srcCells H 3 (.slice (some ⟨b, o, st⟩) n c) = some (n, xs.flatten) := by
    unfold srcCells
    simp only [nbeq_no (show n ≠ 0 by omega), cond_false, nble hcap, cond_true, hc]
  rw [appendS_eq valTy hsrc]
  unfold aAppendTo
  have c1 : (Nat.ble ((0 + n) * 40) (2 ^ 47) && Nat.ble (0 + n) (2 ^ 47) && Nat.beq xs.flatten.length (n * 3) && Nat.ble 0 0 && allOne xs.flatten) = true := by
    simp only [Bool.and_eq_true, Nat.ble_eq, Nat.zero_add, hfl, ← hlen, nbeq, hone, and_true]
    omega
  simp only [c1, cond_true]
  rw [show Nat.beq (0 + n) 0 = false from nbeq_no (by omega)]
  simp only [Nat.zero_add]
  rfl
theorem zTok : zeroOf Try.prog 46 = some (.agg #[.int .u8 0, .int .u8 0]) := by kernel_rfl
theorem fit2 {op : Nat} {x y : Bool} (h : fitK op [x, y] = true) (h1 : 11 ≤ op) (h2 : op ≤ 16) : x = false ∧ y = false := by
  unfold fitK at h
  rw [if_neg (by omega), if_neg (by omega), if_neg (by omega)] at h
  simpa using h
set_option maxHeartbeats 8000000 in
theorem work_any (H : AHeap) (hw : Wf H) {n tc : Nat} {ta : Option Addr} {t : List Nat} (hT : Row H ta n tc (natL t)) (h256 : ∀ x ∈ t, x < 256) (hn : n ≤ 2 ^ 30) (a : Option Addr) (m c : Nat) (ts : List Tk) (hr : RowS H a m c 2 (ts.map Tk.cells)) (hm : m ≤ 2 ^ 20) {pk : Bool} (hk : kinds ts = some [pk]) :
    Does Try.prog orc 55 [.slice ta n tc, .slice a m c] H fun r H' => ∃ x S mm, r = .ret (.agg x.toArray) ∧ x.length = 3 ∧ VR S n H' x mm ∧ evalV n t ts = [mm] ∧ mm.path = pk ∧ (∀ b, S b → b < H'.next) ∧ Ext H H' ∧ Wf H' := by
  have hlen := hr.len; simp at hlen
  have hcap := hr.cap
  refine Does.of Try.func55 (fun _ _ => rfl) rfl ?_
  obtain ⟨Z, h_Z⟩ : ∃ X, X = (H.push (.cells [.slice none 0 0, .nilFunc, .nilFunc] (typedV 71) true)) := ⟨_, rfl⟩
  have n_Z : Z.next = H.next + 1 := by rw [h_Z]; rfl
  have e_Z : Ext H Z := by rw [h_Z]; exact (⟨by first | (simp; done) | (simp; omega), fun b hb => by (simp only [AHeap.get_push, AHeap.get_set, AHeap.next_push, AHeap.next_set]; repeat rw [if_neg (by omega)])⟩)
  have w_Z : Wf Z := by rw [h_Z]; exact (fun b hb => by (simp only [AHeap.get_push, AHeap.get_set, AHeap.next_push, AHeap.next_set] at hb ⊢; repeat rw [if_neg (by omega)]); exact hw b (by omega))
  have g_Z_0 : Z.get (H.next) = some (.cells [.slice none 0 0, .nilFunc, .nilFunc] (typedV 71) true) := by rw [h_Z]; exact (by (simp only [AHeap.get_push, AHeap.get_set, AHeap.next_push, AHeap.next_set, if_true]); repeat (first | rw [if_pos rfl] | rw [if_neg (by omega)]))
  have o_Z : ∀ b, b < H.next → Z.get b = H.get b := e_Z.get
  have x_Z := h_Z
  repeat' ((conv => whnf); first
    | (refine Both.intro ?_ ?_ <;> intro _ <;> try (exfalso; omega))
    | (refine Need.intro (by omega) ?_)
    | (refine Gives.intro ⟨_, zVal, ?_⟩)
    | fail)
  all_goals (conv => whnf)
  refine Runs.loop (fun x : Nat × List (List Value) × Option Addr × Nat => [(13, .int .i64 x.1), (12, .int .i64 m), (11, .slice a m c), (5, .slice x.2.2.1 x.2.1.length x.2.2.2), (4, .pointer (some ⟨H.next, 0, none⟩)), (0, .slice ta n tc)])
    (fun x H' => ∃ S sms, WI Z H' n t ts x.1 x.2.1 x.2.2.1 x.2.2.2 S sms) (fun x => m - x.1) (0, [], none, 0) ⟨rfl, rfl, rfl, rfl, rfl, rfl, trivial⟩
    ⟨fun _ => False, [], ⟨Nat.zero_le _, by rw [h_Z]; exact Ext.refl _, by rw [h_Z] at w_Z; exact w_Z, Stk.nil _ _ _ _, fun b h => h.elim, fun b h => h.elim, (by simp), rfl, Nat.le_refl _, (by simp), rfl, rfl⟩⟩ ?_
  rintro ⟨k, xs, sa, sc⟩ H1 ⟨S, sms, hI⟩
  dsimp only at hI
  show vc _ _ _ _ _ [(13, .int .i64 k), (12, .int .i64 m), (11, .slice a m c), (5, .slice sa xs.length sc), (4, .pointer (some ⟨H.next, 0, none⟩)), (0, .slice ta n tc)] _ _
  have eH1 := e_Z.trans hI.e
  have w1 := hI.w
  have hsc := hI.st.2.1
  have hlk := hI.lk
  by_cases hlt : k < m
  · obtain ⟨tk, ht⟩ : ∃ tk, ts[k]? = some tk := ⟨_, List.getElem?_eq_getElem (by omega)⟩
    obtain ⟨hop, hp8, hm0, hfit⟩ := kind_at hk ht hI.kd
    rw [List.length_map, ← hI.len] at hm0 hfit
    obtain ⟨tb, to, tst, rfl, hcell⟩ := hr.cell k tk.cells (by simp [ht])
    have hcell := cellsAt_ext hw eH1 hcell
    obtain ⟨op, p⟩ := tk
    dsimp only at hop hp8 hm0 hfit
    have hT1 := hT.ext hw eH1
    obtain ⟨T, h_T⟩ : ∃ X, X = ((H1.push (.cells [.int .u8 0, .int .u8 0] (typedV 46) true)).set (H1.next) (.cells [.int .u8 op, .int .u8 p] (typedV 46) true)) := ⟨_, rfl⟩
    have n_T : T.next = H1.next + 1 := by rw [h_T]; rfl
    have e_T : Ext H1 T := by rw [h_T]; exact (⟨by first | (simp; done) | (simp; omega), fun b hb => by (simp only [AHeap.get_push, AHeap.get_set, AHeap.next_push, AHeap.next_set]; repeat rw [if_neg (by omega)])⟩)
    have w_T : Wf T := by rw [h_T]; exact (fun b hb => by (simp only [AHeap.get_push, AHeap.get_set, AHeap.next_push, AHeap.next_set] at hb ⊢; repeat rw [if_neg (by omega)]); exact w1 b (by omega))
    have g_T_0 : T.get (H1.next) = some (.cells [.int .u8 op, .int .u8 p] (typedV 46) true) := by rw [h_T]; exact (by (simp only [AHeap.get_push, AHeap.get_set, AHeap.next_push, AHeap.next_set, if_true]); repeat (first | rw [if_pos rfl] | rw [if_neg (by omega)]))
    have o_T : ∀ b, b < H1.next → T.get b = H1.get b := e_T.get
    have x_T := h_T
    obtain ⟨A, h_A⟩ : ∃ X, X = (T.push (.cells [.slice none 0 0, .nilFunc, .nilFunc] (typedV 71) true)) := ⟨_, rfl⟩
    have n_A : A.next = T.next + 1 := by rw [h_A]; rfl
    have e_A : Ext T A := by rw [h_A]; exact (⟨by first | (simp; done) | (simp; omega), fun b hb => by (simp only [AHeap.get_push, AHeap.get_set, AHeap.next_push, AHeap.next_set]; repeat rw [if_neg (by omega)])⟩)
    have r_A : Ext H1 A := by rw [h_A]; exact (e_T.trans (Ext.push _ _))
    have w_A : Wf A := by rw [h_A]; exact (fun b hb => by (simp only [AHeap.get_push, AHeap.get_set, AHeap.next_push, AHeap.next_set] at hb ⊢; repeat rw [if_neg (by omega)]); exact w_T b (by omega))
    have g_A_0 : A.get (T.next) = some (.cells [.slice none 0 0, .nilFunc, .nilFunc] (typedV 71) true) := by rw [h_A]; exact (by (simp only [AHeap.get_push, AHeap.get_set, AHeap.next_push, AHeap.next_set, if_true]); repeat (first | rw [if_pos rfl] | rw [if_neg (by omega)]))
    have o_A : ∀ b, b < T.next → A.get b = T.get b := e_A.get
    have x_A := h_A
    rw [x_T] at x_A
    have qT0 := cellAt_of g_T_0 (o := 0) rfl
    have qA0 := cellAt_ext w_T e_A qT0
    have qAa := cellsAt_all (n := 2) ((o_A _ (by omega)).trans g_T_0) rfl
    rw [n_T] at g_A_0
    have hsl : aSlice Try.prog 109 (.slice sa xs.length sc) (some (.int .i64 ((xs.length : Int) - (takesF op : Int)))) none none = some (.slice (offA sa ((xs.length - takesF op) * 3)) (xs.length - (xs.length - takesF op)) (sc - (xs.length - takesF op))) := slice_fromI (e := 71) (n := 3) (by kernel_rfl) (by kernel_rfl) (by omega) (by omega) hsc hI.st.spot
    have hslt : aSlice Try.prog 109 (.slice sa xs.length sc) none (some (.int .i64 ((xs.length : Int) - (takesF op : Int)))) none = some (.slice sa (xs.length - takesF op) sc) := slice_toI (e := 71) (n := 3) (by kernel_rfl) (by kernel_rfl) (by omega) (by omega)
    have hrest := hI.st.rest (m := xs.length - takesF op) (by omega)
    have hkA : SKeep S H1 A := ⟨fun b hb => r_A.get b (hI.lt b hb), r_A.next⟩
    have hel : ∀ i, i < takesF op → ∃ x mm, xs[xs.length - takesF op + i]? = some x ∧ (sms.drop (xs.length - takesF op))[i]? = some mm ∧ VR S n H1 x mm ∧ ∃ b o st, offA sa ((xs.length - takesF op) * 3) = some ⟨b, o, st⟩ ∧ cellsAt H1 b (o + i * 3) 3 = some x := fun i hi => by
      have hx : xs.length - takesF op + i < xs.length := by omega
      have hy : xs.length - takesF op + i < sms.length := by rw [← hI.len]; exact hx
      obtain ⟨b, o, st, h1, h2⟩ := hrest.cell i _ (by rw [List.getElem?_drop]; exact List.getElem?_eq_getElem hx)
      exact ⟨_, _, List.getElem?_eq_getElem hx, by rw [List.getElem?_drop]; exact List.getElem?_eq_getElem hy, hI.val _ _ _ (List.getElem?_eq_getElem hx) (List.getElem?_eq_getElem hy), b, o, st, h1, h2⟩
    have hlend : (sms.drop (xs.length - takesF op)).length = takesF op := by rw [List.length_drop, ← hI.len]; omega
    have hbs : ∀ x1 x2 x3, aBuildSlice Try.prog 109 1 [(0, .agg #[x1, x2, x3])] = mkSlice [x1, x2, x3] 1 1 := fun x1 x2 x3 => by kernel_rfl
    have done : ∀ {x : List Value} {a' : Option Addr} {c' : Nat} {H9 : AHeap} {S' : Nat → Prop} {sms' : List Sm}, x = x → WI Z H9 n t ts (k + 1) (xs.take (xs.length - takesF op) ++ [x]) a' c' S' sms' → (xs.take (xs.length - takesF op) ++ [x]).length = xs.length - takesF op + 1 := fun {x} _ _ _ _ _ _ _ => by rw [List.length_append, List.length_take, Nat.min_eq_left (by omega)]; rfl
    by_cases hc0 : op ≤ 5
    · have htk : takesF op = 0 := by unfold takesF; rw [if_pos hc0]
      have hval : valF n t ⟨op, p⟩ (sms.drop (xs.length - takesF op)) = .at (leafF n t op p) := by unfold valF; rw [if_pos hc0]
      have hTA := hT1.ext w1 r_A
      have hcall := (leaf_any A w_A (op := op) (p := p) hTA hp8 h256 hn).heap x_A
      rw [htk] at hsl hslt
      rw [x_T] at qT0
      rw [x_A] at qA0 qAa
      have hop6 : op = 0 ∨ op = 1 ∨ op = 2 ∨ op = 3 ∨ op = 4 ∨ op = 5 := by omega
      rcases hop6 with rfl | rfl | rfl | rfl | rfl | rfl
      all_goals
        repeat' ((conv => whnf); first
          | (refine Both.intro ?_ ?_ <;> intro _ <;> try (exfalso; omega))
          | (refine Need.intro (by omega) ?_)
          | (refine ⟨_, hcell, ?_⟩)
          | (refine Gives.intro ⟨_, zTok, ?_⟩)
          | (refine Outs.intro ⟨_, _, _, storeAgg_ok (vs := [.int .u8 _, .int .u8 _]) (by kernel_rfl) rfl (get_new _ _) rfl, ?_⟩)
          | (refine ⟨_, qT0, ?_⟩)
          | (refine ⟨_, qA0, ?_⟩)
          | (refine ⟨_, qAa, ?_⟩)
          | (refine Gives.intro ⟨_, zVal, ?_⟩)
          | (refine Gives.intro ⟨_, hsl, ?_⟩)
          | (refine Gives.intro ⟨_, hslt, ?_⟩)
          | (refine Does.mono hcall ?_ ; rintro r6 H6 hr6 ; obtain ⟨a6, c6, H5, rfl, hst5, e5, w5, hv5, hc5, e6, w6, hH5⟩ := res_ok r_A (by omega) g_A_0 w_A hI.lt (hr6.res none) (by simp) ; rw [← hval] at hv5 ; obtain ⟨a9, c9, H9, happ, hI9⟩ := hI.push ht (by omega) (by omega) e5 w5 hop hp8 hm0 hfit hv5 ; dsimp only at happ hI9 ; rw [htk] at happ hI9)
          | (refine Outs.intro ⟨_, _, _, hst5, ?_⟩)
          | (refine ⟨_, hc5, ?_⟩)
          | (refine ⟨_, hbs _ _ _, ?_⟩)
          | (refine Outs.intro ⟨_, _, _, happ, ?_⟩)
          | (refine Need.intro (DrawP.intro (by kernel_rfl)) ?_)
          | fail)
        all_goals (conv => whnf)
        have hln : (xs.take (xs.length - 0) ++ [([.slice a6 (n + 1) c6, .nilFunc, .nilFunc] : List Value)]).length = xs.length - 0 + 1 := by rw [List.length_append, List.length_take, Nat.min_eq_left (by omega)]; rfl
        exact ⟨(k + 1, _, a9, c9), ⟨rfl, rfl, rfl, by dsimp only; rw [hln]; rfl, rfl, rfl, trivial⟩, ⟨_, _, hI9⟩, by dsimp only; omega⟩
    have hkd : fitK op ((sms.drop (xs.length - takesF op)).map Sm.path) = true := by rw [List.map_drop]; exact hfit
    have hd1 : ∀ mm, takesF op = 1 → (sms.drop (xs.length - takesF op))[0]? = some mm → (sms.drop (xs.length - takesF op)).map Sm.path = [mm.path] := fun mm h1 h2 => by
      match hq : sms.drop (xs.length - takesF op), h2 with
      | [z], h2 => simp at h2; subst h2; rfl
      | [], h2 => simp at h2
      | _ :: _ :: _, _ => rw [hq] at hlend; simp at hlend; omega
    have hd2 : ∀ mm nn, takesF op = 2 → (sms.drop (xs.length - takesF op))[0]? = some mm → (sms.drop (xs.length - takesF op))[1]? = some nn → (sms.drop (xs.length - takesF op)).map Sm.path = [mm.path, nn.path] := fun mm nn h1 h2 h3 => by
      match hq : sms.drop (xs.length - takesF op), h2, h3 with
      | [z, u], h2, h3 => simp at h2 h3; subst h2; subst h3; rfl
      | [], h2, _ => simp at h2
      | [_], _, h3 => simp at h3
      | _ :: _ :: _ :: _, _, _ => rw [hq] at hlend; simp at hlend; omega
    by_cases hc1 : 6 ≤ op ∧ op ≤ 10
    · have htk : takesF op = 1 := by unfold takesF; rw [if_neg (by omega), if_pos (by omega)]
      obtain ⟨x0, m0, hx0, hm0x, hv0, b0, o0, st0, hoff, hcx0⟩ := hel 0 (by omega)
      rw [hd1 m0 htk hm0x] at hkd
      have hp0 : m0.path = false := by unfold fitK at hkd; rw [if_neg (by omega), if_neg (by omega), if_neg (by omega)] at hkd; simpa using hkd
      obtain ⟨ax, cx, rfl, rx, sx⟩ := hv0.at hp0
      have hval : valF n t ⟨op, p⟩ (sms.drop (xs.length - takesF op)) = .at (oneF n op m0.pl) := by
        unfold valF; dsimp only; rw [hm0x]
        rw [if_neg (by omega), if_neg (by omega), if_neg (by omega), if_neg (by omega), if_neg (by omega), if_neg (by omega), if_neg (by omega), if_neg (by omega), if_pos htk]; rfl
      have hcall := (one_any A w_A ta n tc op ax cx m0.pl (rx.ext w1 r_A) hn).heap x_A
      have l0 := cellsAt_cell (cellsAt_ext w1 r_A hcx0) (j := 0) rfl
      rw [x_A] at l0
      rw [hoff] at hsl
      rw [htk] at hsl hslt
      rw [x_T] at qT0
      rw [x_A] at qA0 qAa
      repeat' ((conv => whnf); first
        | (refine Both.intro ?_ ?_ <;> intro _ <;> try (exfalso; omega))
        | (refine Need.intro (by omega) ?_)
        | (refine ⟨_, hcell, ?_⟩)
        | (refine Gives.intro ⟨_, zTok, ?_⟩)
        | (refine Outs.intro ⟨_, _, _, storeAgg_ok (vs := [.int .u8 _, .int .u8 _]) (by kernel_rfl) rfl (get_new _ _) rfl, ?_⟩)
        | (refine ⟨_, qT0, ?_⟩)
        | (refine ⟨_, qA0, ?_⟩)
        | (refine ⟨_, qAa, ?_⟩)
        | (refine Gives.intro ⟨_, zVal, ?_⟩)
        | (refine Gives.intro ⟨_, hsl, ?_⟩)
        | (refine Gives.intro ⟨_, hslt, ?_⟩)
        | (refine ⟨_, l0, ?_⟩)
        | (refine Does.mono hcall ?_ ; rintro r6 H6 hr6 ; obtain ⟨a6, c6, H5, rfl, hst5, e5, w5, hv5, hc5, e6, w6, hH5⟩ := res_ok r_A (by omega) g_A_0 w_A hI.lt (hr6.res none) (by simp) ; rw [← hval] at hv5 ; obtain ⟨a9, c9, H9, happ, hI9⟩ := hI.push ht (by omega) (by omega) e5 w5 hop hp8 hm0 hfit hv5 ; dsimp only at happ hI9 ; rw [htk] at happ hI9)
        | (refine Outs.intro ⟨_, _, _, hst5, ?_⟩)
        | (refine ⟨_, hc5, ?_⟩)
        | (refine ⟨_, hbs _ _ _, ?_⟩)
        | (refine Outs.intro ⟨_, _, _, happ, ?_⟩)
        | (refine Need.intro (DrawP.intro (by kernel_rfl)) ?_)
        | fail)
      all_goals (conv => whnf)
      have hln : (xs.take (xs.length - 1) ++ [([.slice a6 (n + 1) c6, .nilFunc, .nilFunc] : List Value)]).length = xs.length - 1 + 1 := by rw [List.length_append, List.length_take, Nat.min_eq_left (by omega)]; rfl
      exact ⟨(k + 1, _, a9, c9), ⟨rfl, rfl, rfl, by dsimp only; rw [hln]; rfl, rfl, rfl, trivial⟩, ⟨_, _, hI9⟩, by dsimp only; omega⟩
    by_cases hc2 : 11 ≤ op ∧ op ≤ 16
    · have htk : takesF op = 2 := by unfold takesF; rw [if_neg (by omega), if_neg (by omega)]
      obtain ⟨x0, m0, hx0, hm0x, hv0, b0, o0, st0, hoff, hcx0⟩ := hel 0 (by omega)
      obtain ⟨y0, m1, hy0, hm1x, hv1, b1, o1, st1, hoff1, hcy0⟩ := hel 1 (by omega)
      rw [hoff] at hoff1; cases hoff1
      rw [hd2 m0 m1 htk hm0x hm1x] at hkd
      obtain ⟨hp0, hp1⟩ := fit2 hkd hc2.1 hc2.2
      obtain ⟨ax, cx, rfl, rx, sx⟩ := hv0.at hp0
      obtain ⟨ay, cy, rfl, ry, sy⟩ := hv1.at hp1
      have hval : valF n t ⟨op, p⟩ (sms.drop (xs.length - takesF op)) = .at (twoF n op m0.pl m1.pl) := by
        unfold valF; dsimp only; rw [hm0x, hm1x]
        rw [if_neg (by omega), if_neg (by omega), if_neg (by omega), if_neg (by omega), if_neg (by omega), if_neg (by omega), if_neg (by omega), if_neg (by omega), if_neg (by omega)]; rfl
      have hcall := (two_any A w_A ta n tc op ax ay cx cy m0.pl m1.pl (rx.ext w1 r_A) (ry.ext w1 r_A) hn).heap x_A
      have l0 := cellsAt_cell (cellsAt_ext w1 r_A hcx0) (j := 0) rfl
      have l1 := cellsAt_cell (cellsAt_ext w1 r_A hcy0) (j := 0) rfl
      rw [x_A] at l0 l1
      rw [hoff] at hsl
      rw [htk] at hsl hslt
      rw [x_T] at qT0
      rw [x_A] at qA0 qAa
      have hop6 : op = 11 ∨ op = 12 ∨ op = 13 ∨ op = 14 ∨ op = 15 ∨ op = 16 := by omega
      rcases hop6 with rfl | rfl | rfl | rfl | rfl | rfl
      all_goals
        repeat' ((conv => whnf); first
          | (refine Both.intro ?_ ?_ <;> intro _ <;> try (exfalso; omega))
          | (refine Need.intro (by omega) ?_)
          | (refine ⟨_, hcell, ?_⟩)
          | (refine Gives.intro ⟨_, zTok, ?_⟩)
          | (refine Outs.intro ⟨_, _, _, storeAgg_ok (vs := [.int .u8 _, .int .u8 _]) (by kernel_rfl) rfl (get_new _ _) rfl, ?_⟩)
          | (refine ⟨_, qT0, ?_⟩)
          | (refine ⟨_, qA0, ?_⟩)
          | (refine ⟨_, qAa, ?_⟩)
          | (refine Gives.intro ⟨_, zVal, ?_⟩)
          | (refine Gives.intro ⟨_, hsl, ?_⟩)
          | (refine Gives.intro ⟨_, hslt, ?_⟩)
          | (refine ⟨_, l0, ?_⟩)
          | (refine ⟨_, l1, ?_⟩)
          | (refine Does.mono hcall ?_ ; rintro r6 H6 hr6 ; obtain ⟨a6, c6, H5, rfl, hst5, e5, w5, hv5, hc5, e6, w6, hH5⟩ := res_ok r_A (by omega) g_A_0 w_A hI.lt (hr6.res none) (by simp) ; rw [← hval] at hv5 ; obtain ⟨a9, c9, H9, happ, hI9⟩ := hI.push ht (by omega) (by omega) e5 w5 hop hp8 hm0 hfit hv5 ; dsimp only at happ hI9 ; rw [htk] at happ hI9)
          | (refine Outs.intro ⟨_, _, _, hst5, ?_⟩)
          | (refine ⟨_, hc5, ?_⟩)
          | (refine ⟨_, hbs _ _ _, ?_⟩)
          | (refine Outs.intro ⟨_, _, _, happ, ?_⟩)
          | (refine Need.intro (DrawP.intro (by kernel_rfl)) ?_)
          | fail)
        all_goals (conv => whnf)
        have hln : (xs.take (xs.length - 2) ++ [([.slice a6 (n + 1) c6, .nilFunc, .nilFunc] : List Value)]).length = xs.length - 2 + 1 := by rw [List.length_append, List.length_take, Nat.min_eq_left (by omega)]; rfl
        exact ⟨(k + 1, _, a9, c9), ⟨rfl, rfl, rfl, by dsimp only; rw [hln]; rfl, rfl, rfl, trivial⟩, ⟨_, _, hI9⟩, by dsimp only; omega⟩
    by_cases hc3 : op = 17
    · subst hc3
      have htk : takesF 17 = 2 := rfl
      obtain ⟨x0, m0, hx0, hm0x, hv0, b0, o0, st0, hoff, hcx0⟩ := hel 0 (by omega)
      obtain ⟨y0, m1, hy0, hm1x, hv1, b1, o1, st1, hoff1, hcy0⟩ := hel 1 (by omega)
      rw [hoff] at hoff1; cases hoff1
      rw [hd2 m0 m1 htk hm0x hm1x] at hkd
      have hkd : m0.path = true ∧ m1.path = false := by simpa [fitK] using hkd
      obtain ⟨vb, vo, rfl, fb, fo⟩ := hv0.way hkd.1
      obtain ⟨ay, cy, rfl, ry, sy⟩ := hv1.at hkd.2
      have hval : valF n t ⟨17, p⟩ (sms.drop (xs.length - takesF 17)) = .at (m0.back m1.pl) := by
        unfold valF; dsimp only; rw [hm0x, hm1x]; rfl
      obtain ⟨fg, ffi, fca, rfl, hrun⟩ := fb.run
      have hcall := (hrun A hkA w_A ay cy _ (ry.ext w1 r_A)).heap x_A
      have l0 := cellsAt_cell (cellsAt_ext w1 r_A hcx0) (j := 1) rfl
      have l1 := cellsAt_cell (cellsAt_ext w1 r_A hcy0) (j := 0) rfl
      rw [x_A] at l0 l1
      rw [hoff] at hsl
      rw [htk] at hsl hslt
      rw [x_T] at qT0
      rw [x_A] at qA0 qAa
      repeat' ((conv => whnf); first
        | (refine Both.intro ?_ ?_ <;> intro _ <;> try (exfalso; omega))
        | (refine Need.intro (by omega) ?_)
        | (refine ⟨_, hcell, ?_⟩)
        | (refine Gives.intro ⟨_, zTok, ?_⟩)
        | (refine Outs.intro ⟨_, _, _, storeAgg_ok (vs := [.int .u8 _, .int .u8 _]) (by kernel_rfl) rfl (get_new _ _) rfl, ?_⟩)
        | (refine ⟨_, qT0, ?_⟩)
        | (refine ⟨_, qA0, ?_⟩)
        | (refine ⟨_, qAa, ?_⟩)
        | (refine Gives.intro ⟨_, zVal, ?_⟩)
        | (refine Gives.intro ⟨_, hsl, ?_⟩)
        | (refine Gives.intro ⟨_, hslt, ?_⟩)
        | (refine ⟨_, l0, ?_⟩)
        | (refine ⟨_, l1, ?_⟩)
        | (refine Does.mono hcall ?_ ; rintro r6 H6 hr6 ; obtain ⟨a6, c6, H5, rfl, hst5, e5, w5, hv5, hc5, e6, w6, hH5⟩ := res_ok r_A (by omega) g_A_0 w_A hI.lt hr6 sy ; rw [← hval] at hv5 ; obtain ⟨a9, c9, H9, happ, hI9⟩ := hI.push ht (by omega) (by omega) e5 w5 hop hp8 hm0 hfit hv5 ; dsimp only at happ hI9 ; rw [htk] at happ hI9)
        | (refine Outs.intro ⟨_, _, _, hst5, ?_⟩)
        | (refine ⟨_, hc5, ?_⟩)
        | (refine ⟨_, hbs _ _ _, ?_⟩)
        | (refine Outs.intro ⟨_, _, _, happ, ?_⟩)
        | (refine Need.intro (DrawP.intro (by kernel_rfl)) ?_)
        | fail)
      all_goals (conv => whnf)
      have hln : (xs.take (xs.length - 2) ++ [([.slice a6 (n + 1) c6, .nilFunc, .nilFunc] : List Value)]).length = xs.length - 2 + 1 := by rw [List.length_append, List.length_take, Nat.min_eq_left (by omega)]; rfl
      exact ⟨(k + 1, _, a9, c9), ⟨rfl, rfl, rfl, by dsimp only; rw [hln]; rfl, rfl, rfl, trivial⟩, ⟨_, _, hI9⟩, by dsimp only; omega⟩
    by_cases hc4 : op = 18
    · subst hc4
      have htk : takesF 18 = 2 := rfl
      obtain ⟨x0, m0, hx0, hm0x, hv0, b0, o0, st0, hoff, hcx0⟩ := hel 0 (by omega)
      obtain ⟨y0, m1, hy0, hm1x, hv1, b1, o1, st1, hoff1, hcy0⟩ := hel 1 (by omega)
      rw [hoff] at hoff1; cases hoff1
      rw [hd2 m0 m1 htk hm0x hm1x] at hkd
      have hkd : m0.path = true ∧ m1.path = false := by simpa [fitK] using hkd
      obtain ⟨vb, vo, rfl, fb, fo⟩ := hv0.way hkd.1
      obtain ⟨ay, cy, rfl, ry, sy⟩ := hv1.at hkd.2
      have hval : valF n t ⟨18, p⟩ (sms.drop (xs.length - takesF 18)) = .at (fun i => !m0.back (fun j => !m1.pl j) i) := by
        unfold valF; dsimp only; rw [hm0x, hm1x]; rfl
      obtain ⟨fg, ffi, fca, rfl, hrun⟩ := fb.run
      have hcall := (not_any A w_A ta n tc ay cy _ (ry.ext w1 r_A) hn).heap x_A
      have l0 := cellsAt_cell (cellsAt_ext w1 r_A hcx0) (j := 1) rfl
      have l1 := cellsAt_cell (cellsAt_ext w1 r_A hcy0) (j := 0) rfl
      have ln0 := cellAt_lt w_A l0
      have ln1 := cellAt_lt w_A l1
      have lo0 := cellAt_lt w1 (cellsAt_cell hcx0 (j := 1) rfl)
      have lo1 := cellAt_lt w1 (cellsAt_cell hcy0 (j := 0) rfl)
      have ln0x := ln0
      have ln1x := ln1
      rw [x_A] at ln0x ln1x
      rw [x_A] at l0 l1
      rw [hoff] at hsl
      rw [htk] at hsl hslt
      rw [x_T] at qT0
      rw [x_A] at qA0 qAa
      repeat' ((conv => whnf); first
        | (refine Both.intro ?_ ?_ <;> intro _ <;> try (exfalso; omega))
        | (refine Need.intro (by omega) ?_)
        | (refine ⟨_, hcell, ?_⟩)
        | (refine Gives.intro ⟨_, zTok, ?_⟩)
        | (refine Outs.intro ⟨_, _, _, storeAgg_ok (vs := [.int .u8 _, .int .u8 _]) (by kernel_rfl) rfl (get_new _ _) rfl, ?_⟩)
        | (refine ⟨_, qT0, ?_⟩)
        | (refine ⟨_, qA0, ?_⟩)
        | (refine ⟨_, qAa, ?_⟩)
        | (refine Gives.intro ⟨_, zVal, ?_⟩)
        | (refine Gives.intro ⟨_, hsl, ?_⟩)
        | (refine Gives.intro ⟨_, hslt, ?_⟩)
        | (refine ⟨_, l0, ?_⟩)
        | (refine ⟨_, l1, ?_⟩)
        | (refine Need.intro (draw_of (by simp only [effAll, lookAll, and_true]; rw [hH5]; exact ⟨⟨cellsAt_set (by omega), cellsAt_set (by omega)⟩, ⟨look_ext e26 (by omega), look_ext e26 (by omega)⟩, ⟨look_ext j3 (by omega), look_ext j3 (by omega)⟩, look_ext k3x ln1x, look_ext k3x ln0x⟩)) ?_)
        | (refine Does.mono hcall ?_ ; rintro _ N1 ⟨d1, rfl, k1, k2, k3, k4⟩ ; have k3x := k3 ; rw [x_A] at k3x ; have nk3 := k3.next)
        | (refine Does.mono (hrun N1 (hkA.ext hI.lt k3) k4 _ _ _ k1) ?_ ; rintro _ N2 ⟨d2, c2, rfl, j1, j2, j3, j4⟩ ; have nj3 := j3.next)
        | (refine Does.mono (not_any N2 j4 ta n tc d2 c2 _ j1 hn) ?_ ; rintro r6 H6 hr6 ; have e26 := hr6.choose_spec.2.2.2.1 ; obtain ⟨a6, c6, H5, rfl, hst5, e5, w5, hv5, hc5, e6, w6, hH5⟩ := res_ok r_A (by omega) g_A_0 w_A hI.lt ((hr6.of (k3.trans j3) fun _ _ => rfl).res none) (by simp) ; rw [← hval] at hv5 ; obtain ⟨a9, c9, H9, happ, hI9⟩ := hI.push ht (by omega) (by omega) e5 w5 hop hp8 hm0 hfit hv5 ; dsimp only at happ hI9 ; rw [htk] at happ hI9)
        | (refine Outs.intro ⟨_, _, _, hst5, ?_⟩)
        | (refine ⟨_, hc5, ?_⟩)
        | (refine ⟨_, hbs _ _ _, ?_⟩)
        | (refine Outs.intro ⟨_, _, _, happ, ?_⟩)
        | (refine Need.intro (DrawP.intro (by kernel_rfl)) ?_)
        | fail)
      all_goals (conv => whnf)
      have hln : (xs.take (xs.length - 2) ++ [([.slice a6 (n + 1) c6, .nilFunc, .nilFunc] : List Value)]).length = xs.length - 2 + 1 := by rw [List.length_append, List.length_take, Nat.min_eq_left (by omega)]; rfl
      exact ⟨(k + 1, _, a9, c9), ⟨rfl, rfl, rfl, by dsimp only; rw [hln]; rfl, rfl, rfl, trivial⟩, ⟨_, _, hI9⟩, by dsimp only; omega⟩
    by_cases hc19 : op = 19
    · subst hc19
      have htk : takesF 19 = 1 := rfl
      obtain ⟨x0, m0, hx0, hm0x, hv0, b0, o0, st0, hoff, hcx0⟩ := hel 0 (by omega)
      rw [hd1 m0 htk hm0x] at hkd
      have hkd : m0.path = false := by simpa [fitK] using hkd
      have hval : valF n t ⟨19, p⟩ (sms.drop (xs.length - takesF 19)) = .way (stepB n m0.pl) (stepO m0.pl) := by
        unfold valF; dsimp only; rw [hm0x]; rfl
      obtain ⟨x1, x2, x3, rfl⟩ : ∃ x1 x2 x3, x0 = [x1, x2, x3] := by
        have := hv0.len.1
        match x0, this with
        | [x1, x2, x3], _ => exact ⟨_, _, _, rfl⟩
      have hone : allOne [x1, x2, x3] = true := by
        have h1 := hv0.len.2
        exact h1
      obtain ⟨C, h_C⟩ : ∃ X, X = (A.push (.cells [x1, x2, x3] (rowV 71 3) true)) := ⟨_, rfl⟩
      have n_C : C.next = A.next + 1 := by rw [h_C]; rfl
      have e_C : Ext A C := by rw [h_C]; exact (⟨by first | (simp; done) | (simp; omega), fun b hb => by (simp only [AHeap.get_push, AHeap.get_set, AHeap.next_push, AHeap.next_set]; repeat rw [if_neg (by omega)])⟩)
      have r_C : Ext H1 C := by rw [h_C]; exact (r_A.trans (Ext.push _ _))
      have w_C : Wf C := by rw [h_C]; exact (fun b hb => by (simp only [AHeap.get_push, AHeap.get_set, AHeap.next_push, AHeap.next_set] at hb ⊢; repeat rw [if_neg (by omega)]); exact w_A b (by omega))
      have g_C_0 : C.get (A.next) = some (.cells [x1, x2, x3] (rowV 71 3) true) := by rw [h_C]; exact (by (simp only [AHeap.get_push, AHeap.get_set, AHeap.next_push, AHeap.next_set, if_true]); repeat (first | rw [if_pos rfl] | rw [if_neg (by omega)]))
      have o_C : ∀ b, b < A.next → C.get b = A.get b := e_C.get
      have x_C := h_C
      rw [x_A] at x_C
      rw [n_A, n_T] at g_C_0
      have hrx : xs.drop (xs.length - takesF 19) = [[x1, x2, x3]] := by
        apply List.ext_getElem?
        intro i
        rw [List.getElem?_drop]
        match i with
        | 0 => exact hx0
        | i + 1 => rw [List.getElem?_eq_none (by omega)]; rfl
      have hcopy := appCopy (hrest.ext w1 r_A) (by omega) (by rw [hrx]; exact hone)
      rw [hrx, hoff] at hcopy
      have hkC : SKeep S H1 C := ⟨fun b hb => r_C.get b (hI.lt b hb), r_C.next⟩
      have hSC := SNew.lt (H := A) (H' := C) (S := S) (fun b hb => by have := hI.lt b hb; omega) e_C.next
      have wid : ∀ {v f}, FnV S n H1 v f → FnV (SNew S A C) n C v f := fun h => h.wide hkC (fun b hb => .inl hb) hSC
      have hS0 : SNew S A C (H1.next + 2) := .inr ⟨by omega, by omega⟩
      obtain ⟨ax, cx, hxx, rx, sx⟩ := hv0.at hkd
      cases hxx
      have hc0 := cellAt_of g_C_0 (o := 0) rfl
      have hcall := (pstep_any (SNew S A C) C w_C hSC (ta := ta) (tc := tc) (vb := H1.next + 2) (vo := 0) (vs := some 0) (vn := 1) (vc' := 1) (by omega) hc0 (rx.ext w1 r_C) (fun b o s e => .inl (sx b o s e)) hn).heap x_C
      have hq1 : xs.length - (xs.length - takesF 19) = 1 := by omega
      rw [hq1] at hcopy hsl
      rw [htk] at hcopy
      rw [x_A] at hcopy
      rw [hoff] at hsl
      rw [htk] at hsl hslt
      rw [x_T] at qT0
      rw [x_A] at qA0 qAa
      repeat' ((conv => whnf); first
        | (refine Both.intro ?_ ?_ <;> intro _ <;> try (exfalso; omega))
        | (refine Need.intro (by omega) ?_)
        | (refine ⟨_, hcell, ?_⟩)
        | (refine Gives.intro ⟨_, zTok, ?_⟩)
        | (refine Outs.intro ⟨_, _, _, storeAgg_ok (vs := [.int .u8 _, .int .u8 _]) (by kernel_rfl) rfl (get_new _ _) rfl, ?_⟩)
        | (refine ⟨_, qT0, ?_⟩)
        | (refine ⟨_, qA0, ?_⟩)
        | (refine ⟨_, qAa, ?_⟩)
        | (refine Gives.intro ⟨_, zVal, ?_⟩)
        | (refine Gives.intro ⟨_, hsl, ?_⟩)
        | (refine Gives.intro ⟨_, hslt, ?_⟩)
        | (refine Outs.intro ⟨_, _, _, hcopy, ?_⟩)
        | (refine Does.mono hcall ?_ ; rintro r6 H6 hr6 ; obtain ⟨x62, x63, H5, rfl, hst5, e5, w5, hv5, hc5, e6, w6, hH5⟩ := way_ok r_A (by omega) g_A_0 hI.lt e_C hr6 ; have e6x := e6 ; rw [x_C] at e6x ; rw [← hval] at hv5 ; obtain ⟨a9, c9, H9, happ, hI9⟩ := hI.push ht (by omega) (by omega) e5 w5 hop hp8 hm0 hfit hv5 ; dsimp only at happ hI9 ; rw [htk] at happ hI9)
        | (refine Outs.intro ⟨_, _, _, hst5, ?_⟩)
        | (refine ⟨_, hc5, ?_⟩)
        | (refine ⟨_, hbs _ _ _, ?_⟩)
        | (refine Outs.intro ⟨_, _, _, happ, ?_⟩)
        | (refine Need.intro (draw_of (by simp only [effAll, lookAll, and_true]; rw [hH5]; exact ⟨cellsAt_set (by first | omega | (simp; done) | (simp; omega)), look_ext e6x (by first | omega | (simp; done) | (simp; omega)), look_ext (Ext.push _ _) (by first | omega | (simp; done) | (simp; omega))⟩)) ?_)
        | (refine Need.intro (DrawP.intro (by kernel_rfl)) ?_)
        | fail)
      all_goals (conv => whnf)
      have hln : (xs.take (xs.length - 1) ++ [([.slice none 0 0, x62, x63] : List Value)]).length = xs.length - 1 + 1 := by rw [List.length_append, List.length_take, Nat.min_eq_left (by omega)]; rfl
      exact ⟨(k + 1, _, a9, c9), ⟨rfl, rfl, rfl, by dsimp only; rw [hln]; rfl, rfl, rfl, trivial⟩, ⟨_, _, hI9⟩, by dsimp only; omega⟩
    by_cases hc20 : op = 20
    · subst hc20
      have htk : takesF 20 = 1 := rfl
      obtain ⟨x0, m0, hx0, hm0x, hv0, b0, o0, st0, hoff, hcx0⟩ := hel 0 (by omega)
      rw [hd1 m0 htk hm0x] at hkd
      have hkd : m0.path = false := by simpa [fitK] using hkd
      have hval : valF n t ⟨20, p⟩ (sms.drop (xs.length - takesF 20)) = .way (fun s => twoF n 11 m0.pl s) (fun s => twoF n 11 m0.pl s) := by
        unfold valF; dsimp only; rw [hm0x]; rfl
      obtain ⟨x1, x2, x3, rfl⟩ : ∃ x1 x2 x3, x0 = [x1, x2, x3] := by
        have := hv0.len.1
        match x0, this with
        | [x1, x2, x3], _ => exact ⟨_, _, _, rfl⟩
      have hone : allOne [x1, x2, x3] = true := by
        have h1 := hv0.len.2
        exact h1
      obtain ⟨C, h_C⟩ : ∃ X, X = (A.push (.cells [x1, x2, x3] (rowV 71 3) true)) := ⟨_, rfl⟩
      have n_C : C.next = A.next + 1 := by rw [h_C]; rfl
      have e_C : Ext A C := by rw [h_C]; exact (⟨by first | (simp; done) | (simp; omega), fun b hb => by (simp only [AHeap.get_push, AHeap.get_set, AHeap.next_push, AHeap.next_set]; repeat rw [if_neg (by omega)])⟩)
      have r_C : Ext H1 C := by rw [h_C]; exact (r_A.trans (Ext.push _ _))
      have w_C : Wf C := by rw [h_C]; exact (fun b hb => by (simp only [AHeap.get_push, AHeap.get_set, AHeap.next_push, AHeap.next_set] at hb ⊢; repeat rw [if_neg (by omega)]); exact w_A b (by omega))
      have g_C_0 : C.get (A.next) = some (.cells [x1, x2, x3] (rowV 71 3) true) := by rw [h_C]; exact (by (simp only [AHeap.get_push, AHeap.get_set, AHeap.next_push, AHeap.next_set, if_true]); repeat (first | rw [if_pos rfl] | rw [if_neg (by omega)]))
      have o_C : ∀ b, b < A.next → C.get b = A.get b := e_C.get
      have x_C := h_C
      rw [x_A] at x_C
      rw [n_A, n_T] at g_C_0
      have hrx : xs.drop (xs.length - takesF 20) = [[x1, x2, x3]] := by
        apply List.ext_getElem?
        intro i
        rw [List.getElem?_drop]
        match i with
        | 0 => exact hx0
        | i + 1 => rw [List.getElem?_eq_none (by omega)]; rfl
      have hcopy := appCopy (hrest.ext w1 r_A) (by omega) (by rw [hrx]; exact hone)
      rw [hrx, hoff] at hcopy
      have hkC : SKeep S H1 C := ⟨fun b hb => r_C.get b (hI.lt b hb), r_C.next⟩
      have hSC := SNew.lt (H := A) (H' := C) (S := S) (fun b hb => by have := hI.lt b hb; omega) e_C.next
      have wid : ∀ {v f}, FnV S n H1 v f → FnV (SNew S A C) n C v f := fun h => h.wide hkC (fun b hb => .inl hb) hSC
      have hS0 : SNew S A C (H1.next + 2) := .inr ⟨by omega, by omega⟩
      obtain ⟨ax, cx, hxx, rx, sx⟩ := hv0.at hkd
      cases hxx
      have hc0 := cellAt_of g_C_0 (o := 0) rfl
      have hcall := (ptest_any (SNew S A C) C w_C hSC (ta := ta) (tc := tc) (vb := H1.next + 2) (vo := 0) (vs := some 0) (vn := 1) (vc' := 1) (by omega) hS0 hc0 (rx.ext w1 r_C) (fun b o s e => .inl (sx b o s e)) hn).heap x_C
      have hq1 : xs.length - (xs.length - takesF 20) = 1 := by omega
      rw [hq1] at hcopy hsl
      rw [htk] at hcopy
      rw [x_A] at hcopy
      rw [hoff] at hsl
      rw [htk] at hsl hslt
      rw [x_T] at qT0
      rw [x_A] at qA0 qAa
      repeat' ((conv => whnf); first
        | (refine Both.intro ?_ ?_ <;> intro _ <;> try (exfalso; omega))
        | (refine Need.intro (by omega) ?_)
        | (refine ⟨_, hcell, ?_⟩)
        | (refine Gives.intro ⟨_, zTok, ?_⟩)
        | (refine Outs.intro ⟨_, _, _, storeAgg_ok (vs := [.int .u8 _, .int .u8 _]) (by kernel_rfl) rfl (get_new _ _) rfl, ?_⟩)
        | (refine ⟨_, qT0, ?_⟩)
        | (refine ⟨_, qA0, ?_⟩)
        | (refine ⟨_, qAa, ?_⟩)
        | (refine Gives.intro ⟨_, zVal, ?_⟩)
        | (refine Gives.intro ⟨_, hsl, ?_⟩)
        | (refine Gives.intro ⟨_, hslt, ?_⟩)
        | (refine Outs.intro ⟨_, _, _, hcopy, ?_⟩)
        | (refine Does.mono hcall ?_ ; rintro r6 H6 hr6 ; obtain ⟨x62, x63, H5, rfl, hst5, e5, w5, hv5, hc5, e6, w6, hH5⟩ := way_ok r_A (by omega) g_A_0 hI.lt e_C hr6 ; have e6x := e6 ; rw [x_C] at e6x ; rw [← hval] at hv5 ; obtain ⟨a9, c9, H9, happ, hI9⟩ := hI.push ht (by omega) (by omega) e5 w5 hop hp8 hm0 hfit hv5 ; dsimp only at happ hI9 ; rw [htk] at happ hI9)
        | (refine Outs.intro ⟨_, _, _, hst5, ?_⟩)
        | (refine ⟨_, hc5, ?_⟩)
        | (refine ⟨_, hbs _ _ _, ?_⟩)
        | (refine Outs.intro ⟨_, _, _, happ, ?_⟩)
        | (refine Need.intro (draw_of (by simp only [effAll, lookAll, and_true]; rw [hH5]; exact ⟨cellsAt_set (by first | omega | (simp; done) | (simp; omega)), look_ext e6x (by first | omega | (simp; done) | (simp; omega)), look_ext (Ext.push _ _) (by first | omega | (simp; done) | (simp; omega))⟩)) ?_)
        | (refine Need.intro (DrawP.intro (by kernel_rfl)) ?_)
        | fail)
      all_goals (conv => whnf)
      have hln : (xs.take (xs.length - 1) ++ [([.slice none 0 0, x62, x63] : List Value)]).length = xs.length - 1 + 1 := by rw [List.length_append, List.length_take, Nat.min_eq_left (by omega)]; rfl
      exact ⟨(k + 1, _, a9, c9), ⟨rfl, rfl, rfl, by dsimp only; rw [hln]; rfl, rfl, rfl, trivial⟩, ⟨_, _, hI9⟩, by dsimp only; omega⟩
    by_cases hc21 : op = 21
    · subst hc21
      have htk : takesF 21 = 2 := rfl
      obtain ⟨x0, m0, hx0, hm0x, hv0, b0, o0, st0, hoff, hcx0⟩ := hel 0 (by omega)
      obtain ⟨y0, m1, hy0, hm1x, hv1, b1, o1, st1, hoff1, hcy0⟩ := hel 1 (by omega)
      rw [hoff] at hoff1; cases hoff1
      rw [hd2 m0 m1 htk hm0x hm1x] at hkd
      have hkd : m0.path = true ∧ m1.path = true := by simpa [fitK] using hkd
      have hval : valF n t ⟨21, p⟩ (sms.drop (xs.length - takesF 21)) = .way (fun s => orF (m0.back s) (m1.back s)) (fun s => orF (m0.on s) (m1.on s)) := by
        unfold valF; dsimp only; rw [hm0x, hm1x]; rfl
      obtain ⟨x1, x2, x3, rfl⟩ : ∃ x1 x2 x3, x0 = [x1, x2, x3] := by
        have := hv0.len.1
        match x0, this with
        | [x1, x2, x3], _ => exact ⟨_, _, _, rfl⟩
      obtain ⟨y1, y2, y3, rfl⟩ : ∃ x1 x2 x3, y0 = [x1, x2, x3] := by
        have := hv1.len.1
        match y0, this with
        | [x1, x2, x3], _ => exact ⟨_, _, _, rfl⟩
      have hone : allOne [x1, x2, x3, y1, y2, y3] = true := by
        have h1 := hv0.len.2
        have h2 := hv1.len.2
        simp only [allOne, List.all_cons, List.all_nil, Bool.and_true, Bool.and_eq_true] at h1 h2 ⊢
        exact ⟨h1.1, h1.2.1, h1.2.2, h2.1, h2.2.1, h2.2.2⟩
      obtain ⟨C, h_C⟩ : ∃ X, X = (A.push (.cells [x1, x2, x3, y1, y2, y3] (rowV 71 3) true)) := ⟨_, rfl⟩
      have n_C : C.next = A.next + 1 := by rw [h_C]; rfl
      have e_C : Ext A C := by rw [h_C]; exact (⟨by first | (simp; done) | (simp; omega), fun b hb => by (simp only [AHeap.get_push, AHeap.get_set, AHeap.next_push, AHeap.next_set]; repeat rw [if_neg (by omega)])⟩)
      have r_C : Ext H1 C := by rw [h_C]; exact (r_A.trans (Ext.push _ _))
      have w_C : Wf C := by rw [h_C]; exact (fun b hb => by (simp only [AHeap.get_push, AHeap.get_set, AHeap.next_push, AHeap.next_set] at hb ⊢; repeat rw [if_neg (by omega)]); exact w_A b (by omega))
      have g_C_0 : C.get (A.next) = some (.cells [x1, x2, x3, y1, y2, y3] (rowV 71 3) true) := by rw [h_C]; exact (by (simp only [AHeap.get_push, AHeap.get_set, AHeap.next_push, AHeap.next_set, if_true]); repeat (first | rw [if_pos rfl] | rw [if_neg (by omega)]))
      have o_C : ∀ b, b < A.next → C.get b = A.get b := e_C.get
      have x_C := h_C
      rw [x_A] at x_C
      rw [n_A, n_T] at g_C_0
      have hrx : xs.drop (xs.length - takesF 21) = [[x1, x2, x3], [y1, y2, y3]] := by
        apply List.ext_getElem?
        intro i
        rw [List.getElem?_drop]
        match i with
        | 0 => exact hx0
        | 1 => exact hy0
        | i + 2 => rw [List.getElem?_eq_none (by omega)]; rfl
      have hcopy := appCopy (hrest.ext w1 r_A) (by omega) (by rw [hrx]; exact hone)
      rw [hrx, hoff] at hcopy
      have hkC : SKeep S H1 C := ⟨fun b hb => r_C.get b (hI.lt b hb), r_C.next⟩
      have hSC := SNew.lt (H := A) (H' := C) (S := S) (fun b hb => by have := hI.lt b hb; omega) e_C.next
      have wid : ∀ {v f}, FnV S n H1 v f → FnV (SNew S A C) n C v f := fun h => h.wide hkC (fun b hb => .inl hb) hSC
      have hS0 : SNew S A C (H1.next + 2) := .inr ⟨by omega, by omega⟩
      obtain ⟨vb, vo, hxx, fb, fo⟩ := hv0.way hkd.1
      cases hxx
      obtain ⟨ub, uo, hyy, gb, go⟩ := hv1.way hkd.2
      cases hyy
      have hc0 : cellsAt C (H1.next + 2) (0 + 0 * 3) 3 = some [.slice none 0 0, x2, x3] := by unfold cellsAt; rw [g_C_0]; rfl
      have hc1 : cellsAt C (H1.next + 2) (0 + 1 * 3) 3 = some [.slice none 0 0, y2, y3] := by unfold cellsAt; rw [g_C_0]; rfl
      have hcall := (pplus_any (SNew S A C) C w_C hSC (ta := ta) (tc := tc) (vb := H1.next + 2) (vo := 0) (vs := some 0) (vn := 2) (vc' := 2) (by omega) hc0 hc1 rfl rfl (wid fb) (wid fo) (wid gb) (wid go) hn).heap x_C
      have hq1 : xs.length - (xs.length - takesF 21) = 2 := by omega
      rw [hq1] at hcopy hsl
      rw [htk] at hcopy
      rw [x_A] at hcopy
      rw [hoff] at hsl
      rw [htk] at hsl hslt
      rw [x_T] at qT0
      rw [x_A] at qA0 qAa
      repeat' ((conv => whnf); first
        | (refine Both.intro ?_ ?_ <;> intro _ <;> try (exfalso; omega))
        | (refine Need.intro (by omega) ?_)
        | (refine ⟨_, hcell, ?_⟩)
        | (refine Gives.intro ⟨_, zTok, ?_⟩)
        | (refine Outs.intro ⟨_, _, _, storeAgg_ok (vs := [.int .u8 _, .int .u8 _]) (by kernel_rfl) rfl (get_new _ _) rfl, ?_⟩)
        | (refine ⟨_, qT0, ?_⟩)
        | (refine ⟨_, qA0, ?_⟩)
        | (refine ⟨_, qAa, ?_⟩)
        | (refine Gives.intro ⟨_, zVal, ?_⟩)
        | (refine Gives.intro ⟨_, hsl, ?_⟩)
        | (refine Gives.intro ⟨_, hslt, ?_⟩)
        | (refine Outs.intro ⟨_, _, _, hcopy, ?_⟩)
        | (refine Does.mono hcall ?_ ; rintro r6 H6 hr6 ; obtain ⟨x62, x63, H5, rfl, hst5, e5, w5, hv5, hc5, e6, w6, hH5⟩ := way_ok r_A (by omega) g_A_0 hI.lt e_C hr6 ; have e6x := e6 ; rw [x_C] at e6x ; rw [← hval] at hv5 ; obtain ⟨a9, c9, H9, happ, hI9⟩ := hI.push ht (by omega) (by omega) e5 w5 hop hp8 hm0 hfit hv5 ; dsimp only at happ hI9 ; rw [htk] at happ hI9)
        | (refine Outs.intro ⟨_, _, _, hst5, ?_⟩)
        | (refine ⟨_, hc5, ?_⟩)
        | (refine ⟨_, hbs _ _ _, ?_⟩)
        | (refine Outs.intro ⟨_, _, _, happ, ?_⟩)
        | (refine Need.intro (draw_of (by simp only [effAll, lookAll, and_true]; rw [hH5]; exact ⟨cellsAt_set (by first | omega | (simp; done) | (simp; omega)), look_ext e6x (by first | omega | (simp; done) | (simp; omega)), look_ext (Ext.push _ _) (by first | omega | (simp; done) | (simp; omega))⟩)) ?_)
        | (refine Need.intro (DrawP.intro (by kernel_rfl)) ?_)
        | fail)
      all_goals (conv => whnf)
      have hln : (xs.take (xs.length - 2) ++ [([.slice none 0 0, x62, x63] : List Value)]).length = xs.length - 2 + 1 := by rw [List.length_append, List.length_take, Nat.min_eq_left (by omega)]; rfl
      exact ⟨(k + 1, _, a9, c9), ⟨rfl, rfl, rfl, by dsimp only; rw [hln]; rfl, rfl, rfl, trivial⟩, ⟨_, _, hI9⟩, by dsimp only; omega⟩
    by_cases hc22 : op = 22
    · subst hc22
      have htk : takesF 22 = 2 := rfl
      obtain ⟨x0, m0, hx0, hm0x, hv0, b0, o0, st0, hoff, hcx0⟩ := hel 0 (by omega)
      obtain ⟨y0, m1, hy0, hm1x, hv1, b1, o1, st1, hoff1, hcy0⟩ := hel 1 (by omega)
      rw [hoff] at hoff1; cases hoff1
      rw [hd2 m0 m1 htk hm0x hm1x] at hkd
      have hkd : m0.path = true ∧ m1.path = true := by simpa [fitK] using hkd
      have hval : valF n t ⟨22, p⟩ (sms.drop (xs.length - takesF 22)) = .way (fun s => m0.back (m1.back s)) (fun s => m1.on (m0.on s)) := by
        unfold valF; dsimp only; rw [hm0x, hm1x]; rfl
      obtain ⟨x1, x2, x3, rfl⟩ : ∃ x1 x2 x3, x0 = [x1, x2, x3] := by
        have := hv0.len.1
        match x0, this with
        | [x1, x2, x3], _ => exact ⟨_, _, _, rfl⟩
      obtain ⟨y1, y2, y3, rfl⟩ : ∃ x1 x2 x3, y0 = [x1, x2, x3] := by
        have := hv1.len.1
        match y0, this with
        | [x1, x2, x3], _ => exact ⟨_, _, _, rfl⟩
      have hone : allOne [x1, x2, x3, y1, y2, y3] = true := by
        have h1 := hv0.len.2
        have h2 := hv1.len.2
        simp only [allOne, List.all_cons, List.all_nil, Bool.and_true, Bool.and_eq_true] at h1 h2 ⊢
        exact ⟨h1.1, h1.2.1, h1.2.2, h2.1, h2.2.1, h2.2.2⟩
      obtain ⟨C, h_C⟩ : ∃ X, X = (A.push (.cells [x1, x2, x3, y1, y2, y3] (rowV 71 3) true)) := ⟨_, rfl⟩
      have n_C : C.next = A.next + 1 := by rw [h_C]; rfl
      have e_C : Ext A C := by rw [h_C]; exact (⟨by first | (simp; done) | (simp; omega), fun b hb => by (simp only [AHeap.get_push, AHeap.get_set, AHeap.next_push, AHeap.next_set]; repeat rw [if_neg (by omega)])⟩)
      have r_C : Ext H1 C := by rw [h_C]; exact (r_A.trans (Ext.push _ _))
      have w_C : Wf C := by rw [h_C]; exact (fun b hb => by (simp only [AHeap.get_push, AHeap.get_set, AHeap.next_push, AHeap.next_set] at hb ⊢; repeat rw [if_neg (by omega)]); exact w_A b (by omega))
      have g_C_0 : C.get (A.next) = some (.cells [x1, x2, x3, y1, y2, y3] (rowV 71 3) true) := by rw [h_C]; exact (by (simp only [AHeap.get_push, AHeap.get_set, AHeap.next_push, AHeap.next_set, if_true]); repeat (first | rw [if_pos rfl] | rw [if_neg (by omega)]))
      have o_C : ∀ b, b < A.next → C.get b = A.get b := e_C.get
      have x_C := h_C
      rw [x_A] at x_C
      rw [n_A, n_T] at g_C_0
      have hrx : xs.drop (xs.length - takesF 22) = [[x1, x2, x3], [y1, y2, y3]] := by
        apply List.ext_getElem?
        intro i
        rw [List.getElem?_drop]
        match i with
        | 0 => exact hx0
        | 1 => exact hy0
        | i + 2 => rw [List.getElem?_eq_none (by omega)]; rfl
      have hcopy := appCopy (hrest.ext w1 r_A) (by omega) (by rw [hrx]; exact hone)
      rw [hrx, hoff] at hcopy
      have hkC : SKeep S H1 C := ⟨fun b hb => r_C.get b (hI.lt b hb), r_C.next⟩
      have hSC := SNew.lt (H := A) (H' := C) (S := S) (fun b hb => by have := hI.lt b hb; omega) e_C.next
      have wid : ∀ {v f}, FnV S n H1 v f → FnV (SNew S A C) n C v f := fun h => h.wide hkC (fun b hb => .inl hb) hSC
      have hS0 : SNew S A C (H1.next + 2) := .inr ⟨by omega, by omega⟩
      obtain ⟨vb, vo, hxx, fb, fo⟩ := hv0.way hkd.1
      cases hxx
      obtain ⟨ub, uo, hyy, gb, go⟩ := hv1.way hkd.2
      cases hyy
      have hc0 : cellsAt C (H1.next + 2) (0 + 0 * 3) 3 = some [.slice none 0 0, x2, x3] := by unfold cellsAt; rw [g_C_0]; rfl
      have hc1 : cellsAt C (H1.next + 2) (0 + 1 * 3) 3 = some [.slice none 0 0, y2, y3] := by unfold cellsAt; rw [g_C_0]; rfl
      have hcall := (pseq_any (SNew S A C) C w_C hSC (ta := ta) (tc := tc) (vb := H1.next + 2) (vo := 0) (vs := some 0) (vn := 2) (vc' := 2) (by omega) hc0 hc1 rfl rfl (wid fb) (wid fo) (wid gb) (wid go) hn).heap x_C
      have hq1 : xs.length - (xs.length - takesF 22) = 2 := by omega
      rw [hq1] at hcopy hsl
      rw [htk] at hcopy
      rw [x_A] at hcopy
      rw [hoff] at hsl
      rw [htk] at hsl hslt
      rw [x_T] at qT0
      rw [x_A] at qA0 qAa
      repeat' ((conv => whnf); first
        | (refine Both.intro ?_ ?_ <;> intro _ <;> try (exfalso; omega))
        | (refine Need.intro (by omega) ?_)
        | (refine ⟨_, hcell, ?_⟩)
        | (refine Gives.intro ⟨_, zTok, ?_⟩)
        | (refine Outs.intro ⟨_, _, _, storeAgg_ok (vs := [.int .u8 _, .int .u8 _]) (by kernel_rfl) rfl (get_new _ _) rfl, ?_⟩)
        | (refine ⟨_, qT0, ?_⟩)
        | (refine ⟨_, qA0, ?_⟩)
        | (refine ⟨_, qAa, ?_⟩)
        | (refine Gives.intro ⟨_, zVal, ?_⟩)
        | (refine Gives.intro ⟨_, hsl, ?_⟩)
        | (refine Gives.intro ⟨_, hslt, ?_⟩)
        | (refine Outs.intro ⟨_, _, _, hcopy, ?_⟩)
        | (refine Does.mono hcall ?_ ; rintro r6 H6 hr6 ; obtain ⟨x62, x63, H5, rfl, hst5, e5, w5, hv5, hc5, e6, w6, hH5⟩ := way_ok r_A (by omega) g_A_0 hI.lt e_C hr6 ; have e6x := e6 ; rw [x_C] at e6x ; rw [← hval] at hv5 ; obtain ⟨a9, c9, H9, happ, hI9⟩ := hI.push ht (by omega) (by omega) e5 w5 hop hp8 hm0 hfit hv5 ; dsimp only at happ hI9 ; rw [htk] at happ hI9)
        | (refine Outs.intro ⟨_, _, _, hst5, ?_⟩)
        | (refine ⟨_, hc5, ?_⟩)
        | (refine ⟨_, hbs _ _ _, ?_⟩)
        | (refine Outs.intro ⟨_, _, _, happ, ?_⟩)
        | (refine Need.intro (draw_of (by simp only [effAll, lookAll, and_true]; rw [hH5]; exact ⟨cellsAt_set (by first | omega | (simp; done) | (simp; omega)), look_ext e6x (by first | omega | (simp; done) | (simp; omega)), look_ext (Ext.push _ _) (by first | omega | (simp; done) | (simp; omega))⟩)) ?_)
        | (refine Need.intro (DrawP.intro (by kernel_rfl)) ?_)
        | fail)
      all_goals (conv => whnf)
      have hln : (xs.take (xs.length - 2) ++ [([.slice none 0 0, x62, x63] : List Value)]).length = xs.length - 2 + 1 := by rw [List.length_append, List.length_take, Nat.min_eq_left (by omega)]; rfl
      exact ⟨(k + 1, _, a9, c9), ⟨rfl, rfl, rfl, by dsimp only; rw [hln]; rfl, rfl, rfl, trivial⟩, ⟨_, _, hI9⟩, by dsimp only; omega⟩
    by_cases hc23 : op = 23
    · subst hc23
      have htk : takesF 23 = 1 := rfl
      obtain ⟨x0, m0, hx0, hm0x, hv0, b0, o0, st0, hoff, hcx0⟩ := hel 0 (by omega)
      rw [hd1 m0 htk hm0x] at hkd
      have hkd : m0.path = true := by simpa [fitK] using hkd
      have hval : valF n t ⟨23, p⟩ (sms.drop (xs.length - takesF 23)) = .way (fun s => grF (n + 1) m0.back (n + 2) s) (fun s => grF (n + 1) m0.on (n + 2) s) := by
        unfold valF; dsimp only; rw [hm0x]; rfl
      obtain ⟨x1, x2, x3, rfl⟩ : ∃ x1 x2 x3, x0 = [x1, x2, x3] := by
        have := hv0.len.1
        match x0, this with
        | [x1, x2, x3], _ => exact ⟨_, _, _, rfl⟩
      have hone : allOne [x1, x2, x3] = true := by
        have h1 := hv0.len.2
        exact h1
      obtain ⟨C, h_C⟩ : ∃ X, X = (A.push (.cells [x1, x2, x3] (rowV 71 3) true)) := ⟨_, rfl⟩
      have n_C : C.next = A.next + 1 := by rw [h_C]; rfl
      have e_C : Ext A C := by rw [h_C]; exact (⟨by first | (simp; done) | (simp; omega), fun b hb => by (simp only [AHeap.get_push, AHeap.get_set, AHeap.next_push, AHeap.next_set]; repeat rw [if_neg (by omega)])⟩)
      have r_C : Ext H1 C := by rw [h_C]; exact (r_A.trans (Ext.push _ _))
      have w_C : Wf C := by rw [h_C]; exact (fun b hb => by (simp only [AHeap.get_push, AHeap.get_set, AHeap.next_push, AHeap.next_set] at hb ⊢; repeat rw [if_neg (by omega)]); exact w_A b (by omega))
      have g_C_0 : C.get (A.next) = some (.cells [x1, x2, x3] (rowV 71 3) true) := by rw [h_C]; exact (by (simp only [AHeap.get_push, AHeap.get_set, AHeap.next_push, AHeap.next_set, if_true]); repeat (first | rw [if_pos rfl] | rw [if_neg (by omega)]))
      have o_C : ∀ b, b < A.next → C.get b = A.get b := e_C.get
      have x_C := h_C
      rw [x_A] at x_C
      rw [n_A, n_T] at g_C_0
      have hrx : xs.drop (xs.length - takesF 23) = [[x1, x2, x3]] := by
        apply List.ext_getElem?
        intro i
        rw [List.getElem?_drop]
        match i with
        | 0 => exact hx0
        | i + 1 => rw [List.getElem?_eq_none (by omega)]; rfl
      have hcopy := appCopy (hrest.ext w1 r_A) (by omega) (by rw [hrx]; exact hone)
      rw [hrx, hoff] at hcopy
      have hkC : SKeep S H1 C := ⟨fun b hb => r_C.get b (hI.lt b hb), r_C.next⟩
      have hSC := SNew.lt (H := A) (H' := C) (S := S) (fun b hb => by have := hI.lt b hb; omega) e_C.next
      have wid : ∀ {v f}, FnV S n H1 v f → FnV (SNew S A C) n C v f := fun h => h.wide hkC (fun b hb => .inl hb) hSC
      have hS0 : SNew S A C (H1.next + 2) := .inr ⟨by omega, by omega⟩
      obtain ⟨vb, vo, hxx, fb, fo⟩ := hv0.way hkd
      cases hxx
      have hc0 := cellsAt_all (n := 3) g_C_0 rfl
      have hcall := (pstar_any (SNew S A C) C w_C hSC (ta := ta) (tc := tc) (vb := H1.next + 2) (vo := 0) (vs := some 0) (vn := 1) (vc' := 1) (by omega) hc0 rfl (wid fb) (wid fo) hn).heap x_C
      have hq1 : xs.length - (xs.length - takesF 23) = 1 := by omega
      rw [hq1] at hcopy hsl
      rw [htk] at hcopy
      rw [x_A] at hcopy
      rw [hoff] at hsl
      rw [htk] at hsl hslt
      rw [x_T] at qT0
      rw [x_A] at qA0 qAa
      repeat' ((conv => whnf); first
        | (refine Both.intro ?_ ?_ <;> intro _ <;> try (exfalso; omega))
        | (refine Need.intro (by omega) ?_)
        | (refine ⟨_, hcell, ?_⟩)
        | (refine Gives.intro ⟨_, zTok, ?_⟩)
        | (refine Outs.intro ⟨_, _, _, storeAgg_ok (vs := [.int .u8 _, .int .u8 _]) (by kernel_rfl) rfl (get_new _ _) rfl, ?_⟩)
        | (refine ⟨_, qT0, ?_⟩)
        | (refine ⟨_, qA0, ?_⟩)
        | (refine ⟨_, qAa, ?_⟩)
        | (refine Gives.intro ⟨_, zVal, ?_⟩)
        | (refine Gives.intro ⟨_, hsl, ?_⟩)
        | (refine Gives.intro ⟨_, hslt, ?_⟩)
        | (refine Outs.intro ⟨_, _, _, hcopy, ?_⟩)
        | (refine Does.mono hcall ?_ ; rintro r6 H6 hr6 ; obtain ⟨x62, x63, H5, rfl, hst5, e5, w5, hv5, hc5, e6, w6, hH5⟩ := way_ok r_A (by omega) g_A_0 hI.lt e_C hr6 ; have e6x := e6 ; rw [x_C] at e6x ; rw [← hval] at hv5 ; obtain ⟨a9, c9, H9, happ, hI9⟩ := hI.push ht (by omega) (by omega) e5 w5 hop hp8 hm0 hfit hv5 ; dsimp only at happ hI9 ; rw [htk] at happ hI9)
        | (refine Outs.intro ⟨_, _, _, hst5, ?_⟩)
        | (refine ⟨_, hc5, ?_⟩)
        | (refine ⟨_, hbs _ _ _, ?_⟩)
        | (refine Outs.intro ⟨_, _, _, happ, ?_⟩)
        | (refine Need.intro (draw_of (by simp only [effAll, lookAll, and_true]; rw [hH5]; exact ⟨cellsAt_set (by first | omega | (simp; done) | (simp; omega)), look_ext e6x (by first | omega | (simp; done) | (simp; omega)), look_ext (Ext.push _ _) (by first | omega | (simp; done) | (simp; omega))⟩)) ?_)
        | (refine Need.intro (DrawP.intro (by kernel_rfl)) ?_)
        | fail)
      all_goals (conv => whnf)
      have hln : (xs.take (xs.length - 1) ++ [([.slice none 0 0, x62, x63] : List Value)]).length = xs.length - 1 + 1 := by rw [List.length_append, List.length_take, Nat.min_eq_left (by omega)]; rfl
      exact ⟨(k + 1, _, a9, c9), ⟨rfl, rfl, rfl, by dsimp only; rw [hln]; rfl, rfl, rfl, trivial⟩, ⟨_, _, hI9⟩, by dsimp only; omega⟩
    omega
  · have hkle := hI.kle
    obtain rfl : k = m := by omega
    have hks := hI.kd
    have hev := hI.ev
    rw [List.take_of_length_le (by omega)] at hks hev
    rw [hks] at hk
    simp only [Option.some.injEq] at hk
    have hl1 : sms.length = 1 := by have := congrArg List.length hk; simpa using this
    obtain ⟨mm, rfl⟩ := List.length_eq_one_iff.1 hl1
    have hx1 : xs.length = 1 := by rw [hI.len]; rfl
    obtain ⟨x, rfl⟩ := List.length_eq_one_iff.1 hx1
    have hv := hI.val 0 x mm rfl rfl
    obtain ⟨b, o, st, rfl, hc⟩ := hI.st.row.cell 0 x rfl
    have gz := (hI.e.get H.next (by omega)).trans g_Z_0
    obtain ⟨x1, x2, x3, rfl⟩ : ∃ x1 x2 x3, x = [x1, x2, x3] := by
      have := hv.len.1
      match x, this with
      | [x1, x2, x3], _ => exact ⟨_, _, _, rfl⟩
    have hst := storeAgg_ok (P := Try.prog) (t := 71) (vs := [x1, x2, x3]) (by kernel_rfl) hv.len.2 gz rfl
    repeat' ((conv => whnf); first
      | (refine Both.intro ?_ ?_ <;> intro _ <;> try (exfalso; omega))
      | (refine Need.intro (by omega) ?_)
      | (refine ⟨_, hc, ?_⟩)
      | (refine Outs.intro ⟨_, _, _, hst, ?_⟩)
      | (refine ⟨_, cellsAt_all (n := 3) (by rw [AHeap.get_set, if_pos rfl]) rfl, ?_⟩)
      | fail)
    all_goals (conv => whnf)
    have hlt0 : H.next < Z.next := by omega
    refine ⟨[x1, x2, x3], S, mm, rfl, rfl, ?_, hev, by simpa using hk, hI.lt, (e_Z.trans hI.e).set (Nat.le_refl _) _, hI.w.set gz _⟩
    exact hv.wide ⟨fun b hb => (get_set_ne (fun e => by have := hI.ge b hb; omega)).symm, Nat.le_refl _⟩ (fun b hb => hb) hI.lt
end Go.AX.Try
