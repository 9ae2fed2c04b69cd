/- Find and Keep. -/
import Derived.Test.YtgbclgkadlfejaaLItems
namespace Go.AX.Try
open Go Go.AX Go.AX.Lw Go.Proofs
set_option linter.unusedVariables false
set_option maxRecDepth 100000
def findR (items : List It) (ts : List Tk) : Int × Bool := if checkF ts ≠ 0 then (0, false) else ((itemsGo findF ts [] items).1, (itemsGo findF ts [] items).2.1)
theorem findF_items (items : List It) (x : It) : (findF items x).2.2 = items := by unfold findF; split <;> rfl
theorem itemsGo_find : ∀ (ts : List Tk) (stk : List Int) (items : List It), (itemsGo findF ts stk items).2.2 = items
  | [], _, _ => rfl
  | t :: r, stk, items => by
    simp only [itemsGo, findF_items]
    split
    · exact itemsGo_find r _ items
    · rfl
theorem boxed {H0 H : AHeap} (hw : Wf H) {T M : Nat} {items : List It} (ht : Tab H0 H T M items) :
    Tab H0 (H.push (.cells [.pointer (some ⟨T, 0, none⟩)] 0 true)) T M items ∧ (H.push (.cells [.pointer (some ⟨T, 0, none⟩)] 0 true)).get H.next = some (.cells [.pointer (some ⟨T, 0, none⟩)] 0 true) ∧ H.next ≠ T ∧ H.next ≠ M ∧ ¬ TabB (H.push (.cells [.pointer (some ⟨T, 0, none⟩)] 0 true)) T H.next := by
  have h := ht.lt2 hw
  refine ⟨ht.ext hw (Ext.push _ _), get_new _ _, by omega, by omega, ?_⟩
  rintro ⟨o, s, n, c, x, hx⟩
  rw [(Ext.push H _).get T h.1] at hx
  have := (TabB.lt ht hw ⟨o, s, n, c, x, hx⟩).1
  omega
theorem find_any (H0 H : AHeap) (hw : Wf H) (hwf0 : Wf H0) (T M : Nat) (items : List It) (ht : Tab H0 H T M items) (a : Option Addr) (n c : Nat) (ts : List Tk) (hr : RowS H0 a n c 2 (ts.map Tk.cells)) (hn : n ≤ 2 ^ 40) :
    Does Try.prog orc 27 [.pointer (some ⟨T, 0, none⟩), .slice a n c] H fun r H' => r = .ret (.tuple #[.int .i64 (findR items ts).1, .bool (findR items ts).2]) ∧ Tab H0 H' T M items ∧ Wf H' ∧ TFr H H' T M := by
  refine (Does.wf (Q := fun r H' => r = .ret (.tuple #[.int .i64 (findR items ts).1, .bool (findR items ts).2]) ∧ Tab H0 H' T M items ∧ TFr H H' T M) ?_ hw).mono fun r H' ⟨⟨h1, h2, h3⟩, h4⟩ => ⟨h1, h2, h4, h3⟩
  obtain ⟨hTl, hMl⟩ := ht.lt2 hw
  obtain ⟨ht1, hB1, hBT, hBM, hBt⟩ := boxed hw ht
  have w1 := hw.push (.cells [.pointer (some ⟨T, 0, none⟩)] 0 true)
  have e1 := Ext.push H (.cells [.pointer (some ⟨T, 0, none⟩)] 0 true)
  obtain ⟨ta, tc, hg1, _⟩ := ht1.tab
  have qB := cellAt_of hB1 (o := 0) (v := .pointer (some ⟨T, 0, none⟩)) rfl
  have hck := check_any _ w1 a n c ts (hr.ext hwf0 ht1.base) (by omega)
  refine Does.of Try.func27 (fun _ _ => rfl) rfl ?_
  by_cases hc : checkF ts = 0
  · have hq : findR items ts = ((itemsGo findF ts [] items).1, (itemsGo findF ts [] items).2.1) := by unfold findR; rw [if_neg (by simp [hc])]
    rw [hq]
    rw [hc] at hck
    repeat' ((conv => whnf); first
      | (refine Both.intro ?_ ?_ <;> intro _ <;> try (exfalso; omega))
      | (refine Need.intro (by omega) ?_)
      | (refine ⟨_, qB, ?_⟩)
      | (refine Does.mono (none_any _ T M hg1) ?_ ; rintro _ _ ⟨rfl, rfl⟩)
      | (refine Does.mono hck ?_ ; rintro _ H2 ⟨rfl, e2, w2⟩)
      | fail)
    all_goals (conv => whnf)
    have hit := items_any H0 H2 w2 T M H.next _ _ (find_clo H0 T M H.next) items (ht1.ext w1 e2) ((e2.get _ (by simp)).trans hB1) hBT hBM (fun ⟨o, s, n, c, x, hx⟩ => hBt ⟨o, s, n, c, x, by rw [← e2.get T (by simp; omega)]; exact hx⟩) hwf0 a n c ts hr hn (fits_check hc)
    repeat' ((conv => whnf); first
      | (refine Both.intro ?_ ?_ <;> intro _ <;> try (exfalso; omega))
      | (refine Need.intro (by omega) ?_)
      | (refine Does.mono hit ?_ ; rintro _ H3 ⟨rfl, ht3, w3, fr3⟩)
      | fail)
    all_goals (conv => whnf)
    rw [itemsGo_find] at ht3
    exact ⟨rfl, ht3, (TFr.of_ext hTl (e1.trans e2)).trans fr3⟩
  · have hq : findR items ts = (0, false) := by unfold findR; rw [if_pos hc]
    rw [hq]
    repeat' ((conv => whnf); first
      | (refine Both.intro ?_ ?_ <;> intro _ <;> try (exfalso; omega))
      | (refine Need.intro (by omega) ?_)
      | (refine ⟨_, qB, ?_⟩)
      | (refine Does.mono (none_any _ T M hg1) ?_ ; rintro _ _ ⟨rfl, rfl⟩)
      | (refine Does.mono hck ?_ ; rintro _ H2 ⟨rfl, e2, w2⟩)
      | fail)
    all_goals (conv => whnf)
    exact ⟨rfl, ht1.ext w1 e2, TFr.of_ext hTl (e1.trans e2)⟩
def keepR (items : List It) (ts : List Tk) : Int × Nat × List It :=
  if checkF ts ≠ 0 then (0, checkF ts, items) else
  if (itemsGo keepF ts [] items).2.1 then ((itemsGo keepF ts [] items).1, 0, (itemsGo keepF ts [] items).2.2) else (0, 3, items)
theorem keepF_pre (items : List It) (x : It) : items <+: (keepF items x).2.2 := by
  unfold keepF
  split
  · exact List.prefix_refl _
  · split
    · exact List.prefix_refl _
    · exact List.prefix_append _ _
theorem itemsGo_pre : ∀ (ts : List Tk) (stk : List Int) (items : List It), items <+: (itemsGo keepF ts stk items).2.2
  | [], _, items => List.prefix_refl _
  | t :: r, stk, items => by
    simp only [itemsGo]
    split
    · exact (keepF_pre _ _).trans (itemsGo_pre r _ _)
    · exact keepF_pre _ _
theorem keepF_len (items : List It) (x : It) : (keepF items x).2.2.length ≤ items.length + 1 := by
  unfold keepF
  split
  · simp
  · split <;> simp
theorem itemsGo_len : ∀ (ts : List Tk) (stk : List Int) (items : List It), (itemsGo keepF ts stk items).2.2.length ≤ items.length + ts.length
  | [], _, items => by simp [itemsGo]
  | t :: r, stk, items => by
    simp only [itemsGo]
    split
    · have := itemsGo_len r (stk.take (stk.length - takesT t.op) ++ [(keepF items (mkIt t (stk.drop (stk.length - takesT t.op)))).1]) (keepF items (mkIt t (stk.drop (stk.length - takesT t.op)))).2.2
      have h2 := keepF_len items (mkIt t (stk.drop (stk.length - takesT t.op)))
      simp only [List.length_cons]; omega
    · have h2 := keepF_len items (mkIt t (stk.drop (stk.length - takesT t.op)))
      simp only [List.length_cons]; omega
theorem erase_ent : ∀ (es : List (It × Nat)) (j : Nat), eraseAt (es.map ent) j = (es.eraseIdx j).map ent
  | [], _ => rfl
  | e :: r, 0 => rfl
  | e :: r, j + 1 => by simp only [List.map_cons, eraseAt, List.eraseIdx_cons_succ, erase_ent r j]
theorem del_ok {H : AHeap} {M : Nat} {es : List (It × Nat)} (hg : H.get M = some (.map (es.map ent))) (hn : (es.map (·.1)).Nodup) {x : It} {v : Nat} (h : (x, v) ∈ es) :
    ∃ es' : List (It × Nat), aDelete Try.prog H #[74, 54] [.map (some M), .agg x.cells.toArray] = some (.val undef (H.set M (.map (es'.map ent))) (.eff H (H.set M (.map (es'.map ent))))) ∧ (es'.map (·.1)).Nodup ∧ ∀ y u, (y, u) ∈ es' ↔ (y, u) ∈ es ∧ y ≠ x := by
  obtain ⟨j, hj, hj'⟩ := findE_some (i := 0) h hn
  rw [Nat.zero_add] at hj
  refine ⟨es.eraseIdx j, ?_, ?_, ?_⟩
  · unfold aDelete
    have h0 : (#[74, 54] : Array TypeId)[0]? = some 74 := rfl
    simp only [h0, map_ty, it_chk, cond_true, hg, findA_it, hj, Option.map_some, erase_ent]
  · exact hn.sublist (List.Sublist.map _ (List.eraseIdx_sublist _ _))
  · intro y u
    rw [List.mem_eraseIdx_iff_getElem?]
    constructor
    · rintro ⟨i, hi, hy⟩
      refine ⟨List.mem_of_getElem? hy, fun hyx => hi ?_⟩
      subst hyx
      have a1 : (es.map (·.1))[i]? = some y := by rw [List.getElem?_map, hy]; rfl
      have a2 : (es.map (·.1))[j]? = some y := by rw [List.getElem?_map, hj']; rfl
      exact (List.getElem?_inj (List.getElem?_eq_some_iff.1 a1).1 hn).1 (a1.trans a2.symm)
    · rintro ⟨hy, hne⟩
      obtain ⟨i, hi⟩ := List.mem_iff_getElem?.1 hy
      refine ⟨i, fun hij => hne ?_, hi⟩
      subst hij
      rw [hi] at hj'
      simp at hj'
      exact hj'.1
theorem tabB_fn {H : AHeap} {T b : Nat} {a : Option Addr} {n c : Nat} {x : Value} (hg : H.get T = some (.cells [.slice a n c, x] 0 true)) (h : TabB H T b) : ∃ o s, a = some ⟨b, o, s⟩ := by
  obtain ⟨o, s, n', c', y, hx⟩ := h
  rw [hg] at hx
  simp only [Option.some.injEq, AObj.cells.injEq, List.cons.injEq, Value.slice.injEq] at hx
  exact ⟨o, s, hx.1.1.1⟩
theorem keep_any (H0 H : AHeap) (hw : Wf H) (hwf0 : Wf H0) (T M : Nat) (items : List It) (ht : Tab H0 H T M items) (hit5 : items.length ≤ 2 ^ 40) (a : Option Addr) (n c : Nat) (ts : List Tk) (hr : RowS H0 a n c 2 (ts.map Tk.cells)) (hn : n ≤ 2 ^ 40) :
    Does Try.prog orc 25 [.pointer (some ⟨T, 0, none⟩), .slice a n c] H fun r H' => r = .ret (.tuple #[.int .i64 (keepR items ts).1, .int .i64 (keepR items ts).2.1]) ∧ Tab H0 H' T M (keepR items ts).2.2 ∧ Wf H' ∧ TFr H H' T M := by
  refine (Does.wf (Q := fun r H' => r = .ret (.tuple #[.int .i64 (keepR items ts).1, .int .i64 (keepR items ts).2.1]) ∧ Tab H0 H' T M (keepR items ts).2.2 ∧ TFr H H' T M) ?_ hw).mono fun r H' ⟨⟨h1, h2, h3⟩, h4⟩ => ⟨h1, h2, h4, h3⟩
  obtain ⟨hTl, hMl⟩ := ht.lt2 hw
  obtain ⟨ht1, hB1, hBT, hBM, hBt⟩ := boxed hw ht
  have w1 := hw.push (.cells [.pointer (some ⟨T, 0, none⟩)] 0 true)
  have e1 := Ext.push H (.cells [.pointer (some ⟨T, 0, none⟩)] 0 true)
  obtain ⟨ta, tc, hg1, _⟩ := ht1.tab
  have qB := cellAt_of hB1 (o := 0) (v := .pointer (some ⟨T, 0, none⟩)) rfl
  have hck := check_any _ w1 a n c ts (hr.ext hwf0 ht1.base) (by omega)
  refine Does.of Try.func25 (fun _ _ => rfl) rfl ?_
  by_cases hc : checkF ts = 0
  · rw [hc] at hck
    repeat' ((conv => whnf); first
      | (refine Both.intro ?_ ?_ <;> intro _ <;> try (exfalso; omega))
      | (refine Need.intro (by omega) ?_)
      | (refine ⟨_, qB, ?_⟩)
      | (refine Does.mono (none_any _ T M hg1) ?_ ; rintro _ _ ⟨rfl, rfl⟩)
      | (refine Does.mono hck ?_ ; rintro _ H2 ⟨rfl, e2, w2⟩)
      | fail)
    all_goals (conv => whnf)
    have hB2 := (e2.get _ (by simp)).trans hB1
    have hT2 := (e2.get T (by simp; omega)).trans hg1
    have ht2 := ht1.ext w1 e2
    have hn2 : H.next < H2.next := by have := e2.next; simp at this; omega
    have hBt2 : ¬ TabB H2 T H.next := fun ⟨o, s, n, c, x, hx⟩ => hBt ⟨o, s, n, c, x, by rw [← e2.get T (by simp; omega)]; exact hx⟩
    have hit := items_any H0 H2 w2 T M H.next _ _ (keep_clo H0 T M H.next) items ht2 hB2 hBT hBM hBt2 hwf0 a n c ts hr hn (fits_check hc)
    have qB2 := cellAt_of hB2 (o := 0) (v := .pointer (some ⟨T, 0, none⟩)) rfl
    have qI2 := cellAt_of hT2 (o := 0) (v := .slice ta items.length tc) rfl
    obtain ⟨q, hq⟩ : ∃ q, q = itemsGo keepF ts [] items := ⟨_, rfl⟩
    have hpre : items <+: q.2.2 := by rw [hq]; exact itemsGo_pre ts [] items
    have hqlen : q.2.2.length ≤ items.length + ts.length := by rw [hq]; exact itemsGo_len ts [] items
    have hk : keepR items ts = if q.2.1 then (q.1, 0, q.2.2) else (0, 3, items) := by unfold keepR; rw [if_neg (by simp [hc]), hq]
    rw [← hq] at hit
    obtain ⟨v, ok, its⟩ := q
    rw [hk]
    cases ok
    · skip
      repeat' ((conv => whnf); first
        | (refine Both.intro ?_ ?_ <;> intro _ <;> try (exfalso; omega))
        | (refine Need.intro (by omega) ?_)
        | (refine ⟨_, qB2, ?_⟩)
        | (refine ⟨_, qI2, ?_⟩)
        | (refine Gives.intro ⟨.pointer (some ⟨_, 0 + 0, none⟩), rfl, ?_⟩)
        | (refine Does.mono hit ?_ ; rintro _ H3 ⟨rfl, ht3, w3, fr3⟩)
        | fail)
      all_goals (conv => whnf)
      dsimp only at hpre ht3 hqlen
      have hlts := hr.len
      simp at hlts
      have hB3 := (fr3.get H.next hn2 hBT hBM hBt2).trans hB2
      obtain ⟨a3, c3, hg3, hs3, ha31, ha32⟩ := ht3.tab
      obtain ⟨es, hm3, hnd3, hes3⟩ := ht3.ents
      obtain ⟨hTl3, hMl3⟩ := ht3.lt2 w3
      have hBl3 := w3.lt hB3
      have hwas : items.length ≤ its.length := hpre.length_le
      have hsc3 := hs3.2.1
      have hrow := hs3.rest (m := items.length) hwas
      have qB3 := cellAt_of hB3 (o := 0) (v := .pointer (some ⟨T, 0, none⟩)) rfl
      have qI3 := cellAt_of hg3 (o := 0) (v := .slice a3 its.length c3) rfl
      have hfr3 : TFr H H3 T M := (TFr.of_ext hTl (e1.trans e2)).trans fr3
      obtain ⟨was, hwase⟩ : ∃ was, was = items.length := ⟨_, rfl⟩
      rw [← hwase] at hwas hrow ⊢
      have hsl : aSlice Try.prog 65 (.slice a3 its.length c3) (some (.int .i64 was)) none none = some (.slice (offA a3 (was * 4)) (its.length - was) (c3 - was)) := slice_from (e := 54) (n := 4) (by kernel_rfl) (by kernel_rfl) hwas hsc3 hs3.spot
      repeat' ((conv => whnf); first
        | (refine Both.intro ?_ ?_ <;> intro _ <;> try (exfalso; omega))
        | (refine Need.intro (by omega) ?_)
        | (refine ⟨_, qB3, ?_⟩)
        | (refine ⟨_, qI3, ?_⟩)
        | (refine Gives.intro ⟨.pointer (some ⟨_, 0 + 0, none⟩), rfl, ?_⟩)
        | (refine Gives.intro ⟨_, hsl, ?_⟩)
        | fail)
      all_goals (conv => whnf)
      obtain ⟨sa, hsa⟩ : ∃ sa, sa = offA a3 (was * 4) := ⟨_, rfl⟩
      have hsaM : ∀ b o s, sa = some ⟨b, o, s⟩ → b ≠ M ∧ b < H3.next := fun b o s h => by
        rw [hsa] at h
        cases a3 with
        | none => cases h
        | some q =>
          obtain ⟨q1, q2, q3⟩ := q
          simp only [offA, Option.map_some, Option.some.injEq, Addr.mk.injEq] at h
          obtain ⟨rfl, _, _⟩ := h
          exact ⟨fun hh => ha32 q2 q3 (by rw [hh]), (hs3.lt w3 rfl).2⟩
      rw [← hsa] at hrow ⊢
      refine Runs.loop (fun k : Nat => [(39, .int .i64 k), (38, .int .i64 ((its.length - was : Nat) : Int)), (37, .slice sa (its.length - was) (c3 - was)), (7, .int .i64 was), (2, .pointer (some ⟨H.next, 0, none⟩))])
        (fun k H' => k ≤ its.length - was ∧ Wf H' ∧ H3.next ≤ H'.next ∧ (∀ b, b < H3.next → b ≠ M → H'.get b = H3.get b) ∧ ∃ es : List (It × Nat), H'.get M = some (.map (es.map ent)) ∧ (es.map (·.1)).Nodup ∧ ∀ x v, (x, v) ∈ es ↔ its[v]? = some x ∧ ¬ (was ≤ v ∧ v < was + k)) (fun k => its.length - was - k) 0
        ⟨rfl, rfl, rfl, rfl, rfl, trivial⟩ ⟨by omega, w3, Nat.le_refl _, fun _ _ _ => rfl, es, hm3, hnd3, fun x v => by rw [hes3]; exact ⟨fun h => ⟨h, by omega⟩, fun h => h.1⟩⟩ ?_
      rintro k H4 ⟨hk4, w4, n4, hget4, es4, hm4, hnd4, hes4⟩
      have hB4 := (hget4 H.next hBl3 hBM).trans hB3
      have hT4 := (hget4 T hTl3 ht.ne).trans hg3
      have hMl4 := w4.lt hm4
      by_cases hlt : k < its.length - was
      · obtain ⟨x, hx⟩ := get_of (l := its) (k := was + k) (by omega)
        obtain ⟨b, o, st, rfl, hcell⟩ := hrow.cell k x.cells (by rw [List.getElem?_drop, List.getElem?_map, hx]; rfl)
        rw [← cellsAt_same (hget4 b (hsaM _ _ _ rfl).2 (hsaM _ _ _ rfl).1)] at hcell
        have hzi : zeroOf Try.prog 54 = some (.agg #[.int .u8 0, .int .u8 0, .int .i64 0, .int .i64 0]) := by kernel_rfl
        have g5 := get_new H4 (.cells [.int .u8 0, .int .u8 0, .int .i64 0, .int .i64 0] (typedV 54) true)
        have hs5 := storeAgg_ok (P := Try.prog) (t := 54) (vs := x.cells) (by kernel_rfl) rfl g5 rfl
        have w5 := (w4.push (.cells [.int .u8 0, .int .u8 0, .int .i64 0, .int .i64 0] (typedV 54) true)).set g5 (.cells x.cells (typedV 54) true)
        have e5 := ((Ext.refl H4).trans (Ext.push H4 (.cells [.int .u8 0, .int .u8 0, .int .i64 0, .int .i64 0] (typedV 54) true))).set (Nat.le_refl _) (.cells x.cells (typedV 54) true)
        have q5 : ((H4.push (.cells [.int .u8 0, .int .u8 0, .int .i64 0, .int .i64 0] (typedV 54) true)).set H4.next (.cells x.cells (typedV 54) true)).get H4.next = some (.cells x.cells (typedV 54) true) := by rw [AHeap.get_set, if_pos rfl]
        obtain ⟨H5, hH5⟩ : ∃ H5, H5 = (H4.push (.cells [.int .u8 0, .int .u8 0, .int .i64 0, .int .i64 0] (typedV 54) true)).set H4.next (.cells x.cells (typedV 54) true) := ⟨_, rfl⟩
        rw [← hH5] at hs5 w5 e5 q5
        have qx := cellsAt_all (n := 4) q5 rfl
        have hB5 := (e5.get _ (by omega)).trans hB4
        have hT5 := (e5.get _ (by omega)).trans hT4
        have hM5 := (e5.get _ hMl4).trans hm4
        have qB5 := cellAt_of hB5 (o := 0) (v := .pointer (some ⟨T, 0, none⟩)) rfl
        have qM5 := cellAt_of hT5 (o := 1) (v := .map (some M)) rfl
        obtain ⟨es6, hdel, hnd6, hes6⟩ := del_ok hM5 hnd4 ((hes4 x (was + k)).2 ⟨hx, by omega⟩)
        repeat' ((conv => whnf); first
          | (refine Both.intro ?_ ?_ <;> intro _ <;> try (exfalso; omega))
          | (refine Need.intro (by omega) ?_)
          | (refine ⟨_, hcell, ?_⟩)
          | (refine Gives.intro ⟨.agg #[.int .u8 _, .int .u8 _, .int .i64 _, .int .i64 _], rfl, ?_⟩)
          | (refine Gives.intro ⟨_, hzi, ?_⟩)
          | (refine Outs.intro ⟨_, _, _, hs5, ?_⟩)
          | (refine ⟨_, qB5, ?_⟩)
          | (refine ⟨_, qM5, ?_⟩)
          | (refine ⟨_, qx, ?_⟩)
          | (refine Gives.intro ⟨.pointer (some ⟨_, 0 + 1, none⟩), rfl, ?_⟩)
          | (refine Outs.intro ⟨_, _, _, hdel, ?_⟩)
          | (refine Need.intro (DrawP.intro (by kernel_rfl)) ?_)
          | fail)
        all_goals (conv => whnf)
        refine ⟨k + 1, ⟨rfl, rfl, rfl, rfl, rfl, trivial⟩, ⟨by omega, w5.set hM5 _, by have := e5.next; simp; omega, fun b hb hbM => ?_, es6, by rw [AHeap.get_set, if_pos rfl], hnd6, fun y u => ?_⟩, by omega⟩
        · rw [AHeap.get_set, if_neg hbM, e5.get b (by omega), hget4 b hb hbM]
        · rw [hes6, hes4]
          constructor
          · rintro ⟨⟨h1, h2⟩, h3⟩
            refine ⟨h1, fun hh => ?_⟩
            have : u = was + k := by omega
            subst this
            rw [h1] at hx
            exact h3 (Option.some.inj hx)
          · rintro ⟨h1, h2⟩
            refine ⟨⟨h1, by omega⟩, fun hh => ?_⟩
            subst hh
            have := ht3.uniq h1 hx
            omega
      · have qB4 := cellAt_of hB4 (o := 0) (v := .pointer (some ⟨T, 0, none⟩)) rfl
        have qI4 := cellAt_of hT4 (o := 0) (v := .slice a3 its.length c3) rfl
        have hst := store_ok (P := Try.prog) (H := H4) (t := 65) (b := T) (o := 0 + 0) (v := .slice a3 was c3) (by kernel_rfl) rfl rfl hT4 (by simp)
        have hsl2 : aSlice Try.prog 65 (.slice a3 its.length c3) none (some (.int .i64 was)) none = some (.slice a3 was c3) := slice_toN (e := 54) (n := 4) (by kernel_rfl) (by kernel_rfl) (by omega)
        repeat' ((conv => whnf); first
          | (refine Both.intro ?_ ?_ <;> intro _ <;> try (exfalso; omega))
          | (refine Need.intro (by omega) ?_)
          | (refine ⟨_, qB4, ?_⟩)
          | (refine ⟨_, qI4, ?_⟩)
          | (refine Gives.intro ⟨.pointer (some ⟨_, 0 + 0, none⟩), rfl, ?_⟩)
          | (refine Gives.intro ⟨_, hsl2, ?_⟩)
          | (refine Outs.intro ⟨_, _, _, hst, ?_⟩)
          | (refine Need.intro (DrawP.intro (by kernel_rfl)) ?_)
          | fail)
        all_goals (conv => whnf)
        have hn34 : H4.next = (H4.set T (.cells [.slice a3 was c3, .map (some M)] 0 true)).next := by simp
        have hitems : its.take was = items := by
          obtain ⟨r, rfl⟩ := hpre
          rw [hwase, List.take_left]
        have hcut := hs3.cut (m := was) hwas
        rw [← List.map_take, hitems] at hcut
        have hget5 : ∀ b, b < H3.next → b ≠ M → b ≠ T → (H4.set T (.cells [.slice a3 was c3, .map (some M)] 0 true)).get b = H3.get b := fun b h1 h2 h3 => by rw [AHeap.get_set, if_neg h3]; exact hget4 b h1 h2
        have hT5 : (H4.set T (.cells [.slice a3 was c3, .map (some M)] 0 true)).get T = some (.cells [.slice a3 was c3, .map (some M)] 0 true) := by rw [AHeap.get_set, if_pos rfl]
        refine ⟨rfl, ⟨⟨a3, c3, ?_, ?_, ha31, ha32⟩, ⟨es4, ?_, hnd4, fun x v => ?_⟩, ht.ne, ht.lt, ?_⟩, ?_, ?_, ?_⟩
        · show _ = some (AObj.cells [.slice a3 items.length c3, .map (some M)] 0 true)
          rw [← hwase]; exact hT5
        · show Stk H0 _ _ 4 a3 items.length c3 (items.map It.cells)
          rw [← hwase]
          refine hcut.same fun b hb => hget5 b (hs3.lt w3 hb).2 (fun hh => ha32 0 (some 0) (by rw [hb, hh])) (fun hh => ha31 0 (some 0) (by rw [hb, hh]))
        · rw [AHeap.get_set, if_neg (Ne.symm ht.ne)]; exact hm4
        · show _ ↔ items[v]? = some x
          rw [hes4, ← hitems, List.getElem?_take]
          constructor
          · rintro ⟨h1, h2⟩
            have := (List.getElem?_eq_some_iff.1 h1).1
            rw [if_pos (by omega)]; exact h1
          · intro h
            split at h
            · exact ⟨h, by omega⟩
            · cases h
        · refine ⟨?_, fun b hb => ?_⟩
          · exact Nat.le_trans ht3.base.next n4
          · have h1 := ht.lt.1
            have h2 := ht.lt.2
            have h3 := ht3.base.next
            exact (hget5 b (by omega) (by omega) (by omega)).trans (ht3.base.get b hb)
        · exact Nat.le_trans hfr3.next n4
        · intro b hb h1 h2 h3
          have := hfr3.next
          exact (hget5 b (by omega) h2 h1).trans (hfr3.get b hb h1 h2 h3)
        · intro b hb h
          obtain ⟨o, s, ha⟩ := tabB_fn hT5 h
          exact hfr3.tabB b hb ⟨o, s, its.length, c3, .map (some M), by rw [hg3, ha]⟩
    · skip
      repeat' ((conv => whnf); first
        | (refine Both.intro ?_ ?_ <;> intro _ <;> try (exfalso; omega))
        | (refine Need.intro (by omega) ?_)
        | (refine ⟨_, qB2, ?_⟩)
        | (refine ⟨_, qI2, ?_⟩)
        | (refine Gives.intro ⟨.pointer (some ⟨_, 0 + 0, none⟩), rfl, ?_⟩)
        | (refine Does.mono hit ?_ ; rintro _ H3 ⟨rfl, ht3, w3, fr3⟩)
        | fail)
      all_goals (conv => whnf)
      exact ⟨rfl, ht3, (TFr.of_ext hTl (e1.trans e2)).trans fr3⟩
  · have hq : keepR items ts = (0, checkF ts, items) := by unfold keepR; rw [if_pos hc]
    rw [hq]
    repeat' ((conv => whnf); first
      | (refine Both.intro ?_ ?_ <;> intro _ <;> try (exfalso; omega))
      | (refine Need.intro (by omega) ?_)
      | (refine ⟨_, qB, ?_⟩)
      | (refine Does.mono (none_any _ T M hg1) ?_ ; rintro _ _ ⟨rfl, rfl⟩)
      | (refine Does.mono hck ?_ ; rintro _ H2 ⟨rfl, e2, w2⟩)
      | fail)
    all_goals (conv => whnf)
    exact ⟨rfl, ht1.ext w1 e2, TFr.of_ext hTl (e1.trans e2)⟩
end Go.AX.Try
