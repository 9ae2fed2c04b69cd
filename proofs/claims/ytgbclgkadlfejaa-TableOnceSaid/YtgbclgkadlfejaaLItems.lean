/- table.items, with any function that finds. -/
import Derived.Test.YtgbclgkadlfejaaLTab
namespace Go.AX.Try
open Go Go.AX Go.AX.Lw Go.Proofs
set_option linter.unusedVariables false
set_option maxRecDepth 100000
def mkIt (t : Tk) (of : List Int) : It :=
  match of with
  | [x] => ⟨t.op, t.p, x, -1⟩
  | [x, y] => ⟨t.op, t.p, x, y⟩
  | _ => ⟨t.op, t.p, -1, -1⟩
def itemsGo (f : List It → It → Int × Bool × List It) : List Tk → List Int → List It → Int × Bool × List It
  | [], stk, items => ((stk[0]?).getD 0, true, items)
  | t :: r, stk, items =>
    if (f items (mkIt t (stk.drop (stk.length - takesT t.op)))).2.1 then
      itemsGo f r (stk.take (stk.length - takesT t.op) ++ [(f items (mkIt t (stk.drop (stk.length - takesT t.op)))).1]) (f items (mkIt t (stk.drop (stk.length - takesT t.op)))).2.2
    else (0, false, (f items (mkIt t (stk.drop (stk.length - takesT t.op)))).2.2)
def Fits : List Tk → Nat → Prop
  | [], d => d = 1
  | t :: r, d => takesT t.op ≤ d ∧ Fits r (d - takesT t.op + 1)
theorem takes_same {t : Tk} {a : List So} (h : (wordF t a).2 = true) : takesT t.op = takesF t.op := by
  have h3 : t.op ≠ 3 ∧ t.op ≠ 9 ∧ t.op ≠ 10 := by
    obtain ⟨op, p⟩ := t
    have h2 : ∀ A B : So × Bool, A.2 = false → B.2 = false → ∀ (c : Prop) [Decidable c], (if c then A else B).2 = false := fun A B ha hb c _ => by split <;> assumption
    have h3 : (wordF ⟨3, p⟩ a).2 = false := h2 _ _ rfl rfl _
    have h9 : (wordF ⟨9, p⟩ a).2 = false := h2 _ _ rfl rfl _
    have h10 : (wordF ⟨10, p⟩ a).2 = false := h2 _ _ rfl rfl _
    refine ⟨?_, ?_, ?_⟩ <;> intro ho <;> dsimp only at ho <;> subst ho
    · rw [h3] at h; cases h
    · rw [h9] at h; cases h
    · rw [h10] at h; cases h
  unfold takesT takesF
  by_cases h1 : t.op ≤ 5
  · rw [if_pos (by omega), if_pos h1]
  · rw [if_neg (by omega), if_neg h1]
    by_cases h2 : t.op = 6 ∨ t.op = 7 ∨ t.op = 8 ∨ t.op = 19 ∨ t.op = 20 ∨ t.op = 23
    · rw [if_pos h2, if_pos (by omega)]
    · rw [if_neg h2, if_neg (by omega)]
theorem fits_of : ∀ (ts : List Tk) (ss : List So) (s : So), ts.foldl stepS (some ss) = some [s] → Fits ts ss.length
  | [], ss, s, h => by simp at h; subst h; rfl
  | t :: r, ss, s, h => by
    simp only [List.foldl_cons] at h
    by_cases h1 : ss.length < takesF t.op
    · simp only [stepS, if_pos h1, foldS_none] at h; cases h
    · simp only [stepS, if_neg h1] at h
      by_cases h2 : (wordF t (ss.drop (ss.length - takesF t.op))).2
      · rw [if_pos h2] at h
        have := fits_of r _ s h
        have e := takes_same h2
        refine ⟨by omega, ?_⟩
        rw [e]
        have hl : (ss.take (ss.length - takesF t.op) ++ [(wordF t (ss.drop (ss.length - takesF t.op))).1]).length = ss.length - takesF t.op + 1 := by rw [List.length_append, List.length_take, Nat.min_eq_left (by omega)]; rfl
        rw [hl] at this
        exact this
      · rw [if_neg h2, foldS_none] at h; cases h
theorem fits_check {ts : List Tk} (h : checkF ts = 0) : Fits ts 0 := by
  unfold checkF at h
  split at h
  · cases h
  · split at h
    · rename_i s hs; exact fits_of ts [] s hs
    · cases h
theorem takesT_le (op : Nat) : takesT op ≤ 2 := by unfold takesT; split <;> (try split) <;> omega
theorem fits_len : ∀ {ts : List Tk} {d : Nat}, Fits ts d → d ≤ ts.length + 1
  | [], d, h => by simp [Fits] at h; simp [h]
  | t :: r, d, h => by
    have := fits_len h.2
    have h2 := takesT_le t.op
    have h1 := h.1
    simp; omega
theorem intTy : AppTyS Try.prog #[43, 43] 3 1 8 where
  t0 := by kernel_rfl
  t1 := by kernel_rfl
  size := by kernel_rfl
  bytes := by kernel_rfl
  pos := by decide
  szp := by decide
  szl := by decide
  zero := ⟨.int .i64 0, by kernel_rfl, rfl⟩
def cI (v : Int) : List Value := [.int .i64 v]
theorem Tab.same {H0 H H' : AHeap} {T M : Nat} {items : List It} (h : Tab H0 H T M items) (hT : H'.get T = H.get T) (hM : H'.get M = H.get M) (hb : ∀ b, TabB H T b → H'.get b = H.get b) (he : Ext H0 H') : Tab H0 H' T M items := by
  obtain ⟨a, c, hg, hs, h1, h2⟩ := h.tab
  obtain ⟨es, hm, hn, hes⟩ := h.ents
  exact ⟨⟨a, c, hT.trans hg, hs.same fun b ha => hb b ⟨0, some 0, items.length, c, .map (some M), by rw [hg, ha]⟩, h1, h2⟩, ⟨es, hM.trans hm, hn, hes⟩, h.ne, h.lt, he⟩
theorem TFr.hi {H H1 H2 : AHeap} {T M : Nat} (h : TFr H H1 T M) (hT : T < H.next) (hn : H1.next ≤ H2.next) (hg : ∀ b, b < H.next → H2.get b = H1.get b) : TFr H H2 T M :=
  ⟨Nat.le_trans h.next hn, fun b hb h1 h2 h3 => (hg b hb).trans (h.get b hb h1 h2 h3), fun b hb ⟨o, s, n, c, x, hx⟩ => h.tabB b hb ⟨o, s, n, c, x, by rw [← hg T hT]; exact hx⟩⟩
theorem TabB.lt {H0 H : AHeap} {T M : Nat} {items : List It} (h : Tab H0 H T M items) (hw : Wf H) {b : Nat} (hb : TabB H T b) : b < H.next ∧ H0.next ≤ b ∧ b ≠ T ∧ b ≠ M := by
  obtain ⟨a, c, hg, hs, h1, h2⟩ := h.tab
  obtain ⟨o, s, n, c', x, hx⟩ := hb
  have h' := hg.symm.trans hx
  simp only [Option.some.injEq, AObj.cells.injEq, List.cons.injEq, Value.slice.injEq] at h'
  obtain ⟨⟨⟨e1, e2, e3⟩, e4⟩, e5⟩ := h'
  have := hs.lt hw e1
  exact ⟨this.2, this.1, fun hh => h1 o s (by rw [e1, hh]), fun hh => h2 o s (by rw [e1, hh])⟩
theorem items_any (H0 H : AHeap) (hw : Wf H) (T M B : Nat) (g : FuncId) (f : List It → It → Int × Bool × List It) (hclo : Clo H0 T M B g f) (items : List It) (ht : Tab H0 H T M items)
    (hB : H.get B = some (.cells [.pointer (some ⟨T, 0, none⟩)] 0 true)) (hBT : B ≠ T) (hBM : B ≠ M) (hBt : ¬ TabB H T B) (hwf0 : Wf H0)
    (a : Option Addr) (n c : Nat) (ts : List Tk) (hr : RowS H0 a n c 2 (ts.map Tk.cells)) (hn : n ≤ 2 ^ 40) (hfit : Fits ts 0) :
    Does Try.prog orc 49 [.slice a n c, .func (.func g) #[] #[.pointer (some ⟨B, 0, none⟩)]] H fun r H' => r = .ret (.tuple #[.int .i64 (itemsGo f ts [] items).1, .bool (itemsGo f ts [] items).2.1]) ∧ Tab H0 H' T M (itemsGo f ts [] items).2.2 ∧ Wf H' ∧ TFr H H' T M := by
  have hlen := hr.len; simp at hlen
  have hcap := hr.cap
  obtain ⟨hTl, hMl⟩ := ht.lt2 hw
  have hBl := hw.lt hB
  refine (Does.wf (Q := fun r H' => r = .ret (.tuple #[.int .i64 (itemsGo f ts [] items).1, .bool (itemsGo f ts [] items).2.1]) ∧ Tab H0 H' T M (itemsGo f ts [] items).2.2 ∧ TFr H H' T M) ?_ hw).mono fun r H' ⟨⟨h1, h2, h3⟩, h4⟩ => ⟨h1, h2, h4, h3⟩
  refine Does.of Try.func49 (fun _ _ => rfl) rfl ?_
  conv => whnf
  refine Runs.loop (fun x : Nat × List Int × Option Addr × Nat × List It => [(16, .int .i64 x.1), (15, .int .i64 n), (14, .slice a n c), (6, .slice x.2.2.1 x.2.1.length x.2.2.2.1), (1, .func (.func g) #[] #[.pointer (some ⟨B, 0, none⟩)])])
    (fun x H' => x.1 ≤ n ∧ Wf H' ∧ Tab H0 H' T M x.2.2.2.2 ∧ TFr H H' T M ∧ Stk H H' (rowV 3 1) 1 x.2.2.1 x.2.1.length x.2.2.2.1 (x.2.1.map cI) ∧ (∀ b o s, x.2.2.1 = some ⟨b, o, s⟩ → ¬ TabB H' T b) ∧ Fits (ts.drop x.1) x.2.1.length ∧ itemsGo f ts [] items = itemsGo f (ts.drop x.1) x.2.1 x.2.2.2.2) (fun x => n - x.1) (0, [], none, 0, items)
    ⟨rfl, rfl, rfl, rfl, rfl, trivial⟩ ⟨by omega, hw, ht, TFr.refl, Stk.nil _ _ _ _, by simp, hfit, rfl⟩ ?_
  rintro ⟨k, stk, sa, sc, its⟩ H1 ⟨hk, w1, ht1, hfr, hst, hdis, hfits, hgo⟩
  dsimp only at hk ht1 hst hdis hfits hgo
  show vc _ _ _ _ _ [(16, .int .i64 k), (15, .int .i64 n), (14, .slice a n c), (6, .slice sa stk.length sc), (1, .func (.func g) #[] #[.pointer (some ⟨B, 0, none⟩)])] _ _
  have hsc := hst.2.1
  by_cases hlt : k < n
  · obtain ⟨t, htk⟩ := get_of (l := ts) (k := k) (by omega)
    have hdrop : ts.drop k = t :: ts.drop (k + 1) := by
      rw [List.drop_eq_getElem_cons (by omega)]
      congr 1
      have := List.getElem?_eq_getElem (l := ts) (i := k) (by omega)
      rw [htk] at this; exact (Option.some.inj this).symm
    rw [hdrop] at hfits hgo
    have hll := fits_len hfits
    simp only [List.length_cons, List.length_drop] at hll
    obtain ⟨hf1, hf2⟩ := hfits
    have hT := takesT_le t.op
    have hr1 := hr.ext hwf0 ht1.base
    obtain ⟨b, o, st, rfl, hcell⟩ := hr1.cell k t.cells (by simp [htk])
    obtain ⟨m, hm⟩ : ∃ m, m = stk.length - takesT t.op := ⟨_, rfl⟩
    obtain ⟨l, hl⟩ : ∃ l, l = stk.length := ⟨_, rfl⟩
    have hmi : ((l : Int) - (takesT t.op : Int)) = (m : Int) := by omega
    rw [← hl] at hsc hst hf1 hf2 hll hm ⊢
    have hgo' : itemsGo f ts [] items = if (f its (mkIt t (stk.drop m))).2.1 then itemsGo f (ts.drop (k + 1)) (stk.take m ++ [(f its (mkIt t (stk.drop m))).1]) (f its (mkIt t (stk.drop m))).2.2 else (0, false, (f its (mkIt t (stk.drop m))).2.2) := by
      rw [hgo, hm, hl]; rfl
    have g2 := get_new H1 (.cells [.int .u8 0, .int .u8 0] (typedV 60) true)
    have hs2 := storeAgg_ok (P := Try.prog) (t := 60) (vs := t.cells) (by kernel_rfl) rfl g2 rfl
    have w2 := (w1.push (.cells [.int .u8 0, .int .u8 0] (typedV 60) true)).set g2 (.cells t.cells (typedV 60) true)
    have e2 := ((Ext.refl H1).trans (Ext.push H1 (.cells [.int .u8 0, .int .u8 0] (typedV 60) true))).set (Nat.le_refl _) (.cells t.cells (typedV 60) true)
    have q2 : ((H1.push (.cells [.int .u8 0, .int .u8 0] (typedV 60) true)).set H1.next (.cells t.cells (typedV 60) true)).get H1.next = some (.cells t.cells (typedV 60) true) := by rw [AHeap.get_set, if_pos rfl]
    have n2 : ((H1.push (.cells [.int .u8 0, .int .u8 0] (typedV 60) true)).set H1.next (.cells t.cells (typedV 60) true)).next = H1.next + 1 := by simp
    obtain ⟨H2, hH2⟩ : ∃ H2, H2 = (H1.push (.cells [.int .u8 0, .int .u8 0] (typedV 60) true)).set H1.next (.cells t.cells (typedV 60) true) := ⟨_, rfl⟩
    rw [← hH2] at hs2 w2 e2 q2 n2
    have p0 := cellAt_of q2 (o := 0) (v := .int .u8 t.op) rfl
    have p1 := cellAt_of q2 (o := 1) (v := .int .u8 t.p) rfl
    have g3 := get_new H2 (.cells [.int .u8 0, .int .u8 0, .int .i64 0, .int .i64 0] (typedV 54) true)
    obtain ⟨it0, hit0⟩ : ∃ x : It, x = ⟨t.op, t.p, -1, -1⟩ := ⟨_, rfl⟩
    have hs3 := storeAgg_ok (P := Try.prog) (t := 54) (vs := [.int .u8 t.op, .int .u8 t.p, .int .i64 (-1), .int .i64 (-1)]) (by kernel_rfl) rfl g3 rfl
    have w3 := (w2.push (.cells [.int .u8 0, .int .u8 0, .int .i64 0, .int .i64 0] (typedV 54) true)).set g3 (.cells [.int .u8 t.op, .int .u8 t.p, .int .i64 (-1), .int .i64 (-1)] (typedV 54) true)
    have e3 := ((Ext.refl H2).trans (Ext.push H2 (.cells [.int .u8 0, .int .u8 0, .int .i64 0, .int .i64 0] (typedV 54) true))).set (Nat.le_refl _) (.cells [.int .u8 t.op, .int .u8 t.p, .int .i64 (-1), .int .i64 (-1)] (typedV 54) true)
    have q3 : ((H2.push (.cells [.int .u8 0, .int .u8 0, .int .i64 0, .int .i64 0] (typedV 54) true)).set H2.next (.cells [.int .u8 t.op, .int .u8 t.p, .int .i64 (-1), .int .i64 (-1)] (typedV 54) true)).get H2.next = some (.cells [.int .u8 t.op, .int .u8 t.p, .int .i64 (-1), .int .i64 (-1)] (typedV 54) true) := by rw [AHeap.get_set, if_pos rfl]
    have n3 : ((H2.push (.cells [.int .u8 0, .int .u8 0, .int .i64 0, .int .i64 0] (typedV 54) true)).set H2.next (.cells [.int .u8 t.op, .int .u8 t.p, .int .i64 (-1), .int .i64 (-1)] (typedV 54) true)).next = H2.next + 1 := by simp
    obtain ⟨H3, hH3⟩ : ∃ H3, H3 = (H2.push (.cells [.int .u8 0, .int .u8 0, .int .i64 0, .int .i64 0] (typedV 54) true)).set H2.next (.cells [.int .u8 t.op, .int .u8 t.p, .int .i64 (-1), .int .i64 (-1)] (typedV 54) true) := ⟨_, rfl⟩
    rw [← hH3] at hs3 w3 e3 q3 n3
    have p03 := cellAt_ext w2 e3 p0
    have hst3 := (hst.ext w1 e2).ext w2 e3
    have hrest := hst3.rest (m := m) (by omega)
    have hzt : zeroOf Try.prog 60 = some (.agg #[.int .u8 0, .int .u8 0]) := by kernel_rfl
    have hzi : zeroOf Try.prog 54 = some (.agg #[.int .u8 0, .int .u8 0, .int .i64 0, .int .i64 0]) := by kernel_rfl
    have hbd : aBuild Try.prog 54 [(0, .int .u8 t.op), (1, .int .u8 t.p), (2, .int .i64 (-1)), (3, .int .i64 (-1))] = some (.agg #[.int .u8 t.op, .int .u8 t.p, .int .i64 (-1), .int .i64 (-1)]) := by kernel_rfl
    have hT1l := (ht1.lt2 w1).1
    have hB1 := (hfr.get B hBl hBT hBM hBt).trans hB
    have hBt1 : ¬ TabB H1 T B := fun h => hBt (hfr.tabB B hBl h)
    have tabE : ∀ {Ha Hb : AHeap} {b : Nat}, Hb.get T = Ha.get T → TabB Hb T b → TabB Ha T b := fun he ⟨o, s, n, c, x, h⟩ => ⟨o, s, n, c, x, by rw [← he]; exact h⟩
    have hsaN : ∀ b o s, sa = some ⟨b, o, s⟩ → H.next ≤ b ∧ b < H1.next := fun b o s h => hst.lt w1 h
    rcases hof : stk.drop m with _ | ⟨x, _ | ⟨y, _ | ⟨z, r⟩⟩⟩
    · have hlm : l - m = 0 := by have := congrArg List.length hof; simp at this; omega
      obtain ⟨it, hit⟩ : ∃ it, it = mkIt t [] := ⟨_, rfl⟩
      obtain ⟨H4, hH4⟩ : ∃ H4, H4 = H3 := ⟨_, rfl⟩
      subst hH4
      have w4 := w3
      have e24 := e3
      have q4 : H4.get H2.next = some (.cells it.cells (typedV 54) true) := by rw [hit]; exact q3
      have e14 := e2.trans e24
      have ht4 := ht1.ext w1 e14
      have hB4 := (e14.get B (w1.lt hB1)).trans hB1
      have hBt4 : ¬ TabB H4 T B := fun h => hBt1 (tabE (e14.get T hT1l) h)
      have hst4 := hst.ext w1 e14
      have q4a := cellsAt_all (n := 4) q4 rfl
      have hc := hclo H4 its it w4 ht4 hB4 hBT hBM hBt4
      rw [hof, ← hit] at hgo'
      obtain ⟨p, hp⟩ : ∃ p, p = f its it := ⟨_, rfl⟩
      rw [← hp] at hc hgo'
      obtain ⟨v, ok, its'⟩ := p
      cases ok
      · skip
        repeat' ((conv => whnf); first
          | (refine Both.intro ?_ ?_ <;> intro _ <;> try (exfalso; omega))
          | (refine Need.intro (by omega) ?_)
          | (refine ⟨_, hcell, ?_⟩)
          | (refine Gives.intro ⟨.agg #[.int .u8 _, .int .u8 _], rfl, ?_⟩)
          | (refine Gives.intro ⟨_, hzt, ?_⟩)
          | (refine Gives.intro ⟨_, hzi, ?_⟩)
          | (refine Gives.intro ⟨_, hbd, ?_⟩)
          | (refine Outs.intro ⟨_, _, _, hs2, ?_⟩)
          | (refine Outs.intro ⟨_, _, _, hs3, ?_⟩)
          | (refine Gives.intro ⟨.pointer (some ⟨_, 0 + 0, none⟩), rfl, ?_⟩)
          | (refine Gives.intro ⟨.pointer (some ⟨_, 0 + 1, none⟩), rfl, ?_⟩)
          | (refine ⟨_, p0, ?_⟩)
          | (refine ⟨_, p1, ?_⟩)
          | (refine ⟨_, p03, ?_⟩)
          | (refine Does.mono (takesT_any _ t.op) ?_ ; rintro _ H' ⟨rfl, rfl⟩)
          | (refine Gives.intro ⟨_, slice_fromI (e := 3) (n := 1) (by kernel_rfl) (by kernel_rfl) hmi (by omega) hsc hst.spot, ?_⟩)
          | (refine ⟨_, q4a, ?_⟩)
          | (refine Gives.intro ⟨.agg #[.int .u8 it.op, .int .u8 it.p, .int .i64 it.a, .int .i64 it.b], rfl, ?_⟩)
          | (refine Does.mono hc ?_ ; rintro _ H5 ⟨rfl, ht5, w5, fr5⟩)
          | fail)
        all_goals (conv => whnf)
        have hq := hgo'.trans (rfl : _ = ((0 : Int), false, its'))
        rw [hq]
        exact ⟨rfl, ht5, (hfr.trans (TFr.of_ext hT1l e14)).trans fr5⟩
      · have hbs : aBuildSlice Try.prog 43 1 [(0, .int .i64 v)] = mkSlice (cI v) 1 1 := by kernel_rfl
        repeat' ((conv => whnf); first
          | (refine Both.intro ?_ ?_ <;> intro _ <;> try (exfalso; omega))
          | (refine Need.intro (by omega) ?_)
          | (refine ⟨_, hcell, ?_⟩)
          | (refine Gives.intro ⟨.agg #[.int .u8 _, .int .u8 _], rfl, ?_⟩)
          | (refine Gives.intro ⟨_, hzt, ?_⟩)
          | (refine Gives.intro ⟨_, hzi, ?_⟩)
          | (refine Gives.intro ⟨_, hbd, ?_⟩)
          | (refine Outs.intro ⟨_, _, _, hs2, ?_⟩)
          | (refine Outs.intro ⟨_, _, _, hs3, ?_⟩)
          | (refine Gives.intro ⟨.pointer (some ⟨_, 0 + 0, none⟩), rfl, ?_⟩)
          | (refine Gives.intro ⟨.pointer (some ⟨_, 0 + 1, none⟩), rfl, ?_⟩)
          | (refine ⟨_, p0, ?_⟩)
          | (refine ⟨_, p1, ?_⟩)
          | (refine ⟨_, p03, ?_⟩)
          | (refine Does.mono (takesT_any _ t.op) ?_ ; rintro _ H' ⟨rfl, rfl⟩)
          | (refine Gives.intro ⟨_, slice_fromI (e := 3) (n := 1) (by kernel_rfl) (by kernel_rfl) hmi (by omega) hsc hst.spot, ?_⟩)
          | (refine ⟨_, q4a, ?_⟩)
          | (refine Gives.intro ⟨.agg #[.int .u8 it.op, .int .u8 it.p, .int .i64 it.a, .int .i64 it.b], rfl, ?_⟩)
          | (refine Does.mono hc ?_ ; rintro _ H5 ⟨rfl, ht5, w5, fr5⟩)
          | fail)
        all_goals (conv => whnf)
        have hst5 : Stk H H5 (rowV 3 1) 1 sa l sc (stk.map cI) := hst4.same fun b hb => fr5.get b (by have := (hsaN b _ _ hb).2; have := e14.next; omega) (fun hh => by have := (hsaN b _ _ hb).1; omega) (fun hh => by have := (hsaN b _ _ hb).1; omega) (fun h => hdis b _ _ hb (tabE (e14.get T hT1l) h))
        have e56 := Ext.push H5 (.cells (cI v) 0 true)
        have w6 := w5.push (.cells (cI v) 0 true)
        have ht6 := ht5.ext w5 e56
        have hT5l := (ht5.lt2 w5).1
        have hn16 : H1.next ≤ (H5.push (.cells (cI v) 0 true)).next := Nat.le_trans e14.next (Nat.le_trans fr5.next e56.next)
        have hn06 : H.next ≤ (H5.push (.cells (cI v) 0 true)).next := Nat.le_trans hfr.next hn16
        obtain ⟨a', c', H7, happ, hst7, w7, n7, hk7, hn7⟩ := stk_pushC hn06 w6 intTy (hst5.ext w5 e56) (m := m) (by omega) (srcS (st := none) (get_new H5 (.cells (cI v) 0 true)) rfl) rfl rfl (by omega) (by omega)
        repeat' ((conv => whnf); first
          | (refine Both.intro ?_ ?_ <;> intro _ <;> try (exfalso; omega))
          | (refine Need.intro (by omega) ?_)
          | (refine Gives.intro ⟨_, slice_toI (e := 3) (n := 1) (by kernel_rfl) (by kernel_rfl) hmi (by omega), ?_⟩)
          | (refine ⟨_, hbs, ?_⟩)
          | (refine Outs.intro ⟨_, _, _, happ, ?_⟩)
          | fail)
        all_goals (conv => whnf)
        have hdis6 : ∀ b o s, sa = some ⟨b, o, s⟩ → ¬ TabB (H5.push (.cells (cI v) 0 true)) T b := fun b o s hb h => hdis b o s hb (tabE (e14.get T hT1l) (fr5.tabB b (by have := (hsaN b o s hb).2; have := e14.next; omega) (tabE (e56.get T hT5l) h)))
        have hT7 := hk7 T (by omega) (fun o s h => by have := (hsaN _ _ _ h).1; omega)
        have hM7 := hk7 M (by omega) (fun o s h => by have := (hsaN _ _ _ h).1; omega)
        have hlow : ∀ b, b < H.next → H7.get b = (H5.push (.cells (cI v) 0 true)).get b := fun b hb => hk7 b (by omega) (fun o s h => by have := (hsaN _ _ _ h).1; omega)
        have hbase : Ext H0 H7 := ⟨Nat.le_trans ht6.base.next n7, fun b hb => (hlow b (Nat.lt_of_lt_of_le hb ht.base.next)).trans (ht6.base.get b hb)⟩
        have ht7 : Tab H0 H7 T M its' := ht6.same hT7 hM7 (fun b hb => hk7 b (TabB.lt ht6 w6 hb).1 (fun o s h => hdis6 b o s h hb)) hbase
        have hfr7 : TFr H H7 T M := (((hfr.trans (TFr.of_ext hT1l e14)).trans fr5).trans (TFr.of_ext hT5l e56)).hi hTl n7 hlow
        have hln : (stk.take m ++ [v]).length = m + 1 := by rw [List.length_append, List.length_take, Nat.min_eq_left (by omega)]; rfl
        have hst8 : Stk H H7 (rowV 3 1) 1 a' (stk.take m ++ [v]).length c' ((stk.take m ++ [v]).map cI) := by rw [hln, List.map_append, List.map_take]; exact hst7
        have hf8 : Fits (ts.drop (k + 1)) (stk.take m ++ [v]).length := by rw [hln, hm]; exact hf2
        refine ⟨(k + 1, stk.take m ++ [v], a', c', its'), ⟨rfl, rfl, rfl, by dsimp only; rw [hln]; rfl, rfl, trivial⟩, ⟨by show k + 1 ≤ n; omega, w7, ht7, hfr7, hst8, ?_, hf8, hgo'.trans rfl⟩, by dsimp only; omega⟩
        intro b o s hb h
        have h6 := tabE hT7 h
        rcases hn7 _ _ _ hb with h' | h'
        · exact hdis6 b o s h' h6
        · have := (TabB.lt ht6 w6 h6).1; omega
    · skip
      have hlm : l - m = 1 := by have := congrArg List.length hof; simp at this; omega
      obtain ⟨it, hit⟩ : ∃ it, it = mkIt t [x] := ⟨_, rfl⟩
      obtain ⟨bs, os, ss, hoa, hc0⟩ := hrest.cell 0 (cI x) (by rw [← List.map_drop, hof]; rfl)
      have hsl : aSlice Try.prog 43 (.slice sa l sc) (some (.int .i64 ((l : Int) - (takesT t.op : Int)))) none none = some (.slice (some ⟨bs, os, ss⟩) (l - m) (sc - m)) := by
        rw [← hoa]; exact slice_fromI (e := 3) (n := 1) (by kernel_rfl) (by kernel_rfl) hmi (by omega) hsc hst.spot
      have x0 := cellsAt_cell hc0 (j := 0) (v := .int .i64 x) rfl
      have hs4 := store_ok (P := Try.prog) (t := 3) (o := 0 + 2) (v := .int .i64 x) (by kernel_rfl) rfl rfl q3 (by simp)
      have q4 : (H3.set H2.next (.cells [.int .u8 t.op, .int .u8 t.p, .int .i64 x, .int .i64 (-1)] (typedV 54) true)).get H2.next = some (.cells [.int .u8 t.op, .int .u8 t.p, .int .i64 x, .int .i64 (-1)] (typedV 54) true) := by rw [AHeap.get_set, if_pos rfl]
      have w4 := w3.set q3 (.cells [.int .u8 t.op, .int .u8 t.p, .int .i64 x, .int .i64 (-1)] (typedV 54) true)
      have e24 := e3.set (Nat.le_refl _) (.cells [.int .u8 t.op, .int .u8 t.p, .int .i64 x, .int .i64 (-1)] (typedV 54) true)
      obtain ⟨H4, hH4⟩ : ∃ H4, H4 = H3.set H2.next (.cells [.int .u8 t.op, .int .u8 t.p, .int .i64 x, .int .i64 (-1)] (typedV 54) true) := ⟨_, rfl⟩
      have hs4 : aStore Try.prog H3 3 (.pointer (some ⟨H2.next, 0 + 2, none⟩)) (.int .i64 x) = some (.val undef H4 (.eff H3 H4)) := by rw [hH4]; exact hs4
      rw [← hH4] at q4 w4 e24
      have q4 : H4.get H2.next = some (.cells it.cells (typedV 54) true) := by rw [hit]; exact q4
      have e14 := e2.trans e24
      have ht4 := ht1.ext w1 e14
      have hB4 := (e14.get B (w1.lt hB1)).trans hB1
      have hBt4 : ¬ TabB H4 T B := fun h => hBt1 (tabE (e14.get T hT1l) h)
      have hst4 := hst.ext w1 e14
      have q4a := cellsAt_all (n := 4) q4 rfl
      have hc := hclo H4 its it w4 ht4 hB4 hBT hBM hBt4
      rw [hof, ← hit] at hgo'
      obtain ⟨p, hp⟩ : ∃ p, p = f its it := ⟨_, rfl⟩
      rw [← hp] at hc hgo'
      obtain ⟨v, ok, its'⟩ := p
      cases ok
      · skip
        repeat' ((conv => whnf); first
          | (refine Both.intro ?_ ?_ <;> intro _ <;> try (exfalso; omega))
          | (refine Need.intro (by omega) ?_)
          | (refine ⟨_, hcell, ?_⟩)
          | (refine Gives.intro ⟨.agg #[.int .u8 _, .int .u8 _], rfl, ?_⟩)
          | (refine Gives.intro ⟨_, hzt, ?_⟩)
          | (refine Gives.intro ⟨_, hzi, ?_⟩)
          | (refine Gives.intro ⟨_, hbd, ?_⟩)
          | (refine Outs.intro ⟨_, _, _, hs2, ?_⟩)
          | (refine Outs.intro ⟨_, _, _, hs3, ?_⟩)
          | (refine Gives.intro ⟨.pointer (some ⟨_, 0 + 0, none⟩), rfl, ?_⟩)
          | (refine Gives.intro ⟨.pointer (some ⟨_, 0 + 1, none⟩), rfl, ?_⟩)
          | (refine ⟨_, p0, ?_⟩)
          | (refine ⟨_, p1, ?_⟩)
          | (refine ⟨_, p03, ?_⟩)
          | (refine Does.mono (takesT_any _ t.op) ?_ ; rintro _ H' ⟨rfl, rfl⟩)
          | (refine Gives.intro ⟨_, hsl, ?_⟩)
          | (refine ⟨_, x0, ?_⟩)
          | (refine Gives.intro ⟨.pointer (some ⟨_, 0 + 2, none⟩), rfl, ?_⟩)
          | (refine Outs.intro ⟨_, _, _, hs4, ?_⟩)
          | (refine ⟨_, q4a, ?_⟩)
          | (refine Gives.intro ⟨.agg #[.int .u8 it.op, .int .u8 it.p, .int .i64 it.a, .int .i64 it.b], rfl, ?_⟩)
          | (refine Does.mono hc ?_ ; rintro _ H5 ⟨rfl, ht5, w5, fr5⟩)
          | fail)
        all_goals (conv => whnf)
        have hq := hgo'.trans (rfl : _ = ((0 : Int), false, its'))
        rw [hq]
        exact ⟨rfl, ht5, (hfr.trans (TFr.of_ext hT1l e14)).trans fr5⟩
      · have hbs : aBuildSlice Try.prog 43 1 [(0, .int .i64 v)] = mkSlice (cI v) 1 1 := by kernel_rfl
        repeat' ((conv => whnf); first
          | (refine Both.intro ?_ ?_ <;> intro _ <;> try (exfalso; omega))
          | (refine Need.intro (by omega) ?_)
          | (refine ⟨_, hcell, ?_⟩)
          | (refine Gives.intro ⟨.agg #[.int .u8 _, .int .u8 _], rfl, ?_⟩)
          | (refine Gives.intro ⟨_, hzt, ?_⟩)
          | (refine Gives.intro ⟨_, hzi, ?_⟩)
          | (refine Gives.intro ⟨_, hbd, ?_⟩)
          | (refine Outs.intro ⟨_, _, _, hs2, ?_⟩)
          | (refine Outs.intro ⟨_, _, _, hs3, ?_⟩)
          | (refine Gives.intro ⟨.pointer (some ⟨_, 0 + 0, none⟩), rfl, ?_⟩)
          | (refine Gives.intro ⟨.pointer (some ⟨_, 0 + 1, none⟩), rfl, ?_⟩)
          | (refine ⟨_, p0, ?_⟩)
          | (refine ⟨_, p1, ?_⟩)
          | (refine ⟨_, p03, ?_⟩)
          | (refine Does.mono (takesT_any _ t.op) ?_ ; rintro _ H' ⟨rfl, rfl⟩)
          | (refine Gives.intro ⟨_, hsl, ?_⟩)
          | (refine ⟨_, x0, ?_⟩)
          | (refine Gives.intro ⟨.pointer (some ⟨_, 0 + 2, none⟩), rfl, ?_⟩)
          | (refine Outs.intro ⟨_, _, _, hs4, ?_⟩)
          | (refine ⟨_, q4a, ?_⟩)
          | (refine Gives.intro ⟨.agg #[.int .u8 it.op, .int .u8 it.p, .int .i64 it.a, .int .i64 it.b], rfl, ?_⟩)
          | (refine Does.mono hc ?_ ; rintro _ H5 ⟨rfl, ht5, w5, fr5⟩)
          | fail)
        all_goals (conv => whnf)
        have hst5 : Stk H H5 (rowV 3 1) 1 sa l sc (stk.map cI) := hst4.same fun b hb => fr5.get b (by have := (hsaN b _ _ hb).2; have := e14.next; omega) (fun hh => by have := (hsaN b _ _ hb).1; omega) (fun hh => by have := (hsaN b _ _ hb).1; omega) (fun h => hdis b _ _ hb (tabE (e14.get T hT1l) h))
        have e56 := Ext.push H5 (.cells (cI v) 0 true)
        have w6 := w5.push (.cells (cI v) 0 true)
        have ht6 := ht5.ext w5 e56
        have hT5l := (ht5.lt2 w5).1
        have hn16 : H1.next ≤ (H5.push (.cells (cI v) 0 true)).next := Nat.le_trans e14.next (Nat.le_trans fr5.next e56.next)
        have hn06 : H.next ≤ (H5.push (.cells (cI v) 0 true)).next := Nat.le_trans hfr.next hn16
        obtain ⟨a', c', H7, happ, hst7, w7, n7, hk7, hn7⟩ := stk_pushC hn06 w6 intTy (hst5.ext w5 e56) (m := m) (by omega) (srcS (st := none) (get_new H5 (.cells (cI v) 0 true)) rfl) rfl rfl (by omega) (by omega)
        repeat' ((conv => whnf); first
          | (refine Both.intro ?_ ?_ <;> intro _ <;> try (exfalso; omega))
          | (refine Need.intro (by omega) ?_)
          | (refine Gives.intro ⟨_, slice_toI (e := 3) (n := 1) (by kernel_rfl) (by kernel_rfl) hmi (by omega), ?_⟩)
          | (refine ⟨_, hbs, ?_⟩)
          | (refine Outs.intro ⟨_, _, _, happ, ?_⟩)
          | fail)
        all_goals (conv => whnf)
        have hdis6 : ∀ b o s, sa = some ⟨b, o, s⟩ → ¬ TabB (H5.push (.cells (cI v) 0 true)) T b := fun b o s hb h => hdis b o s hb (tabE (e14.get T hT1l) (fr5.tabB b (by have := (hsaN b o s hb).2; have := e14.next; omega) (tabE (e56.get T hT5l) h)))
        have hT7 := hk7 T (by omega) (fun o s h => by have := (hsaN _ _ _ h).1; omega)
        have hM7 := hk7 M (by omega) (fun o s h => by have := (hsaN _ _ _ h).1; omega)
        have hlow : ∀ b, b < H.next → H7.get b = (H5.push (.cells (cI v) 0 true)).get b := fun b hb => hk7 b (by omega) (fun o s h => by have := (hsaN _ _ _ h).1; omega)
        have hbase : Ext H0 H7 := ⟨Nat.le_trans ht6.base.next n7, fun b hb => (hlow b (Nat.lt_of_lt_of_le hb ht.base.next)).trans (ht6.base.get b hb)⟩
        have ht7 : Tab H0 H7 T M its' := ht6.same hT7 hM7 (fun b hb => hk7 b (TabB.lt ht6 w6 hb).1 (fun o s h => hdis6 b o s h hb)) hbase
        have hfr7 : TFr H H7 T M := (((hfr.trans (TFr.of_ext hT1l e14)).trans fr5).trans (TFr.of_ext hT5l e56)).hi hTl n7 hlow
        have hln : (stk.take m ++ [v]).length = m + 1 := by rw [List.length_append, List.length_take, Nat.min_eq_left (by omega)]; rfl
        have hst8 : Stk H H7 (rowV 3 1) 1 a' (stk.take m ++ [v]).length c' ((stk.take m ++ [v]).map cI) := by rw [hln, List.map_append, List.map_take]; exact hst7
        have hf8 : Fits (ts.drop (k + 1)) (stk.take m ++ [v]).length := by rw [hln, hm]; exact hf2
        refine ⟨(k + 1, stk.take m ++ [v], a', c', its'), ⟨rfl, rfl, rfl, by dsimp only; rw [hln]; rfl, rfl, trivial⟩, ⟨by show k + 1 ≤ n; omega, w7, ht7, hfr7, hst8, ?_, hf8, hgo'.trans rfl⟩, by dsimp only; omega⟩
        intro b o s hb h
        have h6 := tabE hT7 h
        rcases hn7 _ _ _ hb with h' | h'
        · exact hdis6 b o s h' h6
        · have := (TabB.lt ht6 w6 h6).1; omega
    · skip
      have hlm : l - m = 2 := by have := congrArg List.length hof; simp at this; omega
      obtain ⟨it, hit⟩ : ∃ it, it = mkIt t [x, y] := ⟨_, rfl⟩
      obtain ⟨bs, os, ss, hoa, hc0⟩ := hrest.cell 0 (cI x) (by rw [← List.map_drop, hof]; rfl)
      have hsl : aSlice Try.prog 43 (.slice sa l sc) (some (.int .i64 ((l : Int) - (takesT t.op : Int)))) none none = some (.slice (some ⟨bs, os, ss⟩) (l - m) (sc - m)) := by
        rw [← hoa]; exact slice_fromI (e := 3) (n := 1) (by kernel_rfl) (by kernel_rfl) hmi (by omega) hsc hst.spot
      have x0 := cellsAt_cell hc0 (j := 0) (v := .int .i64 x) rfl
      have y0 : cellAt H3 bs (os + 1) = some (.int .i64 y) := by
        obtain ⟨b', o', s', hb', hc1⟩ := hrest.cell 1 (cI y) (by rw [← List.map_drop, hof]; rfl)
        rw [hoa] at hb'; cases hb'
        exact cellsAt_cell hc1 (j := 0) (v := .int .i64 y) rfl
      have hbn : bs ≠ H2.next := by
        have hb : ∃ o s, sa = some ⟨bs, o, s⟩ := by
          cases sa with
          | none => cases hoa
          | some q => obtain ⟨q1, q2, q3⟩ := q; simp only [offA, Option.map_some, Option.some.injEq, Addr.mk.injEq] at hoa; exact ⟨q2, q3, by rw [hoa.1]⟩
        obtain ⟨o, s, hb⟩ := hb
        have := (hsaN _ _ _ hb).2
        omega
      have hs4 := store_ok (P := Try.prog) (t := 3) (o := 0 + 2) (v := .int .i64 x) (by kernel_rfl) rfl rfl q3 (by simp)
      have q4 : (H3.set H2.next (.cells [.int .u8 t.op, .int .u8 t.p, .int .i64 x, .int .i64 (-1)] (typedV 54) true)).get H2.next = some (.cells [.int .u8 t.op, .int .u8 t.p, .int .i64 x, .int .i64 (-1)] (typedV 54) true) := by rw [AHeap.get_set, if_pos rfl]
      have w4 := w3.set q3 (.cells [.int .u8 t.op, .int .u8 t.p, .int .i64 x, .int .i64 (-1)] (typedV 54) true)
      have e24 := e3.set (Nat.le_refl _) (.cells [.int .u8 t.op, .int .u8 t.p, .int .i64 x, .int .i64 (-1)] (typedV 54) true)
      have hs4 : aStore Try.prog H3 3 (.pointer (some ⟨H2.next, 0 + 2, none⟩)) (.int .i64 x) = some (.val undef (H3.set H2.next (.cells [.int .u8 t.op, .int .u8 t.p, .int .i64 x, .int .i64 (-1)] (typedV 54) true)) (.eff H3 (H3.set H2.next (.cells [.int .u8 t.op, .int .u8 t.p, .int .i64 x, .int .i64 (-1)] (typedV 54) true)))) := hs4
      have hs5 := store_ok (P := Try.prog) (t := 3) (o := 0 + 3) (v := .int .i64 y) (by kernel_rfl) rfl rfl q4 (by simp)
      have w5' := w4.set q4 (.cells [.int .u8 t.op, .int .u8 t.p, .int .i64 x, .int .i64 y] (typedV 54) true)
      have e25 := e24.set (Nat.le_refl _) (.cells [.int .u8 t.op, .int .u8 t.p, .int .i64 x, .int .i64 y] (typedV 54) true)
      obtain ⟨H4, hH4⟩ : ∃ H4, H4 = (H3.set H2.next (.cells [.int .u8 t.op, .int .u8 t.p, .int .i64 x, .int .i64 (-1)] (typedV 54) true)).set H2.next (.cells [.int .u8 t.op, .int .u8 t.p, .int .i64 x, .int .i64 y] (typedV 54) true) := ⟨_, rfl⟩
      have hs5 : aStore Try.prog (H3.set H2.next (.cells [.int .u8 t.op, .int .u8 t.p, .int .i64 x, .int .i64 (-1)] (typedV 54) true)) 3 (.pointer (some ⟨H2.next, 0 + 3, none⟩)) (.int .i64 y) = some (.val undef H4 (.eff (H3.set H2.next (.cells [.int .u8 t.op, .int .u8 t.p, .int .i64 x, .int .i64 (-1)] (typedV 54) true)) H4)) := by rw [hH4]; exact hs5
      have hd1 : ∀ o, cellsAt H3 bs o 1 = cellsAt (H3.set H2.next (.cells [.int .u8 t.op, .int .u8 t.p, .int .i64 x, .int .i64 (-1)] (typedV 54) true)) bs o 1 := fun o => cellsAt_set hbn
      have hd2 : ∀ o, cellsAt (H3.set H2.next (.cells [.int .u8 t.op, .int .u8 t.p, .int .i64 x, .int .i64 (-1)] (typedV 54) true)) bs o 1 = cellsAt H4 bs o 1 := fun o => by rw [hH4]; exact cellsAt_set hbn
      rw [← hH4] at w5' e25
      have w4 := w5'
      have e24 := e25
      have q4 : H4.get H2.next = some (.cells it.cells (typedV 54) true) := by rw [hit, hH4, AHeap.get_set, if_pos rfl]; rfl
      have e14 := e2.trans e24
      have ht4 := ht1.ext w1 e14
      have hB4 := (e14.get B (w1.lt hB1)).trans hB1
      have hBt4 : ¬ TabB H4 T B := fun h => hBt1 (tabE (e14.get T hT1l) h)
      have hst4 := hst.ext w1 e14
      have q4a := cellsAt_all (n := 4) q4 rfl
      have hc := hclo H4 its it w4 ht4 hB4 hBT hBM hBt4
      rw [hof, ← hit] at hgo'
      obtain ⟨p, hp⟩ : ∃ p, p = f its it := ⟨_, rfl⟩
      rw [← hp] at hc hgo'
      obtain ⟨v, ok, its'⟩ := p
      cases ok
      · skip
        repeat' ((conv => whnf); first
          | (refine Both.intro ?_ ?_ <;> intro _ <;> try (exfalso; omega))
          | (refine Need.intro (by omega) ?_)
          | (refine ⟨_, hcell, ?_⟩)
          | (refine Gives.intro ⟨.agg #[.int .u8 _, .int .u8 _], rfl, ?_⟩)
          | (refine Gives.intro ⟨_, hzt, ?_⟩)
          | (refine Gives.intro ⟨_, hzi, ?_⟩)
          | (refine Gives.intro ⟨_, hbd, ?_⟩)
          | (refine Outs.intro ⟨_, _, _, hs2, ?_⟩)
          | (refine Outs.intro ⟨_, _, _, hs3, ?_⟩)
          | (refine Gives.intro ⟨.pointer (some ⟨_, 0 + 0, none⟩), rfl, ?_⟩)
          | (refine Gives.intro ⟨.pointer (some ⟨_, 0 + 1, none⟩), rfl, ?_⟩)
          | (refine ⟨_, p0, ?_⟩)
          | (refine ⟨_, p1, ?_⟩)
          | (refine ⟨_, p03, ?_⟩)
          | (refine Does.mono (takesT_any _ t.op) ?_ ; rintro _ H' ⟨rfl, rfl⟩)
          | (refine Gives.intro ⟨_, hsl, ?_⟩)
          | (refine ⟨_, x0, ?_⟩)
          | (refine ⟨_, y0, ?_⟩)
          | (refine Gives.intro ⟨.pointer (some ⟨_, 0 + 2, none⟩), rfl, ?_⟩)
          | (refine Gives.intro ⟨.pointer (some ⟨_, 0 + 3, none⟩), rfl, ?_⟩)
          | (refine Outs.intro ⟨_, _, _, hs4, ?_⟩)
          | (refine Outs.intro ⟨_, _, _, hs5, ?_⟩)
          | (refine Need.intro (draw_of (by simp only [effAll, lookAll, and_true]; refine ⟨⟨?_, ?_⟩, ?_, ?_⟩ <;> first | exact hd1 _ | exact hd2 _)) ?_)
          | (refine ⟨_, q4a, ?_⟩)
          | (refine Gives.intro ⟨.agg #[.int .u8 it.op, .int .u8 it.p, .int .i64 it.a, .int .i64 it.b], rfl, ?_⟩)
          | (refine Does.mono hc ?_ ; rintro _ H5 ⟨rfl, ht5, w5, fr5⟩)
          | fail)
        all_goals (conv => whnf)
        have hq := hgo'.trans (rfl : _ = ((0 : Int), false, its'))
        rw [hq]
        exact ⟨rfl, ht5, (hfr.trans (TFr.of_ext hT1l e14)).trans fr5⟩
      · have hbs : aBuildSlice Try.prog 43 1 [(0, .int .i64 v)] = mkSlice (cI v) 1 1 := by kernel_rfl
        repeat' ((conv => whnf); first
          | (refine Both.intro ?_ ?_ <;> intro _ <;> try (exfalso; omega))
          | (refine Need.intro (by omega) ?_)
          | (refine ⟨_, hcell, ?_⟩)
          | (refine Gives.intro ⟨.agg #[.int .u8 _, .int .u8 _], rfl, ?_⟩)
          | (refine Gives.intro ⟨_, hzt, ?_⟩)
          | (refine Gives.intro ⟨_, hzi, ?_⟩)
          | (refine Gives.intro ⟨_, hbd, ?_⟩)
          | (refine Outs.intro ⟨_, _, _, hs2, ?_⟩)
          | (refine Outs.intro ⟨_, _, _, hs3, ?_⟩)
          | (refine Gives.intro ⟨.pointer (some ⟨_, 0 + 0, none⟩), rfl, ?_⟩)
          | (refine Gives.intro ⟨.pointer (some ⟨_, 0 + 1, none⟩), rfl, ?_⟩)
          | (refine ⟨_, p0, ?_⟩)
          | (refine ⟨_, p1, ?_⟩)
          | (refine ⟨_, p03, ?_⟩)
          | (refine Does.mono (takesT_any _ t.op) ?_ ; rintro _ H' ⟨rfl, rfl⟩)
          | (refine Gives.intro ⟨_, hsl, ?_⟩)
          | (refine ⟨_, x0, ?_⟩)
          | (refine ⟨_, y0, ?_⟩)
          | (refine Gives.intro ⟨.pointer (some ⟨_, 0 + 2, none⟩), rfl, ?_⟩)
          | (refine Gives.intro ⟨.pointer (some ⟨_, 0 + 3, none⟩), rfl, ?_⟩)
          | (refine Outs.intro ⟨_, _, _, hs4, ?_⟩)
          | (refine Outs.intro ⟨_, _, _, hs5, ?_⟩)
          | (refine Need.intro (draw_of (by simp only [effAll, lookAll, and_true]; refine ⟨⟨?_, ?_⟩, ?_, ?_⟩ <;> first | exact hd1 _ | exact hd2 _)) ?_)
          | (refine ⟨_, q4a, ?_⟩)
          | (refine Gives.intro ⟨.agg #[.int .u8 it.op, .int .u8 it.p, .int .i64 it.a, .int .i64 it.b], rfl, ?_⟩)
          | (refine Does.mono hc ?_ ; rintro _ H5 ⟨rfl, ht5, w5, fr5⟩)
          | fail)
        all_goals (conv => whnf)
        have hst5 : Stk H H5 (rowV 3 1) 1 sa l sc (stk.map cI) := hst4.same fun b hb => fr5.get b (by have := (hsaN b _ _ hb).2; have := e14.next; omega) (fun hh => by have := (hsaN b _ _ hb).1; omega) (fun hh => by have := (hsaN b _ _ hb).1; omega) (fun h => hdis b _ _ hb (tabE (e14.get T hT1l) h))
        have e56 := Ext.push H5 (.cells (cI v) 0 true)
        have w6 := w5.push (.cells (cI v) 0 true)
        have ht6 := ht5.ext w5 e56
        have hT5l := (ht5.lt2 w5).1
        have hn16 : H1.next ≤ (H5.push (.cells (cI v) 0 true)).next := Nat.le_trans e14.next (Nat.le_trans fr5.next e56.next)
        have hn06 : H.next ≤ (H5.push (.cells (cI v) 0 true)).next := Nat.le_trans hfr.next hn16
        obtain ⟨a', c', H7, happ, hst7, w7, n7, hk7, hn7⟩ := stk_pushC hn06 w6 intTy (hst5.ext w5 e56) (m := m) (by omega) (srcS (st := none) (get_new H5 (.cells (cI v) 0 true)) rfl) rfl rfl (by omega) (by omega)
        repeat' ((conv => whnf); first
          | (refine Both.intro ?_ ?_ <;> intro _ <;> try (exfalso; omega))
          | (refine Need.intro (by omega) ?_)
          | (refine Gives.intro ⟨_, slice_toI (e := 3) (n := 1) (by kernel_rfl) (by kernel_rfl) hmi (by omega), ?_⟩)
          | (refine ⟨_, hbs, ?_⟩)
          | (refine Outs.intro ⟨_, _, _, happ, ?_⟩)
          | fail)
        all_goals (conv => whnf)
        have hdis6 : ∀ b o s, sa = some ⟨b, o, s⟩ → ¬ TabB (H5.push (.cells (cI v) 0 true)) T b := fun b o s hb h => hdis b o s hb (tabE (e14.get T hT1l) (fr5.tabB b (by have := (hsaN b o s hb).2; have := e14.next; omega) (tabE (e56.get T hT5l) h)))
        have hT7 := hk7 T (by omega) (fun o s h => by have := (hsaN _ _ _ h).1; omega)
        have hM7 := hk7 M (by omega) (fun o s h => by have := (hsaN _ _ _ h).1; omega)
        have hlow : ∀ b, b < H.next → H7.get b = (H5.push (.cells (cI v) 0 true)).get b := fun b hb => hk7 b (by omega) (fun o s h => by have := (hsaN _ _ _ h).1; omega)
        have hbase : Ext H0 H7 := ⟨Nat.le_trans ht6.base.next n7, fun b hb => (hlow b (Nat.lt_of_lt_of_le hb ht.base.next)).trans (ht6.base.get b hb)⟩
        have ht7 : Tab H0 H7 T M its' := ht6.same hT7 hM7 (fun b hb => hk7 b (TabB.lt ht6 w6 hb).1 (fun o s h => hdis6 b o s h hb)) hbase
        have hfr7 : TFr H H7 T M := (((hfr.trans (TFr.of_ext hT1l e14)).trans fr5).trans (TFr.of_ext hT5l e56)).hi hTl n7 hlow
        have hln : (stk.take m ++ [v]).length = m + 1 := by rw [List.length_append, List.length_take, Nat.min_eq_left (by omega)]; rfl
        have hst8 : Stk H H7 (rowV 3 1) 1 a' (stk.take m ++ [v]).length c' ((stk.take m ++ [v]).map cI) := by rw [hln, List.map_append, List.map_take]; exact hst7
        have hf8 : Fits (ts.drop (k + 1)) (stk.take m ++ [v]).length := by rw [hln, hm]; exact hf2
        refine ⟨(k + 1, stk.take m ++ [v], a', c', its'), ⟨rfl, rfl, rfl, by dsimp only; rw [hln]; rfl, rfl, trivial⟩, ⟨by show k + 1 ≤ n; omega, w7, ht7, hfr7, hst8, ?_, hf8, hgo'.trans rfl⟩, by dsimp only; omega⟩
        intro b o s hb h
        have h6 := tabE hT7 h
        rcases hn7 _ _ _ hb with h' | h'
        · exact hdis6 b o s h' h6
        · have := (TabB.lt ht6 w6 h6).1; omega
    · exfalso
      have := congrArg List.length hof
      simp at this; omega
  · obtain rfl : k = n := by omega
    rw [List.drop_of_length_le (by omega)] at hfits hgo
    have hfits : stk.length = 1 := hfits
    obtain ⟨v, rfl⟩ : ∃ v, stk = [v] := by
      rcases stk with _ | ⟨v, _ | ⟨u, r⟩⟩
      · simp at hfits
      · exact ⟨v, rfl⟩
      · simp at hfits
    obtain ⟨b, o, st, rfl, hc⟩ := hst.row.cell 0 (cI v) rfl
    have c0 := cellsAt_cell hc (j := 0) (v := .int .i64 v) rfl
    have hl : [v].length = 1 := rfl
    rw [hl] at hsc hst ⊢
    repeat' ((conv => whnf); first
      | (refine Both.intro ?_ ?_ <;> intro _ <;> try (exfalso; omega))
      | (refine Need.intro (by omega) ?_)
      | (refine ⟨_, c0, ?_⟩)
      | fail)
    all_goals (conv => whnf)
    rw [hgo.trans (rfl : _ = (v, true, its))]
    exact ⟨rfl, ht1, hfr⟩
end Go.AX.Try
