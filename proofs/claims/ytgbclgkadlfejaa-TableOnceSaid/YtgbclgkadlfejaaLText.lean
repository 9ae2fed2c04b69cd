/- of, long, text, Item, Text. -/
import Derived.Test.YtgbclgkadlfejaaLTMath
namespace Go.AX.Try
open Go Go.AX Go.AX.Lw Go.Proofs
set_option linter.unusedVariables false
set_option maxRecDepth 100000
theorem childs_len (x : It) : (childs x).length = takesT x.op := by
  have := takesT_le x.op
  unfold childs
  rw [List.length_take]
  simp; omega
theorem of_any (H0 H : AHeap) (hw : Wf H) (T M : Nat) (items : List It) (ht : Tab H0 H T M items) (i : Nat) (x : It) (hx : items[i]? = some x) (hi : i ≤ 2 ^ 40) :
    Does Try.prog orc 55 [.pointer (some ⟨T, 0, none⟩), .int .i64 i] H fun r H' => ∃ a, r = .ret (.slice a (takesT x.op) 2) ∧ Ext H H' ∧ Wf H' ∧ Row H' a (takesT x.op) 2 ((childs x).map (.int .i64)) ∧ ∀ b o s, a = some ⟨b, o, s⟩ → H.next ≤ b ∧ b < H'.next := by
  refine (Does.wf (Q := fun r H' => ∃ a, r = .ret (.slice a (takesT x.op) 2) ∧ Ext H H' ∧ Row H' a (takesT x.op) 2 ((childs x).map (.int .i64)) ∧ ∀ b o s, a = some ⟨b, o, s⟩ → H.next ≤ b ∧ b < H'.next) ?_ hw).mono fun r H' ⟨⟨a, h1, h2, h3⟩, h4⟩ => ⟨a, h1, h2, h4, h3⟩
  obtain ⟨a, c, hg, hs, _, _⟩ := ht.tab
  have hcap := hs.2.1
  have hil := (List.getElem?_eq_some_iff.1 hx).1
  obtain ⟨b, o, st, rfl, hcell⟩ := hs.row.cell i x.cells (by rw [List.getElem?_map, hx]; rfl)
  have q0 := cellAt_of hg (o := 0) (v := .slice (some ⟨b, o, st⟩) items.length c) rfl
  have hT := takesT_le x.op
  have hzi : zeroOf Try.prog 54 = some (.agg #[.int .u8 0, .int .u8 0, .int .i64 0, .int .i64 0]) := by kernel_rfl
  have g5 := get_new H (.cells [.int .u8 0, .int .u8 0, .int .i64 0, .int .i64 0] (typedV 54) true)
  have hs5 := storeAgg_ok (P := Try.prog) (t := 54) (vs := x.cells) (by kernel_rfl) rfl g5 rfl
  have e5 := ((Ext.refl H).trans (Ext.push H (.cells [.int .u8 0, .int .u8 0, .int .i64 0, .int .i64 0] (typedV 54) true))).set (Nat.le_refl _) (.cells x.cells (typedV 54) true)
  have q5 : ((H.push (.cells [.int .u8 0, .int .u8 0, .int .i64 0, .int .i64 0] (typedV 54) true)).set H.next (.cells x.cells (typedV 54) true)).get H.next = some (.cells x.cells (typedV 54) true) := by rw [AHeap.get_set, if_pos rfl]
  have n5 : ((H.push (.cells [.int .u8 0, .int .u8 0, .int .i64 0, .int .i64 0] (typedV 54) true)).set H.next (.cells x.cells (typedV 54) true)).next = H.next + 1 := by simp
  obtain ⟨H5, hH5⟩ : ∃ H5, H5 = (H.push (.cells [.int .u8 0, .int .u8 0, .int .i64 0, .int .i64 0] (typedV 54) true)).set H.next (.cells x.cells (typedV 54) true) := ⟨_, rfl⟩
  rw [← hH5] at hs5 e5 q5 n5
  have p2 := cellAt_of q5 (o := 2) (v := .int .i64 x.a) rfl
  have p3 := cellAt_of q5 (o := 3) (v := .int .i64 x.b) rfl
  have hbs : aBuildSlice Try.prog 43 2 [(0, .int .i64 x.a), (1, .int .i64 x.b)] = mkSlice [.int .i64 x.a, .int .i64 x.b] 2 2 := by kernel_rfl
  have e6 := Ext.push H5 (.cells [.int .i64 x.a, .int .i64 x.b] 0 true)
  have g6 := get_new H5 (.cells [.int .i64 x.a, .int .i64 x.b] 0 true)
  have q6 : (H5.push (.cells [.int .i64 x.a, .int .i64 x.b] 0 true)).get H.next = some (.cells x.cells (typedV 54) true) := (e6.get _ (by omega)).trans q5
  have p0 := cellAt_of q6 (o := 0) (v := .int .u8 x.op) rfl
  refine Does.of Try.func55 (fun _ _ => rfl) rfl ?_
  repeat' ((conv => whnf); first
    | (refine Both.intro ?_ ?_ <;> intro _ <;> try (exfalso; omega))
    | (refine Need.intro (by omega) ?_)
    | (refine ⟨_, q0, ?_⟩)
    | (refine Gives.intro ⟨.pointer (some ⟨T, 0 + 0, none⟩), rfl, ?_⟩)
    | (refine ⟨_, hcell, ?_⟩)
    | (refine Gives.intro ⟨.agg #[.int .u8 _, .int .u8 _, .int .i64 _, .int .i64 _], rfl, ?_⟩)
    | (refine Gives.intro ⟨_, hzi, ?_⟩)
    | (refine Outs.intro ⟨_, _, _, hs5, ?_⟩)
    | (refine Gives.intro ⟨.pointer (some ⟨H.next, 0 + 2, none⟩), rfl, ?_⟩)
    | (refine Gives.intro ⟨.pointer (some ⟨H.next, 0 + 3, none⟩), rfl, ?_⟩)
    | (refine Gives.intro ⟨.pointer (some ⟨H.next, 0 + 0, none⟩), rfl, ?_⟩)
    | (refine ⟨_, p2, ?_⟩)
    | (refine ⟨_, p3, ?_⟩)
    | (refine ⟨_, p0, ?_⟩)
    | (refine ⟨_, hbs, ?_⟩)
    | (refine Does.mono (takesT_any _ x.op) ?_ ; rintro _ H' ⟨rfl, rfl⟩)
    | (refine Gives.intro ⟨_, slice_toN (e := 3) (n := 1) (by kernel_rfl) (by kernel_rfl) hT, ?_⟩)
    | (refine Need.intro (draw_of (by simp only [effAll, lookAll, and_self])) ?_)
    | fail)
  all_goals (conv => whnf)
  refine ⟨_, rfl, e5.trans e6, ?_, fun b o s h => by cases h; simp; omega⟩
  have h := (Row.of_block (st := none) (xs := [.int .i64 x.a, .int .i64 x.b]) (n := 2) (c := 2) g6 rfl (Nat.le_refl _) (List.prefix_refl _)).take hT
  have hch : (childs x).map (Value.int .i64) = [Value.int .i64 x.a, Value.int .i64 x.b].take (takesT x.op) := by unfold childs; rw [List.map_take]; rfl
  rw [hch]; exact h
theorem tokTy : AppTyS Try.prog #[44, 44] 60 2 2 where
  t0 := by kernel_rfl
  t1 := by kernel_rfl
  size := by kernel_rfl
  bytes := by kernel_rfl
  pos := by decide
  szp := by decide
  szl := by decide
  zero := ⟨.agg #[.int .u8 0, .int .u8 0], by kernel_rfl, rfl⟩
/-- What an appending function leaves as it was. -/
structure SFr (a : Option Addr) (H : AHeap) (a' : Option Addr) (H' : AHeap) : Prop where
  next : H.next ≤ H'.next
  get : ∀ b, b < H.next → (∀ o s, a ≠ some ⟨b, o, s⟩) → H'.get b = H.get b
  addr : ∀ b o s, a' = some ⟨b, o, s⟩ → a = some ⟨b, o, s⟩ ∨ H.next ≤ b
theorem SFr.refl (a : Option Addr) (H : AHeap) : SFr a H a H := ⟨Nat.le_refl _, fun _ _ _ => rfl, fun _ _ _ h => .inl h⟩
theorem SFr.ext {a : Option Addr} {H H' : AHeap} (e : Ext H H') : SFr a H a H' := ⟨e.next, fun b hb _ => e.get b hb, fun _ _ _ h => .inl h⟩
theorem SFr.trans {a1 a2 a3 : Option Addr} {H1 H2 H3 : AHeap} (x : SFr a1 H1 a2 H2) (y : SFr a2 H2 a3 H3) : SFr a1 H1 a3 H3 :=
  ⟨Nat.le_trans x.next y.next, fun b hb h => (y.get b (Nat.lt_of_lt_of_le hb x.next) fun o s h2 => by
    rcases x.addr b o s h2 with h3 | h3
    · exact h o s h3
    · omega).trans (x.get b hb h), fun b o s h => by
    rcases y.addr b o s h with h2 | h2
    · exact x.addr b o s h2
    · have := x.next; exact .inr (by omega)⟩
theorem tab_sfr {H0 Hb H H' : AHeap} {T M : Nat} {items : List It} {a a' : Option Addr} (hw : Wf H) (ht : Tab H0 H T M items) (f : SFr a H a' H') (h0 : H0.next ≤ Hb.next) (hbn : Hb.next ≤ H.next) (hT : T < Hb.next) (hM : M < Hb.next) (htb : ∀ b, TabB H T b → b < Hb.next)
    (ha : ∀ b o s, a = some ⟨b, o, s⟩ → Hb.next ≤ b) : Tab H0 H' T M items ∧ ∀ b, TabB H' T b → b < Hb.next := by
  have low : ∀ b, b < Hb.next → H'.get b = H.get b := fun b hb => f.get b (by omega) fun o s h => by have := ha b o s h; omega
  refine ⟨ht.same (low T hT) (low M hM) (fun b hb => low b (htb b hb)) ⟨Nat.le_trans ht.base.next f.next, fun b hb => (low b (by omega)).trans (ht.base.get b hb)⟩, fun b hb => htb b ?_⟩
  obtain ⟨o, s, n, c, x, hx⟩ := hb
  exact ⟨o, s, n, c, x, by rw [← low T hT]; exact hx⟩
/-- text: the item's tokens go behind what is there. -/
theorem text_any (H0 Hb : AHeap) (T M : Nat) (items : List It) (hgood : Good items) (hlen : items.length ≤ 2 ^ 40) (h0b : H0.next ≤ Hb.next) (hTl : T < Hb.next) (hMl : M < Hb.next) : ∀ (i : Nat) (H : AHeap) (a : Option Addr) (n c : Nat) (out : List Tk), Wf H → Hb.next ≤ H.next → Tab H0 H T M items → (∀ b, TabB H T b → b < Hb.next) →
    Stk Hb H (rowV 60 2) 2 a n c (out.map Tk.cells) → i < items.length → n + (textOf items i).length ≤ 2 ^ 40 →
    Does Try.prog orc 54 [.pointer (some ⟨T, 0, none⟩), .slice a n c, .int .i64 i] H fun r H' => ∃ a' c', r = .ret (.slice a' (n + (textOf items i).length) c') ∧ Wf H' ∧ SFr a H a' H' ∧ Stk Hb H' (rowV 60 2) 2 a' (n + (textOf items i).length) c' ((out ++ textOf items i).map Tk.cells) := by
  intro i
  induction i using Nat.strongRecOn with
  | ind i ih =>
  intro H a n c out hw hbn ht htb hst hi hbound
  obtain ⟨x, hx⟩ := get_of (l := items) (k := i) hi
  have htx := text_step hgood hx
  have hxl : (textOf items i).length = ((childs x).flatMap (textOf items)).length + 1 := by rw [htx, List.length_append]; rfl
  have hcl := childs_len x
  have hnl := hst.1
  simp at hnl
  have hT2 := takesT_le x.op
  refine Does.of Try.func54 (fun _ _ => rfl) rfl ?_
  repeat' ((conv => whnf); first
    | (refine Both.intro ?_ ?_ <;> intro _ <;> try (exfalso; omega))
    | (refine Need.intro (by omega) ?_)
    | (refine Does.mono (of_any H0 H hw T M items ht i x hx (by omega)) ?_ ; rintro _ H1 ⟨ka, rfl, e1, w1, hrow, hka⟩)
    | fail)
  all_goals (conv => whnf)
  refine Runs.loop (fun s : Nat × Option Addr × Nat × Nat => [(13, .int .i64 s.1), (12, .int .i64 (takesT x.op)), (11, .slice ka (takesT x.op) 2), (0, .pointer (some ⟨T, 0, none⟩)), (2, .int .i64 i), (1, .slice s.2.1 s.2.2.1 s.2.2.2)])
    (fun s H' => s.1 ≤ takesT x.op ∧ Wf H' ∧ H1.next ≤ H'.next ∧ SFr a H1 s.2.1 H' ∧ Tab H0 H' T M items ∧ (∀ b, TabB H' T b → b < Hb.next) ∧ s.2.2.1 = n + (((childs x).take s.1).flatMap (textOf items)).length ∧ Stk Hb H' (rowV 60 2) 2 s.2.1 s.2.2.1 s.2.2.2 ((out ++ ((childs x).take s.1).flatMap (textOf items)).map Tk.cells)) (fun s => takesT x.op - s.1) (0, a, n, c)
    ⟨rfl, rfl, rfl, rfl, rfl, rfl, trivial⟩ ⟨by simp, w1, Nat.le_refl _, SFr.refl _ _, ht.ext hw e1, (tab_sfr hw ht (SFr.ext (a := a) e1) h0b hbn hTl hMl htb (fun b o s h => (hst.lt hw h).1)).2, by simp, by simpa using hst.ext hw e1⟩ ?_
  rintro ⟨k, a2, n2, c2⟩ H2 ⟨hk, w2, n12, f2, ht2, htb2, hn2, hst2⟩
  dsimp only at hk f2 hn2 hst2
  show vc _ _ _ _ _ [(13, .int .i64 k), (12, .int .i64 (takesT x.op)), (11, .slice ka (takesT x.op) 2), (0, .pointer (some ⟨T, 0, none⟩)), (2, .int .i64 i), (1, .slice a2 n2 c2)] _ _
  have hbn2 : Hb.next ≤ H2.next := by have := e1.next; omega
  by_cases hlt : k < takesT x.op
  · obtain ⟨v, hv⟩ := get_of (l := childs x) (k := k) (by omega)
    obtain ⟨v', rfl⟩ : ∃ v' : Nat, v = v' := ⟨v.toNat, by have := hgood.below i x hx v (List.mem_of_getElem? hv); omega⟩
    have hvb := hgood.below i x hx _ (List.mem_of_getElem? hv)
    have hrow2 : Row H2 ka (takesT x.op) 2 ((childs x).map (.int .i64)) := hrow.same fun b o st hb => f2.get b (hka b o st hb).2 fun o' s' h => by have := (hst.lt hw h).2; have := (hka b o st hb).1; omega
    obtain ⟨b, o, st, rfl, hcell⟩ := hrow2.cell k (.int .i64 v') (by rw [List.getElem?_map, hv]; rfl)
    have htk : ((childs x).take (k + 1)).flatMap (textOf items) = ((childs x).take k).flatMap (textOf items) ++ textOf items v' := by
      rw [List.take_add_one, hv, List.flatMap_append]; simp
    have hle : (((childs x).take (k + 1)).flatMap (textOf items)).length ≤ ((childs x).flatMap (textOf items)).length := by
      conv => rhs; rw [← List.take_append_drop (k + 1) (childs x), List.flatMap_append, List.length_append]
      omega
    rw [htk, List.length_append] at hle
    have hrec := ih v' (by omega) H2 a2 n2 c2 _ w2 hbn2 ht2 htb2 hst2 (by omega) (by omega)
    repeat' ((conv => whnf); first
      | (refine Both.intro ?_ ?_ <;> intro _ <;> try (exfalso; omega))
      | (refine Need.intro (by omega) ?_)
      | (refine ⟨_, hcell, ?_⟩)
      | (refine Does.mono hrec ?_ ; rintro _ H3 ⟨a3, c3, rfl, w3, f3, hst3⟩)
      | fail)
    all_goals (conv => whnf)
    have ht3 := tab_sfr w2 ht2 f3 h0b hbn2 hTl hMl htb2 (fun b o s h => (hst2.lt w2 h).1)
    exact ⟨(k + 1, a3, n2 + (textOf items v').length, c3), ⟨rfl, rfl, rfl, rfl, rfl, rfl, trivial⟩, ⟨by show k + 1 ≤ _; omega, w3, Nat.le_trans n12 f3.next, f2.trans f3, ht3.1, ht3.2, by dsimp only; rw [htk, List.length_append, hn2]; omega, by dsimp only; rw [htk, ← List.append_assoc]; exact hst3⟩, by dsimp only; omega⟩
  · obtain rfl : k = takesT x.op := by omega
    obtain ⟨ta, tc, hg, hs, _, _⟩ := ht2.tab
    have hcap := hs.2.1
    obtain ⟨b, o, st, rfl, hcell⟩ := hs.row.cell i x.cells (by rw [List.getElem?_map, hx]; rfl)
    have q0 := cellAt_of hg (o := 0) (v := .slice (some ⟨b, o, st⟩) items.length tc) rfl
    have c0 := cellsAt_cell hcell (j := 0) (v := .int .u8 x.op) rfl
    have c1 := cellsAt_cell hcell (j := 1) (v := .int .u8 x.p) rfl
    have hbd : aBuild Try.prog 60 [(0, .int .u8 x.op), (1, .int .u8 x.p)] = some (.agg #[.int .u8 x.op, .int .u8 x.p]) := by kernel_rfl
    have hbs : aBuildSlice Try.prog 44 1 [(0, .agg #[.int .u8 x.op, .int .u8 x.p])] = mkSlice [.int .u8 x.op, .int .u8 x.p] 1 1 := by kernel_rfl
    have hnl2 : n2 + 1 = n + (textOf items i).length := by rw [hxl, hn2, List.take_of_length_le (by omega)]; omega
    have e3 := Ext.push H2 (.cells [.int .u8 x.op, .int .u8 x.p] 0 true)
    obtain ⟨a4, c4, H4, happ, hst4, w4, n4, hk4, hn4⟩ := stk_pushC (Nat.le_trans hbn2 e3.next) (w2.push (.cells [.int .u8 x.op, .int .u8 x.p] 0 true)) tokTy (hst2.ext w2 e3) (m := n2) (Nat.le_refl _) (srcS (st := none) (get_new H2 (.cells [.int .u8 x.op, .int .u8 x.p] 0 true)) rfl) rfl rfl (by omega) (by omega)
    repeat' ((conv => whnf); first
      | (refine Both.intro ?_ ?_ <;> intro _ <;> try (exfalso; omega))
      | (refine Need.intro (by omega) ?_)
      | (refine ⟨_, q0, ?_⟩)
      | (refine Gives.intro ⟨.pointer (some ⟨T, 0 + 0, none⟩), rfl, ?_⟩)
      | (refine Gives.intro ⟨.pointer (some ⟨b, o + i * 4 + 0, none⟩), rfl, ?_⟩)
      | (refine ⟨_, c0, ?_⟩)
      | (refine Gives.intro ⟨.pointer (some ⟨b, o + i * 4 + 1, none⟩), rfl, ?_⟩)
      | (refine ⟨_, c1, ?_⟩)
      | (refine Gives.intro ⟨_, hbd, ?_⟩)
      | (refine ⟨_, hbs, ?_⟩)
      | (refine Outs.intro ⟨_, _, _, happ, ?_⟩)
      | (refine Need.intro (DrawP.intro (by kernel_rfl)) ?_)
      | fail)
    all_goals (conv => whnf)
    refine ⟨a4, c4, by rw [← hnl2]; rfl, w4, (((SFr.ext e1).trans f2).trans (SFr.ext e3)).trans ⟨n4, hk4, hn4⟩, ?_⟩
    rw [List.take_of_length_le (by omega : (childs x).length ≤ takesT x.op)] at hst4 hn2
    have hl : ((out ++ (childs x).flatMap (textOf items)).map Tk.cells).length = n2 := by rw [List.length_map, List.length_append]; omega
    rw [List.take_of_length_le (by omega)] at hst4
    rw [← hnl2, htx, ← List.append_assoc, List.map_append]
    exact hst4
end Go.AX.Try
