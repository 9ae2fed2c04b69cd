/- table.Table: keys, what a table is, none, Len, asked, the closures of Keep and Find. -/
import Derived.Test.YtgbclgkadlfejaaLSame
namespace Go.AX.Try
open Go Go.AX Go.AX.Lw Go.Proofs
set_option linter.unusedVariables false
set_option maxRecDepth 100000
def takesT (op : Nat) : Nat := if op = 0 ∨ op = 1 ∨ op = 2 ∨ op = 4 ∨ op = 5 then 0 else if op = 6 ∨ op = 7 ∨ op = 8 ∨ op = 19 ∨ op = 20 ∨ op = 23 then 1 else 2
theorem takesT_any (H : AHeap) (op : Nat) : Does Try.prog orc 64 [.int .u8 op] H fun r H' => r = .ret (.int .i64 (takesT op)) ∧ H = H' := by
  refine Does.of Try.func64 (fun _ _ => rfl) rfl ?_
  repeat' ((conv => whnf); first
    | (refine Both.intro ?_ ?_ <;> intro _ <;> try (exfalso; omega))
    | (refine Need.intro (by omega) ?_)
    | fail)
  all_goals (conv => whnf)
  all_goals
    refine ⟨?_, rfl⟩
    unfold takesT
    first
    | (rw [if_pos (by omega)]; rfl)
    | (rw [if_neg (by omega), if_pos (by omega)]; rfl)
    | (rw [if_neg (by omega), if_neg (by omega)]; rfl)
structure It where
  op : Nat
  p : Nat
  a : Int
  b : Int
deriving DecidableEq
def It.cells (x : It) : List Value := [.int .u8 x.op, .int .u8 x.p, .int .i64 x.a, .int .i64 x.b]
theorem it_eqA (a b c d a' b' c' d' : Int) : aEqIn Try.prog 50 54 (.agg #[.int .u8 a, .int .u8 b, .int .i64 c, .int .i64 d]) (.agg #[.int .u8 a', .int .u8 b', .int .i64 c', .int .i64 d']) =
    (match some (a == a') with | some true => (match some (b == b') with | some true => (match some (c == c') with | some true => (match some (d == d') with | some true => some true | x => x) | x => x) | x => x) | x => x) := by kernel_rfl
theorem it_eq (x y : It) : aEqIn Try.prog 50 54 (.agg x.cells.toArray) (.agg y.cells.toArray) = some (decide (x = y)) := by
  obtain ⟨a, b, c, d⟩ := x
  obtain ⟨a', b', c', d'⟩ := y
  refine (it_eqA a b c d a' b' c' d').trans ?_
  by_cases h1 : a = a'
  · subst h1
    simp only [beq_self_eq_true]
    by_cases h2 : b = b'
    · subst h2
      simp only [beq_self_eq_true]
      by_cases h3 : c = c'
      · subst h3
        simp only [beq_self_eq_true]
        by_cases h4 : d = d'
        · subst h4; simp
        · rw [show (d == d') = false from beq_eq_false_iff_ne.2 h4]; simp [h4]
      · rw [show (c == c') = false from beq_eq_false_iff_ne.2 h3]; simp [h3]
    · rw [show ((b : Int) == b') = false from beq_eq_false_iff_ne.2 (by omega)]; simp [h2]
  · rw [show ((a : Int) == a') = false from beq_eq_false_iff_ne.2 (by omega)]; simp [h1]
def ent (e : It × Nat) : Value × Value := (.agg e.1.cells.toArray, .int .i64 e.2)
def findE : List (It × Nat) → It → Nat → Option (Nat × Nat)
  | [], _, _ => none
  | e :: r, x, i => if x = e.1 then some (i, e.2) else findE r x (i + 1)
theorem findA_it : ∀ (es : List (It × Nat)) (x : It) (i : Nat), findA Try.prog 54 (.agg x.cells.toArray) (es.map ent) i = some ((findE es x i).map fun q => (q.1, .int .i64 q.2))
  | [], _, _ => rfl
  | e :: r, x, i => by
    simp only [List.map_cons, ent, findA, it_eq, findE]
    by_cases h : x = e.1
    · simp [h]
    · simp only [h, decide_false, if_false]
      exact findA_it r x (i + 1)
theorem findE_none {es : List (It × Nat)} {x : It} : ∀ {i : Nat}, (∀ e ∈ es, e.1 ≠ x) → findE es x i = none := by
  induction es with
  | nil => intros; rfl
  | cons e r ih =>
    intro i h
    simp only [findE]
    rw [if_neg (fun hh => h e (by simp) hh.symm)]
    exact ih fun y hy => h y (by simp [hy])
theorem findE_some {es : List (It × Nat)} {x : It} {v : Nat} : ∀ {i : Nat}, (x, v) ∈ es → (es.map (·.1)).Nodup → ∃ j, findE es x i = some (i + j, v) ∧ es[j]? = some (x, v) := by
  induction es with
  | nil => intro i h; cases h
  | cons e r ih =>
    intro i h hn
    simp only [List.map_cons, List.nodup_cons] at hn
    simp only [findE]
    rcases List.mem_cons.1 h with rfl | h
    · exact ⟨0, by simp, rfl⟩
    · rw [if_neg (fun hh => hn.1 (by rw [← hh]; exact List.mem_map.2 ⟨_, h, rfl⟩))]
      obtain ⟨j, hj, hj'⟩ := ih (i := i + 1) h hn.2
      exact ⟨j + 1, by rw [hj]; congr 2; omega, by simpa using hj'⟩
theorem it_chk (x : It) : keyChk Try.prog 9 54 (.agg x.cells.toArray) = true := by
  obtain ⟨a, b, c, d⟩ := x
  show keyChk Try.prog 9 54 (.agg #[.int .u8 a, .int .u8 b, .int .i64 c, .int .i64 d]) = true
  kernel_rfl
theorem it_plain (x : It) : plainV 9 (.agg x.cells.toArray) = true := rfl
/-- What a table is in memory. -/
structure Tab (H0 H : AHeap) (T M : Nat) (items : List It) : Prop where
  tab : ∃ a c, H.get T = some (.cells [.slice a items.length c, .map (some M)] 0 true) ∧ Stk H0 H (rowV 54 4) 4 a items.length c (items.map It.cells) ∧ (∀ o s, a ≠ some ⟨T, o, s⟩) ∧ ∀ o s, a ≠ some ⟨M, o, s⟩
  ents : ∃ es : List (It × Nat), H.get M = some (.map (es.map ent)) ∧ (es.map (·.1)).Nodup ∧ ∀ x v, (x, v) ∈ es ↔ items[v]? = some x
  ne : T ≠ M
  lt : H0.next ≤ T ∧ H0.next ≤ M
  base : Ext H0 H
/-- The block of a table's items. -/
def TabB (H : AHeap) (T b : Nat) : Prop := ∃ o s n c x, H.get T = some (.cells [.slice (some ⟨b, o, s⟩) n c, x] 0 true)
/-- What a table's methods leave as it was. -/
structure TFr (H H' : AHeap) (T M : Nat) : Prop where
  next : H.next ≤ H'.next
  get : ∀ b, b < H.next → b ≠ T → b ≠ M → ¬ TabB H T b → H'.get b = H.get b
  tabB : ∀ b, b < H.next → TabB H' T b → TabB H T b
theorem TFr.of_ext {H H' : AHeap} {T M : Nat} (hT : T < H.next) (e : Ext H H') : TFr H H' T M :=
  ⟨e.next, fun b hb _ _ _ => e.get b hb, fun b hb ⟨o, s, n, c, x, h⟩ => ⟨o, s, n, c, x, by rw [← e.get T hT]; exact h⟩⟩
theorem TFr.refl {H : AHeap} {T M : Nat} : TFr H H T M := ⟨Nat.le_refl _, fun _ _ _ _ _ => rfl, fun _ _ h => h⟩
theorem TFr.trans {H1 H2 H3 : AHeap} {T M : Nat} (a : TFr H1 H2 T M) (b : TFr H2 H3 T M) : TFr H1 H3 T M :=
  ⟨Nat.le_trans a.next b.next, fun c hc h1 h2 h3 => (b.get c (Nat.lt_of_lt_of_le hc a.next) h1 h2 (fun h => h3 (a.tabB c hc h))).trans (a.get c hc h1 h2 h3),
    fun c hc h => a.tabB c hc (b.tabB c (Nat.lt_of_lt_of_le hc a.next) h)⟩
theorem Tab.lt2 {H0 H : AHeap} {T M : Nat} {items : List It} (hw : Wf H) (h : Tab H0 H T M items) : T < H.next ∧ M < H.next := by
  obtain ⟨a, c, hg, _⟩ := h.tab
  obtain ⟨es, hm, _⟩ := h.ents
  exact ⟨hw.lt hg, hw.lt hm⟩
theorem Tab.ext {H0 H H' : AHeap} {T M : Nat} {items : List It} (hw : Wf H) (e : Ext H H') (h : Tab H0 H T M items) : Tab H0 H' T M items := by
  obtain ⟨a, c, hg, hs, h1, h2⟩ := h.tab
  obtain ⟨es, hm, hn, hes⟩ := h.ents
  exact ⟨⟨a, c, by rw [e.get T (hw.lt hg)]; exact hg, hs.ext hw e, h1, h2⟩, ⟨es, by rw [e.get M (hw.lt hm)]; exact hm, hn, hes⟩, h.ne, h.lt, h.base.trans e⟩
theorem none_any (H : AHeap) (T M : Nat) {a : Option Addr} {n c : Nat} (hg : H.get T = some (.cells [.slice a n c, .map (some M)] 0 true)) :
    Does Try.prog orc 47 [.pointer (some ⟨T, 0, none⟩)] H fun r H' => r = .ret (.bool false) ∧ H = H' := by
  have c1 := cellAt_of hg (o := 1) (v := .map (some M)) rfl
  refine Does.of Try.func47 (fun _ _ => rfl) rfl ?_
  repeat' ((conv => whnf); first
    | (refine Both.intro ?_ ?_ <;> intro _ <;> try (exfalso; omega))
    | (refine Need.intro (by omega) ?_)
    | (refine ⟨_, c1, ?_⟩)
    | (refine Gives.intro ⟨.pointer (some ⟨T, 0 + 1, none⟩), rfl, ?_⟩)
    | (refine Gives.intro ⟨.bool false, rfl, ?_⟩)
    | fail)
  all_goals (conv => whnf)
  exact ⟨rfl, rfl⟩
theorem len_any (H0 H : AHeap) (T M : Nat) (items : List It) (ht : Tab H0 H T M items) :
    Does Try.prog orc 26 [.pointer (some ⟨T, 0, none⟩)] H fun r H' => r = .ret (.int .i64 items.length) ∧ H = H' := by
  obtain ⟨a, c, hg, hs, _, _⟩ := ht.tab
  have c0 := cellAt_of hg (o := 0) (v := .slice a items.length c) rfl
  refine Does.of Try.func26 (fun _ _ => rfl) rfl ?_
  repeat' ((conv => whnf); first
    | (refine Both.intro ?_ ?_ <;> intro _ <;> try (exfalso; omega))
    | (refine Need.intro (by omega) ?_)
    | (refine ⟨_, c0, ?_⟩)
    | (refine Does.mono (none_any _ T M hg) ?_ ; rintro _ _ ⟨rfl, rfl⟩)
    | (refine Gives.intro ⟨.pointer (some ⟨T, 0 + 0, none⟩), rfl, ?_⟩)
    | fail)
  all_goals (conv => whnf)
  exact ⟨rfl, rfl⟩
theorem asked_any (H0 H : AHeap) (T M : Nat) (items : List It) (ht : Tab H0 H T M items) (i : Int) :
    Does Try.prog orc 52 [.pointer (some ⟨T, 0, none⟩), .int .i64 i] H fun r H' => r = .ret (.int .i64 (if 0 ≤ i ∧ i < items.length then 0 else 6)) ∧ H = H' := by
  obtain ⟨a, c, hg, hs, _, _⟩ := ht.tab
  have c0 := cellAt_of hg (o := 0) (v := .slice a items.length c) rfl
  refine Does.of Try.func52 (fun _ _ => rfl) rfl ?_
  repeat' ((conv => whnf); first
    | (refine Both.intro ?_ ?_ <;> intro _ <;> try (exfalso; omega))
    | (refine Need.intro (by omega) ?_)
    | (refine ⟨_, c0, ?_⟩)
    | (refine Does.mono (none_any _ T M hg) ?_ ; rintro _ _ ⟨rfl, rfl⟩)
    | (refine Gives.intro ⟨.pointer (some ⟨T, 0 + 0, none⟩), rfl, ?_⟩)
    | fail)
  all_goals (conv => whnf)
  · exact ⟨by rw [if_neg (by omega)]; rfl, rfl⟩
  · exact ⟨by rw [if_neg (by omega)]; rfl, rfl⟩
  · exact ⟨by rw [if_pos (by omega)]; rfl, rfl⟩
theorem mem_get {items : List It} {x : It} (h : x ∈ items) : items[items.idxOf x]? = some x := by
  rw [List.getElem?_eq_getElem (List.idxOf_lt_length_iff.2 h), List.getElem_idxOf]
theorem ents_nodup {es : List (It × Nat)} {items : List It} (hn : (es.map (·.1)).Nodup) (hes : ∀ x v, (x, v) ∈ es ↔ items[v]? = some x) {x : It} {u v : Nat} (h1 : items[u]? = some x) (h2 : items[v]? = some x) : u = v := by
  have a1 := (hes x u).2 h1
  have a2 := (hes x v).2 h2
  obtain ⟨j, hj, _⟩ := findE_some (i := 0) a1 hn
  obtain ⟨k, hk, _⟩ := findE_some (i := 0) a2 hn
  rw [hj] at hk
  simp at hk
  exact hk.2
theorem Tab.uniq {H0 H : AHeap} {T M : Nat} {items : List It} (h : Tab H0 H T M items) {x : It} {u v : Nat} (h1 : items[u]? = some x) (h2 : items[v]? = some x) : u = v := by
  obtain ⟨es, _, hn, hes⟩ := h.ents
  exact ents_nodup hn hes h1 h2
theorem int_zero : zeroOf Try.prog 3 = some (.int .i64 0) := by kernel_rfl
theorem map_ty : Try.prog.underlying 74 = some (.map 54 3) := by kernel_rfl
theorem look_some {H : AHeap} {M : Nat} {es : List (It × Nat)} (hg : H.get M = some (.map (es.map ent))) (hn : (es.map (·.1)).Nodup) {x : It} {v : Nat} (h : (x, v) ∈ es) :
    aLookup Try.prog H 74 (.map (some M)) (.agg x.cells.toArray) true = some (.val (.tuple #[.int .i64 v, .bool true]) H (.eff H H)) := by
  obtain ⟨j, hj, _⟩ := findE_some (i := 0) h hn
  exact lookup_ok (j := 0 + j) (v := .int .i64 v) map_ty (it_chk x) hg int_zero (by rw [findA_it, hj]; rfl) true
theorem look_none {H : AHeap} {M : Nat} {es : List (It × Nat)} (hg : H.get M = some (.map (es.map ent))) {x : It} (h : ∀ e ∈ es, e.1 ≠ x) :
    aLookup Try.prog H 74 (.map (some M)) (.agg x.cells.toArray) true = some (.val (.tuple #[.int .i64 0, .bool false]) H (.eff H H)) :=
  lookup_no map_ty (it_chk x) hg int_zero (by rw [findA_it, findE_none h]; rfl) true
def findF (items : List It) (x : It) : Int × Bool × List It := if x ∈ items then (items.idxOf x, true, items) else (0, false, items)
def keepF (items : List It) (x : It) : Int × Bool × List It := if x ∈ items then (items.idxOf x, true, items) else if 4096 ≤ items.length then (0, false, items) else (items.length, true, items ++ [x])
/-- What items asks of the function that finds. -/
def Clo (H0 : AHeap) (T M B : Nat) (g : FuncId) (f : List It → It → Int × Bool × List It) : Prop :=
  ∀ (H : AHeap) (items : List It) (x : It), Wf H → Tab H0 H T M items → H.get B = some (.cells [.pointer (some ⟨T, 0, none⟩)] 0 true) → B ≠ T → B ≠ M → ¬ TabB H T B →
    Does Try.prog orc g [.agg x.cells.toArray, .pointer (some ⟨B, 0, none⟩)] H fun r H' => r = .ret (.tuple #[.int .i64 (f items x).1, .bool (f items x).2.1]) ∧ Tab H0 H' T M (f items x).2.2 ∧ Wf H' ∧ TFr H H' T M
theorem find_clo (H0 : AHeap) (T M B : Nat) : Clo H0 T M B 51 findF := by
  intro H items x hw ht hB hBT hBM hBt
  obtain ⟨es, hm, hn, hes⟩ := ht.ents
  obtain ⟨a, c, hg, hs, ha1, ha2⟩ := ht.tab
  refine (Does.wf (Q := fun r H' => r = .ret (.tuple #[.int .i64 (findF items x).1, .bool (findF items x).2.1]) ∧ Tab H0 H' T M (findF items x).2.2 ∧ TFr H H' T M) ?_ hw).mono fun r H' ⟨⟨h1, h2, h3⟩, h4⟩ => ⟨h1, h2, h4, h3⟩
  have e1 := Ext.push H (.cells x.cells 0 true)
  have g1 := get_new H (.cells x.cells 0 true)
  have hB1 : (H.push (.cells x.cells 0 true)).get B = some (.cells [.pointer (some ⟨T, 0, none⟩)] 0 true) := by rw [e1.get B (hw.lt hB)]; exact hB
  have hT1 : (H.push (.cells x.cells 0 true)).get T = some (.cells [.slice a items.length c, .map (some M)] 0 true) := by rw [e1.get T (hw.lt hg)]; exact hg
  have hM1 : (H.push (.cells x.cells 0 true)).get M = some (.map (es.map ent)) := by rw [e1.get M (hw.lt hm)]; exact hm
  have qB := cellAt_of hB1 (o := 0) (v := .pointer (some ⟨T, 0, none⟩)) rfl
  have qM := cellAt_of hT1 (o := 1) (v := .map (some M)) rfl
  have qx := cellsAt_all (n := 4) g1 rfl
  have hfin : Tab H0 (H.push (.cells x.cells 0 true)) T M items ∧ TFr H (H.push (.cells x.cells 0 true)) T M := ⟨ht.ext hw e1, TFr.of_ext (hw.lt hg) e1⟩
  refine Does.of Try.func51 (fun _ _ => rfl) rfl ?_
  by_cases hx : x ∈ items
  · have hl := look_some hM1 hn ((hes x _).2 (mem_get hx))
    have hf : findF items x = (((items.idxOf x : Nat) : Int), true, items) := by unfold findF; rw [if_pos hx]
    rw [hf]
    repeat' ((conv => whnf); first
      | (refine Both.intro ?_ ?_ <;> intro _ <;> try (exfalso; omega))
      | (refine Need.intro (by omega) ?_)
      | (refine ⟨_, qB, ?_⟩)
      | (refine ⟨_, qM, ?_⟩)
      | (refine Gives.intro ⟨.pointer (some ⟨T, 0 + 1, none⟩), rfl, ?_⟩)
      | (refine ⟨_, qx, ?_⟩)
      | (refine Outs.intro ⟨_, _, _, hl, ?_⟩)
      | (refine Gives.intro ⟨.agg #[.int .u8 x.op, .int .u8 x.p, .int .i64 x.a, .int .i64 x.b], rfl, ?_⟩)
      | (refine Need.intro (DrawP.intro (by kernel_rfl)) ?_)
      | fail)
    all_goals (conv => whnf)
    exact ⟨rfl, hfin⟩
  · have hl := look_none hM1 (x := x) (fun e he hh => hx (by obtain ⟨y, v⟩ := e; subst hh; exact List.mem_of_getElem? ((hes y v).1 he)))
    have hf : findF items x = (0, false, items) := by unfold findF; rw [if_neg hx]
    rw [hf]
    repeat' ((conv => whnf); first
      | (refine Both.intro ?_ ?_ <;> intro _ <;> try (exfalso; omega))
      | (refine Need.intro (by omega) ?_)
      | (refine ⟨_, qB, ?_⟩)
      | (refine ⟨_, qM, ?_⟩)
      | (refine Gives.intro ⟨.pointer (some ⟨T, 0 + 1, none⟩), rfl, ?_⟩)
      | (refine ⟨_, qx, ?_⟩)
      | (refine Outs.intro ⟨_, _, _, hl, ?_⟩)
      | (refine Gives.intro ⟨.agg #[.int .u8 x.op, .int .u8 x.p, .int .i64 x.a, .int .i64 x.b], rfl, ?_⟩)
      | (refine Need.intro (DrawP.intro (by kernel_rfl)) ?_)
      | fail)
    all_goals (conv => whnf)
    exact ⟨rfl, hfin⟩
theorem itemTy : AppTyS Try.prog #[65, 65] 54 4 24 where
  t0 := by kernel_rfl
  t1 := by kernel_rfl
  size := by kernel_rfl
  bytes := by kernel_rfl
  pos := by decide
  szp := by decide
  szl := by decide
  zero := ⟨.agg #[.int .u8 0, .int .u8 0, .int .i64 0, .int .i64 0], by kernel_rfl, rfl⟩
theorem keep_clo (H0 : AHeap) (T M B : Nat) : Clo H0 T M B 50 keepF := by
  intro H items x hw ht hB hBT hBM hBt
  obtain ⟨es, hm, hn, hes⟩ := ht.ents
  obtain ⟨a, c, hg, hs, ha1, ha2⟩ := ht.tab
  refine (Does.wf (Q := fun r H' => r = .ret (.tuple #[.int .i64 (keepF items x).1, .bool (keepF items x).2.1]) ∧ Tab H0 H' T M (keepF items x).2.2 ∧ TFr H H' T M) ?_ hw).mono fun r H' ⟨⟨h1, h2, h3⟩, h4⟩ => ⟨h1, h2, h4, h3⟩
  have e1 := Ext.push H (.cells x.cells 0 true)
  have w1 := hw.push (.cells x.cells 0 true)
  have g1 := get_new H (.cells x.cells 0 true)
  have hB1 : (H.push (.cells x.cells 0 true)).get B = some (.cells [.pointer (some ⟨T, 0, none⟩)] 0 true) := by rw [e1.get B (hw.lt hB)]; exact hB
  have hT1 : (H.push (.cells x.cells 0 true)).get T = some (.cells [.slice a items.length c, .map (some M)] 0 true) := by rw [e1.get T (hw.lt hg)]; exact hg
  have hM1 : (H.push (.cells x.cells 0 true)).get M = some (.map (es.map ent)) := by rw [e1.get M (hw.lt hm)]; exact hm
  have qB := cellAt_of hB1 (o := 0) (v := .pointer (some ⟨T, 0, none⟩)) rfl
  have qI := cellAt_of hT1 (o := 0) (v := .slice a items.length c) rfl
  have qM := cellAt_of hT1 (o := 1) (v := .map (some M)) rfl
  have qx := cellsAt_all (n := 4) g1 rfl
  have ht1 := ht.ext hw e1
  have hfin : Tab H0 (H.push (.cells x.cells 0 true)) T M items ∧ TFr H (H.push (.cells x.cells 0 true)) T M := ⟨ht1, TFr.of_ext (hw.lt hg) e1⟩
  refine Does.of Try.func50 (fun _ _ => rfl) rfl ?_
  by_cases hx : x ∈ items
  · have hl := look_some hM1 hn ((hes x _).2 (mem_get hx))
    have hf : keepF items x = (((items.idxOf x : Nat) : Int), true, items) := by unfold keepF; rw [if_pos hx]
    rw [hf]
    repeat' ((conv => whnf); first
      | (refine Both.intro ?_ ?_ <;> intro _ <;> try (exfalso; omega))
      | (refine Need.intro (by omega) ?_)
      | (refine ⟨_, qB, ?_⟩)
      | (refine ⟨_, qM, ?_⟩)
      | (refine Gives.intro ⟨.pointer (some ⟨T, 0 + 1, none⟩), rfl, ?_⟩)
      | (refine ⟨_, qx, ?_⟩)
      | (refine Outs.intro ⟨_, _, _, hl, ?_⟩)
      | (refine Gives.intro ⟨.agg #[.int .u8 x.op, .int .u8 x.p, .int .i64 x.a, .int .i64 x.b], rfl, ?_⟩)
      | (refine Need.intro (DrawP.intro (by kernel_rfl)) ?_)
      | fail)
    all_goals (conv => whnf)
    exact ⟨rfl, hfin⟩
  · have hne : ∀ e ∈ es, e.1 ≠ x := fun e he hh => hx (by obtain ⟨y, v⟩ := e; subst hh; exact List.mem_of_getElem? ((hes y v).1 he))
    have hl := look_none hM1 hne
    by_cases hlen : 4096 ≤ items.length
    · have hf : keepF items x = (0, false, items) := by unfold keepF; rw [if_neg hx, if_pos hlen]
      rw [hf]
      repeat' ((conv => whnf); first
        | (refine Both.intro ?_ ?_ <;> intro _ <;> try (exfalso; omega))
        | (refine Need.intro (by omega) ?_)
        | (refine ⟨_, qB, ?_⟩)
        | (refine ⟨_, qM, ?_⟩)
        | (refine ⟨_, qI, ?_⟩)
        | (refine Gives.intro ⟨.pointer (some ⟨T, 0 + 1, none⟩), rfl, ?_⟩)
        | (refine Gives.intro ⟨.pointer (some ⟨T, 0 + 0, none⟩), rfl, ?_⟩)
        | (refine ⟨_, qx, ?_⟩)
        | (refine Outs.intro ⟨_, _, _, hl, ?_⟩)
        | (refine Gives.intro ⟨.agg #[.int .u8 x.op, .int .u8 x.p, .int .i64 x.a, .int .i64 x.b], rfl, ?_⟩)
        | (refine Need.intro (DrawP.intro (by kernel_rfl)) ?_)
        | fail)
      all_goals (conv => whnf)
      exact ⟨rfl, hfin⟩
    · have hf : keepF items x = ((items.length : Int), true, items ++ [x]) := by unfold keepF; rw [if_neg hx, if_neg hlen]
      rw [hf]
      have hu := update_new (v := .int .i64 items.length) map_ty (it_chk x) (it_plain x) hM1 (by rw [findA_it, findE_none hne]; rfl)
      have hBl := hw.lt hB
      have hTl := hw.lt hg
      have hMl := hw.lt hm
      have hw2 := w1.set hM1 (.map (es.map ent ++ [(.agg x.cells.toArray, .int .i64 items.length)]))
      have hget2 : ∀ b, b ≠ M → ((H.push (.cells x.cells 0 true)).set M (.map (es.map ent ++ [(.agg x.cells.toArray, .int .i64 items.length)]))).get b = (H.push (.cells x.cells 0 true)).get b := fun b hb => by rw [AHeap.get_set, if_neg hb]
      have hM2 : ((H.push (.cells x.cells 0 true)).set M (.map (es.map ent ++ [(.agg x.cells.toArray, .int .i64 items.length)]))).get M = some (.map (es.map ent ++ [(.agg x.cells.toArray, .int .i64 items.length)])) := by rw [AHeap.get_set, if_pos rfl]
      have hn2 : ((H.push (.cells x.cells 0 true)).set M (.map (es.map ent ++ [(.agg x.cells.toArray, .int .i64 items.length)]))).next = H.next + 1 := by simp
      have he2 : Ext H0 ((H.push (.cells x.cells 0 true)).set M (.map (es.map ent ++ [(.agg x.cells.toArray, .int .i64 items.length)]))) := (ht.base.trans e1).set ht.lt.2 _
      obtain ⟨H2, hH2⟩ : ∃ H2, H2 = (H.push (.cells x.cells 0 true)).set M (.map (es.map ent ++ [(.agg x.cells.toArray, .int .i64 items.length)])) := ⟨_, rfl⟩
      rw [← hH2] at hu hw2 hget2 hM2 hn2 he2
      have hB2 := (hget2 B hBM).trans hB1
      have hT2 := (hget2 T ht.ne).trans hT1
      have hx2 := (hget2 H.next (by omega)).trans g1
      have pB := cellAt_of hB2 (o := 0) (v := .pointer (some ⟨T, 0, none⟩)) rfl
      have pI := cellAt_of hT2 (o := 0) (v := .slice a items.length c) rfl
      have px := cellsAt_all (n := 4) hx2 rfl
      have hbs : aBuildSlice Try.prog 65 1 [(0, .agg #[.int .u8 x.op, .int .u8 x.p, .int .i64 x.a, .int .i64 x.b])] = mkSlice x.cells 1 1 := by kernel_rfl
      have e3 := Ext.push H2 (.cells x.cells 0 true)
      have hs2 : Stk H0 H2 (rowV 54 4) 4 a items.length c (items.map It.cells) := (hs.ext hw e1).same fun b hb => hget2 b fun hbM => ha2 0 (some 0) (by rw [hb, hbM])
      obtain ⟨a', c', H4, happ, hs4, e4, w4, n4, hk4, hn4⟩ := stk_push (he2.trans e3) (hw2.push _) itemTy (hs2.ext hw2 e3) (m := items.length) (Nat.le_refl _) (srcS (st := none) (get_new H2 (.cells x.cells 0 true)) rfl) rfl rfl (by omega) (by omega)
      have hn3 : (H2.push (.cells x.cells 0 true)).next = H.next + 2 := by simp [hn2]
      have hT4 := (hk4 T (by omega) (fun o s => ha1 o s)).trans ((e3.get T (by omega)).trans hT2)
      have hB4 := (hk4 B (by omega) (fun o s h => hBt ⟨o, s, items.length, c, .map (some M), by rw [hg, h]⟩)).trans ((e3.get B (by omega)).trans hB2)
      have hM4 := (hk4 M (by omega) (fun o s => ha2 o s)).trans ((e3.get M (by omega)).trans hM2)
      have hst := store_ok (P := Try.prog) (H := H4) (t := 65) (b := T) (o := 0) (v := .slice a' (items.length + 1) c') (by kernel_rfl) rfl rfl hT4 (by simp)
      have hkB : H4.get B = (H2.push (.cells x.cells 0 true)).get B := hk4 B (by omega) (fun o s h => hBt ⟨o, s, items.length, c, .map (some M), by rw [hg, h]⟩)
      have hB5 : (H4.set T (.cells [.slice a' (items.length + 1) c', .map (some M)] 0 true)).get B = some (.cells [.pointer (some ⟨T, 0, none⟩)] 0 true) := by rw [AHeap.get_set, if_neg hBT]; exact hB4
      have hT5 : (H4.set T (.cells [.slice a' (items.length + 1) c', .map (some M)] 0 true)).get T = some (.cells [.slice a' (items.length + 1) c', .map (some M)] 0 true) := by rw [AHeap.get_set, if_pos rfl]
      have rB := cellAt_of hB5 (o := 0) (v := .pointer (some ⟨T, 0, none⟩)) rfl
      have rI := cellAt_of hT5 (o := 0) (v := .slice a' (items.length + 1) c') rfl
      repeat' ((conv => whnf); first
        | (refine Both.intro ?_ ?_ <;> intro _ <;> try (exfalso; omega))
        | (refine Need.intro (by omega) ?_)
        | (refine ⟨_, qB, ?_⟩)
        | (refine ⟨_, qM, ?_⟩)
        | (refine ⟨_, qI, ?_⟩)
        | (refine Gives.intro ⟨.pointer (some ⟨T, 0 + 1, none⟩), rfl, ?_⟩)
        | (refine Gives.intro ⟨.pointer (some ⟨T, 0 + 0, none⟩), rfl, ?_⟩)
        | (refine ⟨_, qx, ?_⟩)
        | (refine Outs.intro ⟨_, _, _, hl, ?_⟩)
        | (refine Gives.intro ⟨.agg #[.int .u8 x.op, .int .u8 x.p, .int .i64 x.a, .int .i64 x.b], rfl, ?_⟩)
        | (refine Need.intro (draw_mix (by simp only [effMix, lookMix, and_true]; refine ⟨⟨?_, ?_, ?_, ?_, ?_⟩, ?_, ?_, ?_, ?_, ?_⟩ <;> first | exact .inr (cellsAt_same hkB).symm | exact .inl rfl | exact .inr (.inl rfl))) ?_)
        | (refine Need.intro (DrawP.intro (by kernel_rfl)) ?_)
        | (refine Outs.intro ⟨_, _, _, hu, ?_⟩)
        | (refine ⟨_, pB, ?_⟩)
        | (refine ⟨_, pI, ?_⟩)
        | (refine ⟨_, px, ?_⟩)
        | (refine ⟨_, hbs, ?_⟩)
        | (refine Outs.intro ⟨_, _, _, happ, ?_⟩)
        | (refine Outs.intro ⟨_, _, _, hst, ?_⟩)
        | (refine ⟨_, rB, ?_⟩)
        | (refine ⟨_, rI, ?_⟩)
        | fail)
      all_goals (conv => whnf)
      have hln : (items ++ [x]).length = items.length + 1 := by simp
      refine ⟨?_, ⟨⟨a', c', ?_, ?_, ?_, ?_⟩, ⟨es ++ [(x, items.length)], ?_, ?_, ?_⟩, ht.ne, ht.lt, ?_⟩, ?_, ?_, ?_⟩
      · show CRes.ret (.tuple #[.int .i64 (((items.length + 1 : Nat) : Int) - 1), .bool true]) = CRes.ret (.tuple #[.int .i64 (items.length : Int), .bool true])
        rw [show ((items.length + 1 : Nat) : Int) - 1 = (items.length : Int) by omega]
      · rw [hln]; exact hT5
      · rw [hln, List.map_append]
        rw [List.take_of_length_le (by simp)] at hs4
        refine Stk.same hs4 fun b hb => ?_
        rw [AHeap.get_set, if_neg]
        intro hbT
        subst hbT
        rcases hn4 _ _ _ hb with h | h
        · exact ha1 _ _ h
        · omega
      · intro o s h
        rcases hn4 _ _ _ h with h | h
        · exact ha1 _ _ h
        · omega
      · intro o s h
        rcases hn4 _ _ _ h with h | h
        · exact ha2 _ _ h
        · omega
      · rw [AHeap.get_set, if_neg (Ne.symm ht.ne), hM4, List.map_append]; rfl
      · rw [List.map_append, List.nodup_append]
        refine ⟨hn, by simp, fun y hy z hz => ?_⟩
        simp only [List.map_cons, List.map_nil, List.mem_singleton] at hz
        subst hz
        obtain ⟨e, he, rfl⟩ := List.mem_map.1 hy
        exact hne e he
      · intro y v
        rw [List.mem_append, hes, List.getElem?_append]
        by_cases hv : v < items.length
        · rw [if_pos hv]
          refine ⟨fun h => h.elim id fun h => ?_, .inl⟩
          simp at h; omega
        · rw [if_neg hv, List.getElem?_eq_none (by omega : items.length ≤ v)]
          constructor
          · rintro (h | h)
            · cases h
            · simp at h; obtain ⟨rfl, rfl⟩ := h; simp
          · intro h
            have := (List.getElem?_eq_some_iff.1 h).1
            have hv' : v = items.length := by simp at this; omega
            subst hv'
            simp at h
            exact .inr (by simp [h])
      · exact e4.set ht.lt.1 _
      · simp; omega
      · intro b hb hbT hbM hbt
        rw [AHeap.get_set, if_neg hbT, hk4 b (by omega) (fun o s h => hbt ⟨o, s, items.length, c, .map (some M), by rw [hg, h]⟩), e3.get b (by omega), hget2 b hbM, e1.get b hb]
      · rintro b hb ⟨o, s, n, c2, y, h⟩
        have h' := hT5.symm.trans h
        simp only [Option.some.injEq, AObj.cells.injEq, List.cons.injEq, Value.slice.injEq] at h'
        obtain ⟨⟨⟨h1, h2, h3⟩, h4⟩, h5⟩ := h'
        rcases hn4 _ _ _ h1 with h | h
        · exact ⟨o, s, items.length, c, .map (some M), by rw [hg, h]⟩
        · omega
end Go.AX.Try
