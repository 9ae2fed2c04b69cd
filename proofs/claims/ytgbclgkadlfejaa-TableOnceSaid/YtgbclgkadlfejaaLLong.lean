/- long, Text, Item. -/
import Derived.Test.YtgbclgkadlfejaaLText
namespace Go.AX.Try
open Go Go.AX Go.AX.Lw Go.Proofs
set_option linter.unusedVariables false
set_option maxRecDepth 100000
def lenF (items : List It) (i : Int) : Nat := min 2049 (textOf items i).length
def sumL (items : List It) (l : List Int) : Nat := min 2049 (1 + (l.flatMap (textOf items)).length)
theorem sum_snoc (items : List It) (l : List Int) (v : Int) : sumL items (l ++ [v]) = min (sumL items l + lenF items v) 2049 := by
  unfold sumL lenF
  rw [List.flatMap_append]
  simp only [List.flatMap_cons, List.flatMap_nil, List.append_nil, List.length_append]
  omega
theorem long_any (H0 H : AHeap) (hw : Wf H) (T M : Nat) (items : List It) (hgood : Good items) (ht : Tab H0 H T M items) (hlen : items.length ≤ 2 ^ 40) :
    Does Try.prog orc 53 [.pointer (some ⟨T, 0, none⟩)] H fun r H' => ∃ cs, r = .ret (.slice (some ⟨H.next, 0, none⟩) items.length items.length) ∧ Ext H H' ∧ Wf H' ∧ H'.get H.next = some (.cells cs 0 true) ∧ ∀ i, i < items.length → cs[i]? = some (.int .i64 (lenF items i)) := by
  refine (Does.wf (Q := fun r H' => ∃ cs, r = .ret (.slice (some ⟨H.next, 0, none⟩) items.length items.length) ∧ Ext H H' ∧ H'.get H.next = some (.cells cs 0 true) ∧ ∀ i, i < items.length → cs[i]? = some (.int .i64 (lenF items i))) ?_ hw).mono fun r H' ⟨⟨a, h1, h2, h3⟩, h4⟩ => ⟨a, h1, h2, h4, h3⟩
  obtain ⟨ta, tc, hg, hs, _, _⟩ := ht.tab
  have q0 := cellAt_of hg (o := 0) (v := .slice ta items.length tc) rfl
  obtain ⟨n, hn⟩ : ∃ n, n = items.length := ⟨_, rfl⟩
  rw [← hn] at q0 ⊢
  have hms := makeSlice_ok (P := Try.prog) (t := 43) (e := 3) (z := .int .i64 0) (by_ := 8) (by kernel_rfl) (by kernel_rfl) rfl (by kernel_rfl) (by kernel_rfl) (k := .i64) (k' := .i64) (l := (n : Int)) (c := (n : Int)) (by omega)
  rw [Int.toNat_natCast] at hms
  have e1 := Ext.push H (.cells (List.replicate n (.int .i64 0)) 0 true)
  have q1 := cellAt_ext hw e1 q0
  refine Does.of Try.func53 (fun _ _ => rfl) rfl ?_
  repeat' ((conv => whnf); first
    | (refine Both.intro ?_ ?_ <;> intro _ <;> try (exfalso; omega))
    | (refine Need.intro (by omega) ?_)
    | (refine ⟨_, q0, ?_⟩)
    | (refine Gives.intro ⟨.pointer (some ⟨T, 0 + 0, none⟩), rfl, ?_⟩)
    | (refine ⟨_, _, _, hms, ?_⟩)
    | (refine ⟨_, q1, ?_⟩)
    | fail)
  all_goals (conv => whnf)
  refine Runs.loop (fun s : Nat × List Value => [(18, .int .i64 s.1), (17, .int .i64 n), (0, .pointer (some ⟨T, 0, none⟩)), (3, .slice (some ⟨H.next, 0, none⟩) n n)])
    (fun s H' => s.1 ≤ n ∧ Wf H' ∧ Ext H H' ∧ H'.get H.next = some (.cells s.2 0 true) ∧ s.2.length = n ∧ ∀ i, i < s.1 → s.2[i]? = some (.int .i64 (lenF items i))) (fun s => n - s.1) (0, List.replicate n (.int .i64 0))
    ⟨rfl, rfl, rfl, rfl, trivial⟩ ⟨by omega, hw.push _, e1, get_new _ _, by simp, by omega⟩ ?_
  rintro ⟨k, cs⟩ H2 ⟨hk, w2, e2, g2, hcs, hall⟩
  dsimp only at hk g2 hcs hall
  show vc _ _ _ _ _ [(18, .int .i64 k), (17, .int .i64 n), (0, .pointer (some ⟨T, 0, none⟩)), (3, .slice (some ⟨H.next, 0, none⟩) n n)] _ _
  by_cases hlt : k < n
  · obtain ⟨x, hx⟩ := get_of (l := items) (k := k) (by omega)
    have hcl := childs_len x
    have hT2 := takesT_le x.op
    have hst := store_ok (P := Try.prog) (H := H2) (t := 3) (b := H.next) (o := 0 + k) (v := .int .i64 1) (by kernel_rfl) rfl rfl g2 (by omega)
    have g3 : (H2.set H.next (.cells (cs.set (0 + k) (.int .i64 1)) 0 true)).get H.next = some (.cells (cs.set (0 + k) (.int .i64 1)) 0 true) := by rw [AHeap.get_set, if_pos rfl]
    have w3 := w2.set g2 (.cells (cs.set (0 + k) (.int .i64 1)) 0 true)
    have e3 := e2.set (Nat.le_refl _) (.cells (cs.set (0 + k) (.int .i64 1)) 0 true)
    have n3 : (H2.set H.next (.cells (cs.set (0 + k) (.int .i64 1)) 0 true)).next = H2.next := by simp
    obtain ⟨H3, hH3⟩ : ∃ H3, H3 = H2.set H.next (.cells (cs.set (0 + k) (.int .i64 1)) 0 true) := ⟨_, rfl⟩
    rw [← hH3] at hst g3 w3 e3 n3
    have ht3 := ht.ext hw e3
    repeat' ((conv => whnf); first
      | (refine Both.intro ?_ ?_ <;> intro _ <;> try (exfalso; omega))
      | (refine Need.intro (by omega) ?_)
      | (refine Outs.intro ⟨_, _, _, hst, ?_⟩)
      | (refine Does.mono (of_any H0 H3 w3 T M items ht3 k x hx (by omega)) ?_ ; rintro _ H4 ⟨ka, rfl, e4, w4, hrow, hka⟩)
      | fail)
    all_goals (conv => whnf)
    have g4 := (e4.get _ (w3.lt g3)).trans g3
    refine Runs.loop (fun s : Nat × List Value => [(28, .int .i64 s.1), (27, .int .i64 (takesT x.op)), (26, .slice ka (takesT x.op) 2), (4, .int .i64 k), (18, .int .i64 k), (17, .int .i64 n), (0, .pointer (some ⟨T, 0, none⟩)), (3, .slice (some ⟨H.next, 0, none⟩) n n)])
      (fun s H' => s.1 ≤ takesT x.op ∧ Wf H' ∧ Ext H H' ∧ H4.next ≤ H'.next ∧ (∀ b, b < H4.next → b ≠ H.next → H'.get b = H4.get b) ∧ H'.get H.next = some (.cells s.2 0 true) ∧ s.2.length = n ∧ (∀ i, i < k → s.2[i]? = some (.int .i64 (lenF items i))) ∧ s.2[k]? = some (.int .i64 (sumL items ((childs x).take s.1)))) (fun s => takesT x.op - s.1) (0, cs.set (0 + k) (.int .i64 1))
      ⟨rfl, rfl, rfl, rfl, rfl, rfl, rfl, rfl, trivial⟩ ⟨by simp, w4, e3.trans e4, Nat.le_refl _, fun _ _ _ => rfl, g4, by simp [hcs], fun i hi => by rw [List.getElem?_set_ne (by omega)]; exact hall i hi, by rw [Nat.zero_add, List.getElem?_set_self (by omega)]; rfl⟩ ?_
    rintro ⟨m, ds⟩ H5 ⟨hm, w5, e5, n5, f5, g5, hds, hall5, hcur⟩
    dsimp only at hm g5 hds hall5 hcur
    show vc _ _ _ _ _ [(28, .int .i64 m), (27, .int .i64 (takesT x.op)), (26, .slice ka (takesT x.op) 2), (4, .int .i64 k), (18, .int .i64 k), (17, .int .i64 n), (0, .pointer (some ⟨T, 0, none⟩)), (3, .slice (some ⟨H.next, 0, none⟩) n n)] _ _
    by_cases hlm : m < takesT x.op
    · obtain ⟨v, hv⟩ := get_of (l := childs x) (k := m) (by omega)
      obtain ⟨v', rfl⟩ : ∃ v' : Nat, v = v' := ⟨v.toNat, by have := hgood.below k x hx v (List.mem_of_getElem? hv); omega⟩
      have hvb := hgood.below k x hx _ (List.mem_of_getElem? hv)
      have hKl := hw
      have hrow5 : Row H5 ka (takesT x.op) 2 ((childs x).map (.int .i64)) := hrow.same fun b o st hb => f5 b (hka b o st hb).2 (fun hh => by have := (hka b o st hb).1; have := w3.lt g3; omega)
      obtain ⟨b, o, st, rfl, hcell⟩ := hrow5.cell m (.int .i64 v') (by rw [List.getElem?_map, hv]; rfl)
      have hsn : sumL items ((childs x).take (m + 1)) = min (sumL items ((childs x).take m) + lenF items v') 2049 := by rw [List.take_add_one, hv]; exact sum_snoc _ _ _
      have l1 : sumL items ((childs x).take m) ≤ 2049 := by unfold sumL; omega
      have l2 : lenF items v' ≤ 2049 := by unfold lenF; omega
      have pk := cellAt_of g5 (o := k) hcur
      have pv := cellAt_of g5 (o := v') (hall5 v' (by omega))
      have hst2 := fun w : Int => store_ok (P := Try.prog) (H := H5) (t := 3) (b := H.next) (o := 0 + k) (v := .int .i64 w) (by kernel_rfl) rfl rfl g5 (by omega)
      repeat' ((conv => whnf); first
        | (refine Both.intro ?_ ?_ <;> intro _ <;> try (exfalso; omega))
        | (refine Need.intro (by omega) ?_)
        | (refine ⟨_, hcell, ?_⟩)
        | (refine ⟨_, pk, ?_⟩)
        | (refine ⟨_, pv, ?_⟩)
        | (refine Outs.intro ⟨_, _, _, hst2 _, ?_⟩)
        | (refine Need.intro (DrawP.intro (by kernel_rfl)) ?_)
        | fail)
      all_goals (conv => whnf)
      · exact ⟨(m + 1, ds.set (0 + k) (.int .i64 2049)), ⟨rfl, rfl, rfl, rfl, rfl, rfl, rfl, rfl, trivial⟩, ⟨by show m + 1 ≤ _; omega, w5.set g5 _, e5.set (Nat.le_refl _) _, n5, fun b h1 h2 => by rw [AHeap.get_set, if_neg h2]; exact f5 b h1 h2, by rw [AHeap.get_set, if_pos rfl], by simp [hds], fun i hi => by dsimp only; rw [List.getElem?_set_ne (by omega)]; exact hall5 i hi, by dsimp only; rw [Nat.zero_add, List.getElem?_set_self (by omega), hsn]; exact congrArg (fun z => some (Value.int .i64 z)) (by omega)⟩, by dsimp only; omega⟩
      · exact ⟨(m + 1, ds.set (0 + k) (.int .i64 ((sumL items ((childs x).take m) : Int) + (lenF items v' : Int)))), ⟨rfl, rfl, rfl, rfl, rfl, rfl, rfl, rfl, trivial⟩, ⟨by show m + 1 ≤ _; omega, w5.set g5 _, e5.set (Nat.le_refl _) _, n5, fun b h1 h2 => by rw [AHeap.get_set, if_neg h2]; exact f5 b h1 h2, by rw [AHeap.get_set, if_pos rfl], by simp [hds], fun i hi => by dsimp only; rw [List.getElem?_set_ne (by omega)]; exact hall5 i hi, by dsimp only; rw [Nat.zero_add, List.getElem?_set_self (by omega), hsn]; exact congrArg (fun z => some (Value.int .i64 z)) (by omega)⟩, by dsimp only; omega⟩
    · obtain rfl : m = takesT x.op := by omega
      rw [List.take_of_length_le (by omega)] at hcur
      repeat' ((conv => whnf); first
        | (refine Both.intro ?_ ?_ <;> intro _ <;> try (exfalso; omega))
        | (refine Need.intro (by omega) ?_)
        | fail)
      all_goals (conv => whnf)
      refine ⟨(k + 1, ds), ⟨rfl, rfl, rfl, rfl, trivial⟩, ⟨by show k + 1 ≤ n; omega, w5, e5, g5, hds, fun i hi => ?_⟩, by dsimp only; omega⟩
      dsimp only at hi ⊢
      by_cases hik : i = k
      · subst hik
        rw [hcur]
        have : sumL items (childs x) = lenF items i := by
          unfold sumL lenF
          rw [text_step hgood hx, List.length_append]
          simp only [List.length_cons, List.length_nil]
          omega
        rw [this]
      · exact hall5 i (by omega)
  · obtain rfl : k = n := by omega
    repeat' ((conv => whnf); first
      | (refine Both.intro ?_ ?_ <;> intro _ <;> try (exfalso; omega))
      | (refine Need.intro (by omega) ?_)
      | fail)
    all_goals (conv => whnf)
    exact ⟨cs, rfl, e2, g2, hall⟩
theorem TFr.of_sfr {H H' : AHeap} {T M : Nat} {a : Option Addr} (hT : T < H.next) (f : SFr none H a H') : TFr H H' T M :=
  TFr.of_ext hT ⟨f.next, fun b hb => f.get b hb (by simp)⟩
theorem tText_any (H0 H : AHeap) (hw : Wf H) (T M : Nat) (items : List It) (hgood : Good items) (ht : Tab H0 H T M items) (hlen : items.length ≤ 2 ^ 40) (i : Nat) (hi : i < items.length) (hs : (textOf items i).length ≤ 2048) :
    Does Try.prog orc 28 [.pointer (some ⟨T, 0, none⟩), .int .i64 i] H fun r H' => ∃ a n c, r = .ret (.tuple #[.slice a n c, .int .i64 0]) ∧ Ext H H' ∧ Wf H' ∧ RowS H' a n c 2 ((textOf items i).map Tk.cells) := by
  refine (Does.wf (Q := fun r H' => ∃ a n c, r = .ret (.tuple #[.slice a n c, .int .i64 0]) ∧ Ext H H' ∧ RowS H' a n c 2 ((textOf items i).map Tk.cells)) ?_ hw).mono fun r H' ⟨⟨a, n, c, h1, h2, h3⟩, h4⟩ => ⟨a, n, c, h1, h2, h4, h3⟩
  refine Does.of Try.func28 (fun _ _ => rfl) rfl ?_
  have hask := asked_any H0 H T M items ht i
  rw [if_pos (by omega)] at hask
  have hl := ht.lt2 hw
  repeat' ((conv => whnf); first
    | (refine Both.intro ?_ ?_ <;> intro _ <;> try (exfalso; omega))
    | (refine Need.intro (by omega) ?_)
    | (refine Does.mono hask ?_ ; rintro _ _ ⟨rfl, rfl⟩)
    | (refine Does.mono (long_any H0 H hw T M items hgood ht hlen) ?_ ; rintro _ H1 ⟨cs, rfl, e1, w1, g1, hall⟩)
    | fail)
  all_goals (conv => whnf)
  have p0 := cellAt_of g1 (o := i) (hall i hi)
  have hle : lenF items i ≤ 2048 := by unfold lenF; omega
  have ht1 := ht.ext hw e1
  have htx := text_any H0 H1 T M items hgood hlen ht1.base.next (ht1.lt2 w1).1 (ht1.lt2 w1).2 i H1 none 0 0 [] w1 (Nat.le_refl _) ht1 (fun b hb => (TabB.lt ht1 w1 hb).1) (Stk.nil _ _ _ _) hi (by omega)
  repeat' ((conv => whnf); first
    | (refine Both.intro ?_ ?_ <;> intro _ <;> try (exfalso; omega))
    | (refine Need.intro (by omega) ?_)
    | (refine ⟨_, p0, ?_⟩)
    | (refine Does.mono htx ?_ ; rintro _ H2 ⟨a2, c2, rfl, w2, f2, hst2⟩)
    | fail)
  all_goals (conv => whnf)
  refine ⟨a2, _, c2, rfl, ⟨Nat.le_trans e1.next f2.next, fun b hb => (f2.get b (Nat.lt_of_lt_of_le hb e1.next) (by simp)).trans (e1.get b hb)⟩, ?_⟩
  have := hst2.row
  simpa using this
theorem tItem_any (H0 H : AHeap) (hw : Wf H) (T M : Nat) (items : List It) (ht : Tab H0 H T M items) (i : Nat) (x : It) (hx : items[i]? = some x) (hi : i ≤ 2 ^ 40) :
    Does Try.prog orc 29 [.pointer (some ⟨T, 0, none⟩), .int .i64 i] H fun r H' => r = .ret (.tuple #[.agg x.cells.toArray, .int .i64 0]) ∧ Ext H H' ∧ Wf H' := by
  refine (Does.wf (Q := fun r H' => r = .ret (.tuple #[.agg x.cells.toArray, .int .i64 0]) ∧ Ext H H') ?_ hw).mono fun r H' ⟨⟨h1, h2⟩, h3⟩ => ⟨h1, h2, h3⟩
  have hil := (List.getElem?_eq_some_iff.1 hx).1
  have hzi : zeroOf Try.prog 54 = some (.agg #[.int .u8 0, .int .u8 0, .int .i64 0, .int .i64 0]) := by kernel_rfl
  have e1 := Ext.push H (.cells [.int .u8 0, .int .u8 0, .int .i64 0, .int .i64 0] (typedV 54) true)
  have g1 := get_new H (.cells [.int .u8 0, .int .u8 0, .int .i64 0, .int .i64 0] (typedV 54) true)
  have ht1 := ht.ext hw e1
  have hask := asked_any H0 _ T M items ht1 i
  rw [if_pos (by omega)] at hask
  obtain ⟨a, c, hg, hs, _, _⟩ := ht1.tab
  have hcap := hs.2.1
  obtain ⟨b, o, st, rfl, hcell⟩ := hs.row.cell i x.cells (by rw [List.getElem?_map, hx]; rfl)
  have q0 := cellAt_of hg (o := 0) (v := .slice (some ⟨b, o, st⟩) items.length c) rfl
  have hs5 := storeAgg_ok (P := Try.prog) (t := 54) (vs := x.cells) (by kernel_rfl) rfl g1 rfl
  have q5 : ((H.push (.cells [.int .u8 0, .int .u8 0, .int .i64 0, .int .i64 0] (typedV 54) true)).set H.next (.cells x.cells (typedV 54) true)).get H.next = some (.cells x.cells (typedV 54) true) := by rw [AHeap.get_set, if_pos rfl]
  refine Does.of Try.func29 (fun _ _ => rfl) rfl ?_
  repeat' ((conv => whnf); first
    | (refine Both.intro ?_ ?_ <;> intro _ <;> try (exfalso; omega))
    | (refine Need.intro (by omega) ?_)
    | (refine Gives.intro ⟨_, hzi, ?_⟩)
    | (refine Does.mono hask ?_ ; rintro _ _ ⟨rfl, rfl⟩)
    | (refine ⟨_, q0, ?_⟩)
    | (refine Gives.intro ⟨.pointer (some ⟨T, 0 + 0, none⟩), rfl, ?_⟩)
    | (refine ⟨_, hcell, ?_⟩)
    | (refine Gives.intro ⟨.agg #[.int .u8 _, .int .u8 _, .int .i64 _, .int .i64 _], rfl, ?_⟩)
    | (refine Outs.intro ⟨_, _, _, hs5, ?_⟩)
    | (refine ⟨_, cellsAt_all (n := 4) q5 rfl, ?_⟩)
    | fail)
  all_goals (conv => whnf)
  exact ⟨rfl, e1.set (Nat.le_refl _) _⟩
end Go.AX.Try
