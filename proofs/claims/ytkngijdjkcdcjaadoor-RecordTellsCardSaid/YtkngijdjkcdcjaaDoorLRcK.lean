/- Automata that are lent and kept, strategies that are copied. -/
import Derived.Test.YtkngijdjkcdcjaaDoorLRcH
namespace Go.AX.Lw
open Go Go.AX
set_option linter.unusedVariables false
variable {P : Program}
/-- append([]T{}, l...). -/
theorem appEmpty_ok {H : AHeap} (hw : Wf H) {ts : Array TypeId} {e : TypeId} {by_ : Nat} (ty : AppTy P ts e by_) {a : Option Addr} {n c : Nat} {vs : List Value} (hr : Row H a n c vs) (hone : allOne vs = true) (hb : n * by_ ≤ 2 ^ 47) (hb1 : n ≤ 2 ^ 47) :
    ∃ a' H' ev, aAppend P (H.push (.cells [] 0 true)) ts [.slice (some ⟨H.next, 0, none⟩) 0 0, .slice a n c] = some (.val (.slice a' n n) H' ev) ∧ Ext H H' ∧ Wf H' ∧ Row H' a' n n vs ∧ ∃ b st code, a' = some ⟨b, 0, st⟩ ∧ H.next ≤ b ∧ H'.get b = some (.cells vs code true) ∧ (code = 0 ∨ code = rowV e 1) := by
  have hlen := hr.len
  have hs := (hr.ext hw (Ext.push H (.cells [] 0 true))).src
  rw [append_eq ty hs]
  by_cases h0 : n = 0
  · subst h0
    obtain rfl := List.length_eq_zero_iff.1 hlen.symm
    refine ⟨some ⟨H.next, 0, none⟩, (H.push (.cells [] 0 true)).set H.next (.cells [] 0 true), .eff (H.push (.cells [] 0 true)) ((H.push (.cells [] 0 true)).set H.next (.cells [] 0 true)), ?_, (Ext.push _ _).set (Nat.le_refl _) _, (hw.push _).set (get_new _ _) _, ⟨rfl, Nat.le_refl _, fun i x h => by simp at h⟩, _, _, 0, rfl, Nat.le_refl _, by rw [AHeap.get_set, if_pos rfl], .inl rfl⟩
    unfold aAppendTo
    have h1 : Nat.ble ((0 + 0) * by_) (2 ^ 47) = true := by simp
    simp only [h1, AHeap.get_push, if_pos]
    rfl
  · refine ⟨some ⟨H.next + 1, 0, some 0⟩, (H.push (.cells [] 0 true)).push (.cells vs (rowV e 1) true), .eff (H.push (.cells [] 0 true)) ((H.push (.cells [] 0 true)).push (.cells vs (rowV e 1) true)), ?_, (Ext.push _ _).trans (Ext.push _ _), (hw.push _).push _, Row.of_block (by rw [AHeap.get_push, if_pos (by rfl)]) hlen (Nat.le_refl _) (List.prefix_refl _), _, _, rowV e 1, rfl, by omega, by rw [AHeap.get_push, if_pos (by rfl)], .inr rfl⟩
    have c1 : (Nat.ble ((0 + n) * by_) (2 ^ 47) && Nat.ble (0 + n) (2 ^ 47) && Nat.beq vs.length (n * 1) && Nat.ble 0 0 && allOne vs) = true := by
      simp only [Nat.zero_add, Nat.mul_one, ← hlen, nbeq, hone, nble hb, nble hb1, Bool.and_true, Bool.true_and]
      rfl
    unfold aAppendTo
    simp only [c1, cond_true]
    rw [nble_no (by omega : ¬ 0 + n ≤ 0)]
    simp only [cond_false, Nat.zero_mul, show Nat.beq 0 0 = true from rfl, cond_true, List.nil_append, Nat.zero_add, AHeap.next_push]
theorem repZ_three (z : Value) : ∀ n, repZ [z, z, z] n = List.replicate (n * 3) z
  | 0 => by simp [repZ]
  | n + 1 => by rw [repZ, repZ_three z n, show (n + 1) * 3 = n * 3 + 1 + 1 + 1 by omega]; rfl
end Go.AX.Lw
namespace Go.AX.Tryd
open Go Go.AX Go.AX.Lw Go.Proofs
set_option linter.unusedVariables false
set_option linter.unusedSimpArgs false
set_option maxRecDepth 100000
theorem ints_one (l : List Int) : allOne (ints l) = true := by simp [allOne, ints, oneV]
theorem bools_one (l : List Bool) : allOne (bools l) = true := by simp [allOne, bools, oneV]
theorem lets_one (l : List Int) : allOne (lets l) = true := by simp [allOne, lets, oneV]
theorem letTyR : AppTy Tryd.prog #[28, 28] 59 1 := ⟨by kernel_rfl, by kernel_rfl, by kernel_rfl, by kernel_rfl, by decide, ⟨.int .u8 0, by kernel_rfl, by kernel_rfl⟩⟩
theorem llTyR : AppTy Tryd.prog #[27, 27] 28 24 := ⟨by kernel_rfl, by kernel_rfl, by kernel_rfl, by kernel_rfl, by decide, ⟨.slice none 0 0, by kernel_rfl, by kernel_rfl⟩⟩
theorem copyInts_any (H : AHeap) (hw : Wf H) (a : Option Addr) (n c : Nat) (xs : List Int) (hr : Row H a n c (ints xs)) (hn : n ≤ 2 ^ 40) :
    Does Tryd.prog orc 14 [.slice a n c] H fun r H' => ∃ a', r = .ret (.slice a' n n) ∧ Ext H H' ∧ Wf H' ∧ Row H' a' n n (ints xs) ∧ ∃ b st, a' = some ⟨b, 0, st⟩ ∧ H.next ≤ b := by
  refine Does.of Tryd.func14 (fun _ _ => rfl) rfl ?_
  obtain ⟨a', H', ev, happ, e1, w1, r1, b, st, _, x1, x2, -⟩ := appEmpty_ok hw intTyR hr (ints_one _) (by omega) (by omega)
  repeat' ((conv => whnf); first
    | (refine Both.intro ?_ ?_ <;> intro _ <;> try (exfalso; omega))
    | (refine Need.intro (by omega) ?_)
    | (refine ⟨[], by kernel_rfl, ?_⟩)
    | (refine Outs.intro ⟨_, _, _, happ, ?_⟩)
    | fail)
  all_goals (conv => whnf)
  exact ⟨a', rfl, e1, w1, r1, b, st, x1, x2⟩
theorem copyLets_any (H : AHeap) (hw : Wf H) (a : Option Addr) (n c : Nat) (xs : List Int) (hr : Row H a n c (lets xs)) (hn : n ≤ 2 ^ 47) :
    Does Tryd.prog orc 15 [.slice a n c] H fun r H' => ∃ a', r = .ret (.slice a' n n) ∧ Ext H H' ∧ Wf H' ∧ Row H' a' n n (lets xs) ∧ ∃ b st code, a' = some ⟨b, 0, st⟩ ∧ H.next ≤ b ∧ H'.get b = some (.cells (lets xs) code true) ∧ (code = 0 ∨ code = rowV 59 1) := by
  refine Does.of Tryd.func15 (fun _ _ => rfl) rfl ?_
  obtain ⟨a', H', ev, happ, e1, w1, r1, x1⟩ := appEmpty_ok hw letTyR hr (lets_one _) (by omega) (by omega)
  repeat' ((conv => whnf); first
    | (refine Both.intro ?_ ?_ <;> intro _ <;> try (exfalso; omega))
    | (refine Need.intro (by omega) ?_)
    | (refine ⟨[], by kernel_rfl, ?_⟩)
    | (refine Outs.intro ⟨_, _, _, happ, ?_⟩)
    | fail)
  all_goals (conv => whnf)
  exact ⟨a', rfl, e1, w1, r1, x1⟩
/-- What LentInts lays behind the numbers. -/
abbrev mI (n k : Nat) : Value := .int .i64 (7700 + ((n + k : Nat) : Int))
abbrev z64 : Value := .int .i64 0
def mkI (n : Nat) : Nat → List Value
  | 0 => [z64, z64, z64]
  | 1 => [mI n 0, z64, z64]
  | 2 => [mI n 0, mI n 1, z64]
  | _ => [mI n 0, mI n 1, mI n 2]
def marksI (n : Nat) : List Value := mkI n 3
theorem mkI_set (ss : List Int) (k : Nat) (hk : k < 3) : (ints ss ++ mkI ss.length k).set (ss.length + k) (mI ss.length k) = ints ss ++ mkI ss.length (k + 1) := by
  rw [List.set_append_right _ _ (by simp)]
  congr 1
  have : k = 0 ∨ k = 1 ∨ k = 2 := by omega
  rcases this with rfl | rfl | rfl <;> simp [mkI]
theorem mkI_len (n k : Nat) : (mkI n k).length = 3 := by unfold mkI; split <;> rfl
theorem lentInts_any (H : AHeap) (hw : Wf H) (a : Option Addr) (n c : Nat) (ss : List Int) (hr : Row H a n c (ints ss)) (hn : n ≤ 2 ^ 30) :
    Does Tryd.prog orc 13 [.slice a n c] H fun r H' => ∃ b, r = .ret (.slice (some ⟨b, 0, none⟩) n (n + 3)) ∧ Ext H H' ∧ Wf H' ∧ H.next ≤ b ∧ H'.get b = some (.cells (ints ss ++ marksI n) 0 true) := by
  have hlen := hr.len; simp at hlen
  have hcap := hr.cap
  refine (Does.wf (Q := fun r H' => ∃ b, r = .ret (.slice (some ⟨b, 0, none⟩) n (n + 3)) ∧ Ext H H' ∧ H.next ≤ b ∧ H'.get b = some (.cells (ints ss ++ marksI n) 0 true)) ?_ hw).mono fun r H' ⟨⟨b, h1, h2, h3, h4⟩, h5⟩ => ⟨b, h1, h2, h5, h3, h4⟩
  refine Does.of Tryd.func13 (fun _ _ => rfl) rfl ?_
  have hmk : aMakeSlice Tryd.prog 23 (.int .i64 ((n : Int) + 3)) (.int .i64 ((n : Int) + 3)) = mkSlice (List.replicate (n + 3) (.int .i64 0)) (n + 3) (n + 3) := by
    have := makeSlice_ok (P := Tryd.prog) (k := .i64) (k' := .i64) (l := (n : Int) + 3) (c := (n : Int) + 3) Tryd.underlying23 (z := .int .i64 0) (by kernel_rfl) rfl (by_ := 8) (by kernel_rfl) (by kernel_rfl) (by omega)
    rwa [show ((n : Int) + 3).toNat = n + 3 by omega] at this
  have hg := get_new H (.cells (List.replicate (n + 3) (.int .i64 0)) 0 true)
  obtain ⟨H1, ev, hc, hb, hg1⟩ := copy_ok (P := Tryd.prog) (ts := #[23, 23]) (e := 3) (by kernel_rfl) (by kernel_rfl) (hr.ext hw (Ext.push H (.cells (List.replicate (n + 3) (.int .i64 0)) 0 true))) (st := none) (dl := n + 3) (dc := n + 3) hg (by omega) (by omega) (by simp) (ints_one _)
  have hd : (List.replicate (n + 3) (Value.int .i64 0)).drop n = [.int .i64 0, .int .i64 0, .int .i64 0] := by rw [List.drop_replicate, show n + 3 - n = 3 by omega]; rfl
  rw [hd] at hg1
  repeat' ((conv => whnf); first
    | (refine Both.intro ?_ ?_ <;> intro _ <;> try (exfalso; omega))
    | (refine Need.intro (by omega) ?_)
    | (refine ⟨_, _, _, hmk, ?_⟩)
    | (refine Outs.intro ⟨_, H1, ev, hc, ?_⟩)
    | fail)
  all_goals (conv => whnf)
  refine Runs.loop (fun k : Nat => [(4, .int .i64 ((n + k : Nat) : Int)), (3, .slice (some ⟨H.next, 0, none⟩) (n + 3) (n + 3)), (0, .slice a n c)])
    (fun k H' => k ≤ 3 ∧ But H.next H1 H' ∧ H'.get H.next = some (.cells (ints ss ++ mkI n k) 0 true)) (fun k => 3 - k) 0 ⟨rfl, rfl, rfl, trivial⟩ ⟨by omega, But.refl _ _, hg1⟩ ?_
  rintro k H2 ⟨hk, hb2, hg2⟩
  by_cases hlt : k < 3
  · have hst := store_ok (P := Tryd.prog) (t := 3) (b := H.next) (o := 0 + (n + k)) (v := mI n k) (by kernel_rfl) rfl rfl hg2 (by simp [mkI_len]; omega)
    repeat' ((conv => whnf); first
      | (refine Both.intro ?_ ?_ <;> intro _ <;> try (exfalso; omega))
      | (refine Need.intro (by omega) ?_)
      | (refine Outs.intro ⟨_, _, _, hst, ?_⟩)
      | fail)
    all_goals (conv => whnf)
    exact ⟨k + 1, ⟨rfl, rfl, rfl, trivial⟩, ⟨by omega, ⟨hb2.next, fun b hb => by rw [AHeap.get_set, if_neg hb]; exact hb2.get b hb⟩, by rw [AHeap.get_set, if_pos rfl, Nat.zero_add, hlen, mkI_set ss k hlt]⟩, by omega⟩
  · obtain rfl : k = 3 := by omega
    repeat' ((conv => whnf); first
      | (refine Both.intro ?_ ?_ <;> intro _ <;> try (exfalso; omega))
      | (refine Need.intro (by omega) ?_)
      | (refine Gives.intro ⟨_, slice_toN Tryd.underlying23 (n := 1) (by kernel_rfl) (by omega), ?_⟩)
      | fail)
    all_goals (conv => whnf)
    exact ⟨H.next, rfl, ⟨by rw [hb2.next, hb.next]; simp, fun b hb' => by rw [hb2.get b (by omega), hb.get b (by omega), AHeap.get_push, if_neg (by omega)]⟩, Nat.le_refl _, hg2⟩
theorem keptInts_any (H : AHeap) (hw : Wf H) (b : Nat) (a : Option Addr) (n c : Nat) (ss : List Int) (hr : Row H a n c (ints ss)) (hg : H.get b = some (.cells (ints ss ++ marksI n) 0 true)) (hn : n ≤ 2 ^ 30) :
    Does Tryd.prog orc 25 [.slice (some ⟨b, 0, none⟩) n (n + 3), .slice a n c] H fun r H' => r = .ret (.bool true) ∧ Ext H H' ∧ Wf H' := by
  have hlen := hr.len; simp at hlen
  have hcap := hr.cap
  have hmI : ∃ ms, ints ss ++ marksI n = ints ms ∧ ms.length = n + 3 := ⟨ss ++ [7700 + ((n + 0 : Nat) : Int), 7700 + ((n + 1 : Nat) : Int), 7700 + ((n + 2 : Nat) : Int)], by simp [marksI, mkI], by simp; omega⟩
  obtain ⟨ms, hms, hml⟩ := hmI
  rw [hms] at hg
  refine Does.of Tryd.func25 (fun _ _ => rfl) rfl ?_
  repeat' ((conv => whnf); first
    | (refine Both.intro ?_ ?_ <;> intro _ <;> try (exfalso; omega))
    | (refine Need.intro (by omega) ?_)
    | (refine Gives.intro ⟨_, slice_toN Tryd.underlying23 (n := 1) (by kernel_rfl) (Nat.le_refl _), ?_⟩)
    | (refine Does.mono (lentInts_any H hw a n c ss hr hn) ?_ ; rintro _ H1 ⟨b1, rfl, e1, w1, hb1, g1⟩ ; rw [hms] at g1)
    | fail)
  all_goals (conv => whnf)
  have hsl : aSlice Tryd.prog 23 (.slice (some ⟨b1, 0, none⟩) n (n + 3)) none (some (.int .i64 ((n : Int) + 3))) none = some (.slice (some ⟨b1, 0, none⟩) (n + 3) (n + 3)) := slice_toN (k := .i64) (m := n + 3) Tryd.underlying23 (n := 1) (by kernel_rfl) (Nat.le_refl _)
  have hs := sameInts_any H1 (some ⟨b, 0, none⟩) (some ⟨b1, 0, none⟩) (n + 3) (n + 3) (n + 3) (n + 3) ms ms ((Row.of_block hg (by simp [hml]) (Nat.le_refl _) (List.prefix_refl _)).ext hw e1) (Row.of_block g1 (by simp [hml]) (Nat.le_refl _) (List.prefix_refl _)) (by omega) (by omega)
  repeat' ((conv => whnf); first
    | (refine Both.intro ?_ ?_ <;> intro _ <;> try (exfalso; omega))
    | (refine Need.intro (by omega) ?_)
    | (refine Gives.intro ⟨_, hsl, ?_⟩)
    | (refine Does.mono hs ?_ ; rintro _ _ ⟨b2, rfl, hb2, rfl⟩ ; cases (hb2.2 rfl))
    | fail)
  all_goals (conv => whnf)
  repeat' ((conv => whnf); first
    | (refine Both.intro ?_ ?_ <;> intro _ <;> try (exfalso; omega))
    | (refine Need.intro (by omega) ?_)
    | (refine Need.intro (draw_of (by simp only [effAll, lookAll, and_self])) ?_)
    | fail)
  all_goals (conv => whnf)
  exact ⟨rfl, e1, w1⟩
def ndFl (l : List Nd) : List Value := l.flatMap ndC
theorem ndFl_len (l : List Nd) : (ndFl l).length = l.length * 3 := by
  induction l with
  | nil => rfl
  | cons z r ih => simp only [ndFl, List.flatMap_cons, List.length_append, List.length_cons] at ih ⊢; rw [ih]; simp [ndC]; omega
theorem ndFl_at : ∀ (l : List Nd) (t : List Value) (i : Nat) (z : Nd), l[i]? = some z → takeN 3 (dropN (i * 3) (ndFl l ++ t)) = some (ndC z)
  | [], t, i, z, h => by simp at h
  | y :: r, t, 0, z, h => by simp at h; subst h; rfl
  | y :: r, t, i + 1, z, h => by
    have := ndFl_at r t i z (by simpa using h)
    rw [show (i + 1) * 3 = i * 3 + 1 + 1 + 1 by omega]
    exact this
theorem ndFl_rows {H : AHeap} {b e : Nat} {own : Bool} {l : List Nd} {t : List Value} {c : Nat} {st : Option Nat} (hg : H.get b = some (.cells (ndFl l ++ t) e own)) (hc : l.length ≤ c) : RowS H (some ⟨b, 0, st⟩) l.length c 3 (nds l) :=
  ⟨by simp, hc, fun x hx => by obtain ⟨z, -, rfl⟩ := List.mem_map.1 hx; rfl, fun i x hx => by
    rw [List.getElem?_map, Option.map_eq_some_iff] at hx
    obtain ⟨z, hz, rfl⟩ := hx
    exact ⟨b, 0, st, rfl, by unfold cellsAt; rw [hg, Nat.zero_add]; exact ndFl_at l t i z hz⟩⟩
theorem flat3_get : ∀ (l : List Nd) (i : Nat) (z : Nd) (j : Nat), l[i]? = some z → j < 3 → (ndFl l)[i * 3 + j]? = (ndC z)[j]?
  | [], i, z, j, h, _ => by simp at h
  | y :: r, 0, z, j, h, hj => by simp at h; subst h; rw [Nat.zero_mul, Nat.zero_add, ndFl, List.flatMap_cons, List.getElem?_append_left (by simpa [ndC] using hj)]
  | y :: r, i + 1, z, j, h, hj => by
    have := flat3_get r i z j (by simpa using h) hj
    rw [show (i + 1) * 3 + j = i * 3 + j + 1 + 1 + 1 by omega]
    exact this
theorem nds_src {H : AHeap} {a : Option Addr} {n c : Nat} {l : List Nd} (h : RowS H a n c 3 (nds l)) : srcCells H 3 (.slice a n c) = some (n, ndFl l) := by
  have hlen := h.len; simp at hlen
  by_cases h0 : n = 0
  · subst h0
    obtain rfl := List.length_eq_zero_iff.1 hlen.symm
    cases a <;> rfl
  obtain ⟨x0, hx0⟩ : ∃ x, l[0]? = some x := ⟨_, List.getElem?_eq_getElem (by omega)⟩
  obtain ⟨b, o, st, rfl, hc0⟩ := h.cell 0 (ndC x0) (by simp [hx0])
  unfold srcCells
  simp only [nbeq_no h0, nble h.cap, cond_false, cond_true]
  have : cellsAt H b o (n * 3) = some (ndFl l) := by
    unfold cellsAt at hc0 ⊢
    cases hg : H.get b with
    | none => rw [hg] at hc0; cases hc0
    | some ob =>
      cases ob with
      | cells cs e ow =>
        rw [hg] at hc0
        refine takeN_of _ _ _ (by rw [ndFl_len, ← hlen]) fun i x hx => ?_
        have hi := (List.getElem?_eq_some_iff.1 hx).1
        rw [ndFl_len] at hi
        obtain ⟨y, hy⟩ : ∃ y, l[i / 3]? = some y := ⟨_, List.getElem?_eq_getElem (by omega)⟩
        obtain ⟨b', o', st', he, hc⟩ := h.cell (i / 3) (ndC y) (by simp [hy])
        cases he
        unfold cellsAt at hc
        rw [hg] at hc
        obtain ⟨q1, q2⟩ := takeN_get hc
        have h1 := flat3_get l (i / 3) y (i % 3) hy (Nat.mod_lt _ (by decide))
        rw [show i / 3 * 3 + i % 3 = i by omega, hx] at h1
        have h2 := q2 (i % 3) (Nat.mod_lt _ (by decide))
        rw [dropN_get, ← h1, show o + i / 3 * 3 + i % 3 = o + i by omega] at h2
        rw [dropN_get]; exact h2.symm
      | _ => rw [hg] at hc0; cases hc0
  rw [this]
theorem ndFl_one (l : List Nd) : allOne (ndFl l) = true := by
  unfold allOne
  rw [List.all_eq_true]
  intro x hx
  obtain ⟨z, -, hz⟩ := List.mem_flatMap.1 hx
  simp only [ndC, List.mem_cons, List.not_mem_nil, or_false] at hz
  rcases hz with rfl | rfl | rfl <;> rfl
/-- copy of nodes. -/
theorem copyN_ok {H : AHeap} {a : Option Addr} {m c : Nat} {l : List Nd} (hr : RowS H a m c 3 (nds l)) {b dc e0 : Nat} {st : Option Nat} {ds : List Value}
    (hg : H.get b = some (.cells ds e0 true)) (hd : m ≤ dc) (hl : m * 3 ≤ ds.length) :
    ∃ H1 ev, aCopy Tryd.prog H #[24, 24] [.slice (some ⟨b, 0, st⟩) m dc, .slice a m c] = some (.val (.int .i64 m) H1 ev) ∧ But b H H1 ∧ H1.get b = some (.cells (ndFl l ++ ds.drop (m * 3)) e0 true) := by
  have hlen := hr.len; simp at hlen
  have hsrc : srcCells H 3 (.slice a (Nat.min m m) c) = some (m, ndFl l) := by
    rw [show Nat.min m m = m from Nat.min_self m]; exact nds_src hr
  have hc : (Nat.beq m (Nat.min m m) && Nat.beq (ndFl l).length (m * 3) && Nat.ble m dc && allOne (ndFl l)) = true := by
    rw [show Nat.min m m = m from Nat.min_self m, ndFl_len, ← hlen]
    simp only [nbeq, nble hd, ndFl_one, Bool.and_self]
  have heq : aCopy Tryd.prog H #[24, 24] [.slice (some ⟨b, 0, st⟩) m dc, .slice a m c] = aCopyTo H (some ⟨b, 0, st⟩) m (ndFl l) := by
    have hs : sizeT Tryd.prog 53 = some 3 := by kernel_rfl
    have h0 : (#[24, 24] : Array TypeId)[0]? = some 24 := rfl
    unfold aCopy
    simp only [h0, Tryd.underlying24, hs, cutSrc, hsrc, hc, cond_true]
  rw [heq]
  by_cases h0 : m = 0
  · subst h0
    obtain rfl := List.length_eq_zero_iff.1 hlen.symm
    exact ⟨H, _, rfl, But.refl b H, by simpa [ndFl] using hg⟩
  · refine ⟨H.set b (.cells (ndFl l ++ ds.drop (m * 3)) e0 true), .eff H (H.set b (.cells (ndFl l ++ ds.drop (m * 3)) e0 true)), ?_, But.set b H _, by rw [AHeap.get_set, if_pos rfl]⟩
    unfold aCopyTo
    simp only [nbeq_no h0, cond_false, hg]
    rw [putAt_list ds 0 (ndFl l) (by rw [ndFl_len]; omega)]
    simp [ndFl_len, ← hlen]
/-- An automaton that is lent. -/
structure LentA (H0 H : AHeap) (A : Aut) (b1 b2 b3 : Nat) : Prop where
  g1 : H.get b1 = some (.cells (bools A.acc ++ [.bool false, .bool false, .bool false]) 0 true)
  g2 : H.get b2 = some (.cells (ints A.gd ++ marksI A.gd.length) 0 true)
  g3 : H.get b3 = some (.cells (ndFl A.nd ++ List.replicate 9 z64) 0 true)
  l1 : H0.next ≤ b1
  l2 : H0.next ≤ b2
  l3 : H0.next ≤ b3
theorem zeroA : zeroOf Tryd.prog 26 = some (.agg #[.int .i64 0, .slice none 0 0, .slice none 0 0, .slice none 0 0]) := by kernel_rfl
theorem lentAuto_any (H : AHeap) (hw : Wf H) (A : Aut) (a1 a2 a3 : Option Addr) (n1 c1 n2 c2 n3 c3 : Nat) (R : AutR H A a1 n1 c1 a2 n2 c2 a3 n3 c3) (h1 : n1 ≤ 2 ^ 30) (h2 : n2 ≤ 2 ^ 30) (h3 : n3 ≤ 2 ^ 30) :
    Does Tryd.prog orc 5 [autV A a1 n1 c1 a2 n2 c2 a3 n3 c3] H fun r H' => ∃ b1 b2 b3, r = .ret (autV A (some ⟨b1, 0, none⟩) n1 (n1 + 3) (some ⟨b2, 0, none⟩) n2 (n2 + 3) (some ⟨b3, 0, none⟩) n3 (n3 + 3)) ∧ Ext H H' ∧ Wf H' ∧ LentA H H' A b1 b2 b3 := by
  have l1 := R.acc.len; simp at l1
  have l2 := R.gd.len; simp at l2
  have l3 := R.nd.len; simp at l3
  refine Does.of Tryd.func5 (fun _ _ => rfl) rfl ?_
  have g0 := get_new H (.cells (autC A a1 n1 c1 a2 n2 c2 a3 n3 c3) 0 true)
  have w0 := hw.push (.cells (autC A a1 n1 c1 a2 n2 c2 a3 n3 c3) 0 true)
  have e0 := Ext.push H (.cells (autC A a1 n1 c1 a2 n2 c2 a3 n3 c3) 0 true)
  have q0 := cellAt_of g0 (o := 0) rfl
  have q1 := cellAt_of g0 (o := 1) rfl
  have q2 := cellAt_of g0 (o := 2) rfl
  have q3 := cellAt_of g0 (o := 3) rfl
  repeat' ((conv => whnf); first
    | (refine Both.intro ?_ ?_ <;> intro _ <;> try (exfalso; omega))
    | (refine Need.intro (by omega) ?_)
    | (refine ⟨_, q0, ?_⟩)
    | (refine ⟨_, q1, ?_⟩)
    | (refine ⟨_, q2, ?_⟩)
    | (refine ⟨_, q3, ?_⟩)
    | (refine Gives.intro ⟨_, zeroA, ?_⟩)
    | fail)
  all_goals (conv => whnf)
  obtain ⟨Z, hZ⟩ : ∃ Z, Z = (H.push (.cells (autV A a1 n1 c1 a2 n2 c2 a3 n3 c3).cells.toList 0 true)).push (.cells (Value.agg #[.int .i64 0, .slice none 0 0, .slice none 0 0, .slice none 0 0]).cells.toList (typedV 26) true) := ⟨_, rfl⟩
  rw [← hZ]
  have gZ : Z.get (H.next + 1) = some (.cells [.int .i64 0, .slice none 0 0, .slice none 0 0, .slice none 0 0] (typedV 26) true) := by rw [hZ]; exact get_new _ _
  have wZ : Wf Z := by rw [hZ]; exact w0.push _
  have eZ : Ext (H.push (.cells (autC A a1 n1 c1 a2 n2 c2 a3 n3 c3) 0 true)) Z := by rw [hZ]; exact Ext.push _ _
  have nZ : Z.next = H.next + 2 := by rw [hZ]; rfl
  have p0 := cellAt_ext w0 eZ q0
  have p2 := cellAt_ext w0 eZ q2
  repeat' ((conv => whnf); first
    | (refine Both.intro ?_ ?_ <;> intro _ <;> try (exfalso; omega))
    | (refine Need.intro (by omega) ?_)
    | (refine ⟨_, p0, ?_⟩)
    | (refine ⟨_, p2, ?_⟩)
    | (refine Does.mono (lentInts_any Z wZ a2 n2 c2 A.gd (R.gd.ext hw (e0.trans eZ)) h2) ?_ ; rintro _ H1 ⟨b2, rfl, e1, w1, hb2, g2⟩)
    | fail)
  all_goals (conv => whnf)
  have g1Z : H1.get (H.next + 1) = some (.cells [.int .i64 0, .slice none 0 0, .slice none 0 0, .slice none 0 0] (typedV 26) true) := by rw [e1.get _ (by omega)]; exact gZ
  have nH1 : H.next + 2 ≤ H1.next := by have := e1.next; omega
  have hbd : aBuild Tryd.prog 26 [(0, .int .i64 A.pr), (2, .slice (some ⟨b2, 0, none⟩) n2 (n2 + 3))] = some (.agg #[.int .i64 A.pr, .slice none 0 0, .slice (some ⟨b2, 0, none⟩) n2 (n2 + 3), .slice none 0 0]) := by kernel_rfl
  obtain ⟨Y, hY⟩ : ∃ Y, Y = H1.push (.cells (Value.agg #[.int .i64 0, .slice none 0 0, .slice none 0 0, .slice none 0 0]).cells.toList (typedV 26) true) := ⟨_, rfl⟩
  have gY : Y.get H1.next = some (.cells [.int .i64 0, .slice none 0 0, .slice none 0 0, .slice none 0 0] (typedV 26) true) := by rw [hY]; exact get_new _ _
  have wY : Wf Y := by rw [hY]; exact w1.push _
  have eY : Ext H1 Y := by rw [hY]; exact Ext.push _ _
  have nY : Y.next = H1.next + 1 := by rw [hY]; rfl
  have st1 := storeAgg_ok (P := Tryd.prog) (t := 26) (vs := [.int .i64 A.pr, .slice none 0 0, .slice (some ⟨b2, 0, none⟩) n2 (n2 + 3), .slice none 0 0]) (by kernel_rfl) rfl gY rfl
  obtain ⟨H2, hH2⟩ : ∃ X, X = Y.set H1.next (.cells [.int .i64 A.pr, .slice none 0 0, .slice (some ⟨b2, 0, none⟩) n2 (n2 + 3), .slice none 0 0] (typedV 26) true) := ⟨_, rfl⟩
  rw [← hH2] at st1
  have G2 : H2.get H1.next = some (.cells [.int .i64 A.pr, .slice none 0 0, .slice (some ⟨b2, 0, none⟩) n2 (n2 + 3), .slice none 0 0] (typedV 26) true) := by rw [hH2, AHeap.get_set, if_pos rfl]
  have w2 : Wf H2 := by rw [hH2]; exact wY.set gY _
  have e2 : Ext H1 H2 := by rw [hH2]; exact eY.set (Nat.le_refl _) _
  have n2' : H2.next = H1.next + 1 := by rw [hH2]; exact nY
  have hmk1 : aMakeSlice Tryd.prog 22 (.int .i64 (n1 : Nat)) (.int .i64 ((n1 : Int) + 3)) = mkSlice (List.replicate (n1 + 3) (.bool false)) n1 (n1 + 3) := by
    have := makeSlice_ok (P := Tryd.prog) (k := .i64) (k' := .i64) (l := (n1 : Int)) (c := (n1 : Int) + 3) Tryd.underlying22 (z := .bool false) (by kernel_rfl) rfl (by_ := 1) (by kernel_rfl) (by kernel_rfl) (by omega)
    rwa [Int.toNat_natCast, show ((n1 : Int) + 3).toNat = n1 + 3 by omega] at this
  have p1 : cellAt H2 H.next (0 + 1) = some (.slice a1 n1 c1) := cellAt_ext w0 (eZ.trans (e1.trans e2)) q1
  obtain ⟨H3, hH3⟩ : ∃ X, X = H2.push (.cells (List.replicate (n1 + 3) (.bool false)) 0 true) := ⟨_, rfl⟩
  have e3 : Ext H2 H3 := by rw [hH3]; exact Ext.push _ _
  have w3 : Wf H3 := by rw [hH3]; exact w2.push _
  have n3' : H3.next = H1.next + 2 := by rw [hH3, AHeap.next_push, n2']
  have G3 : H3.get H1.next = some (.cells [.int .i64 A.pr, .slice none 0 0, .slice (some ⟨b2, 0, none⟩) n2 (n2 + 3), .slice none 0 0] (typedV 26) true) := by rw [e3.get _ (by omega)]; exact G2
  have G3b : H3.get (H1.next + 1) = some (.cells (List.replicate (n1 + 3) (.bool false)) 0 true) := by rw [hH3, ← n2']; exact get_new _ _
  have st2 := store_ok (P := Tryd.prog) (t := 22) (b := H1.next) (o := 0 + 1) (v := .slice (some ⟨H2.next, 0, none⟩) n1 (n1 + 3)) (by kernel_rfl) rfl rfl G3 (by simp)
  obtain ⟨H4, hH4⟩ : ∃ X, X = H3.set H1.next (.cells [.int .i64 A.pr, .slice (some ⟨H2.next, 0, none⟩) n1 (n1 + 3), .slice (some ⟨b2, 0, none⟩) n2 (n2 + 3), .slice none 0 0] (typedV 26) true) := ⟨_, rfl⟩
  have st2' : aStore Tryd.prog H3 22 (.pointer (some ⟨H1.next, 0 + 1, none⟩)) (.slice (some ⟨H2.next, 0, none⟩) n1 (n1 + 3)) = some (.val undef H4 (.eff H3 H4)) := by rw [hH4]; exact st2
  have G4 : H4.get H1.next = some (.cells [.int .i64 A.pr, .slice (some ⟨H2.next, 0, none⟩) n1 (n1 + 3), .slice (some ⟨b2, 0, none⟩) n2 (n2 + 3), .slice none 0 0] (typedV 26) true) := by rw [hH4, AHeap.get_set, if_pos rfl]
  have w4 : Wf H4 := by rw [hH4]; exact w3.set G3 _
  have e4 : Ext H1 H4 := by rw [hH4]; exact (e2.trans e3).set (Nat.le_refl _) _
  have n4' : H4.next = H1.next + 2 := by rw [hH4]; exact n3'
  have G4b : H4.get H2.next = some (.cells (List.replicate (n1 + 3) (.bool false)) 0 true) := by rw [hH4, AHeap.get_set, if_neg (by omega), n2']; exact G3b
  obtain ⟨H5, ev5, hc5, hb5, G5b⟩ := copy_ok (P := Tryd.prog) (ts := #[22, 22]) (e := 4) (by kernel_rfl) (by kernel_rfl) (R.acc.ext hw (e0.trans (eZ.trans (e1.trans e4)))) (st := none) (dl := n1) (dc := n1 + 3) G4b (Nat.le_refl _) (by omega) (by simp) (bools_one _)
  have p1' : cellAt H4 H.next (0 + 1) = some (.slice a1 n1 c1) := cellAt_ext w0 (eZ.trans (e1.trans e4)) q1
  have o1 := cellAt_of G4 (o := 1) rfl
  have hd5 : (List.replicate (n1 + 3) (Value.bool false)).drop n1 = [.bool false, .bool false, .bool false] := by rw [List.drop_replicate, show n1 + 3 - n1 = 3 by omega]; rfl
  rw [hd5] at G5b
  have G5 : H5.get H1.next = some (.cells [.int .i64 A.pr, .slice (some ⟨H2.next, 0, none⟩) n1 (n1 + 3), .slice (some ⟨b2, 0, none⟩) n2 (n2 + 3), .slice none 0 0] (typedV 26) true) := by rw [hb5.get _ (by omega)]; exact G4
  have e5 : Ext H1 H5 := ext_but e4 (by omega) hb5
  have w5 : Wf H5 := wf_but w4 (by omega) hb5
  have n5' : H5.next = H1.next + 2 := by rw [hb5.next]; exact n4'
  have p3 : cellAt H5 H.next (0 + 3) = some (.slice a3 n3 c3) := cellAt_ext w0 (eZ.trans (e1.trans e5)) q3
  have hmk2 : aMakeSlice Tryd.prog 24 (.int .i64 (n3 : Nat)) (.int .i64 ((n3 : Int) + 3)) = mkSlice (List.replicate ((n3 + 3) * 3) z64) n3 (n3 + 3) := by
    unfold aMakeSlice
    have hs : sizeT Tryd.prog 53 = some 3 := by kernel_rfl
    have hby : bytesT Tryd.prog 53 = some 24 := by kernel_rfl
    have h3' : Nat.beq 3 3 = true := rfl
    simp only [Tryd.underlying24, zeroNd, hs, hby]
    rw [if_pos (by omega), Int.toNat_natCast, show ((n3 : Int) + 3).toNat = n3 + 3 by omega]
    show (bif Nat.beq 3 3 then mkSlice (repZ [z64, z64, z64] (n3 + 3)) n3 (n3 + 3) else none) = _
    rw [h3', cond_true, repZ_three]
  obtain ⟨H6, hH6⟩ : ∃ X, X = H5.push (.cells (List.replicate ((n3 + 3) * 3) z64) 0 true) := ⟨_, rfl⟩
  have e6 : Ext H5 H6 := by rw [hH6]; exact Ext.push _ _
  have w6 : Wf H6 := by rw [hH6]; exact w5.push _
  have n6' : H6.next = H1.next + 3 := by rw [hH6, AHeap.next_push, n5']
  have G6 : H6.get H1.next = some (.cells [.int .i64 A.pr, .slice (some ⟨H2.next, 0, none⟩) n1 (n1 + 3), .slice (some ⟨b2, 0, none⟩) n2 (n2 + 3), .slice none 0 0] (typedV 26) true) := by rw [e6.get _ (by omega)]; exact G5
  have G6c : H6.get H5.next = some (.cells (List.replicate ((n3 + 3) * 3) z64) 0 true) := by rw [hH6]; exact get_new _ _
  have st3 := store_ok (P := Tryd.prog) (t := 24) (b := H1.next) (o := 0 + 3) (v := .slice (some ⟨H5.next, 0, none⟩) n3 (n3 + 3)) (by kernel_rfl) rfl rfl G6 (by simp)
  obtain ⟨H7, hH7⟩ : ∃ X, X = H6.set H1.next (.cells [.int .i64 A.pr, .slice (some ⟨H2.next, 0, none⟩) n1 (n1 + 3), .slice (some ⟨b2, 0, none⟩) n2 (n2 + 3), .slice (some ⟨H5.next, 0, none⟩) n3 (n3 + 3)] (typedV 26) true) := ⟨_, rfl⟩
  have st3' : aStore Tryd.prog H6 24 (.pointer (some ⟨H1.next, 0 + 3, none⟩)) (.slice (some ⟨H5.next, 0, none⟩) n3 (n3 + 3)) = some (.val undef H7 (.eff H6 H7)) := by rw [hH7]; exact st3
  have G7 : H7.get H1.next = some (.cells [.int .i64 A.pr, .slice (some ⟨H2.next, 0, none⟩) n1 (n1 + 3), .slice (some ⟨b2, 0, none⟩) n2 (n2 + 3), .slice (some ⟨H5.next, 0, none⟩) n3 (n3 + 3)] (typedV 26) true) := by rw [hH7, AHeap.get_set, if_pos rfl]
  have w7 : Wf H7 := by rw [hH7]; exact w6.set G6 _
  have e7 : Ext H1 H7 := by rw [hH7]; exact (e5.trans e6).set (Nat.le_refl _) _
  have n7' : H7.next = H1.next + 3 := by rw [hH7]; exact n6'
  have G7c : H7.get H5.next = some (.cells (List.replicate ((n3 + 3) * 3) z64) 0 true) := by rw [hH7, AHeap.get_set, if_neg (by omega)]; exact G6c
  obtain ⟨H8, ev8, hc8, hb8, G8c⟩ := copyN_ok (R.nd.ext hw (e0.trans (eZ.trans (e1.trans e7)))) (st := none) (dc := n3 + 3) G7c (by omega) (by simp; omega)
  have hd8 : (List.replicate ((n3 + 3) * 3) z64).drop (n3 * 3) = List.replicate 9 z64 := by rw [List.drop_replicate, show (n3 + 3) * 3 - n3 * 3 = 9 by omega]
  rw [hd8] at G8c
  have p3' : cellAt H7 H.next (0 + 3) = some (.slice a3 n3 c3) := cellAt_ext w0 (eZ.trans (e1.trans e7)) q3
  have o3 := cellAt_of G7 (o := 3) rfl
  have G8 : H8.get H1.next = some (.cells [.int .i64 A.pr, .slice (some ⟨H2.next, 0, none⟩) n1 (n1 + 3), .slice (some ⟨b2, 0, none⟩) n2 (n2 + 3), .slice (some ⟨H5.next, 0, none⟩) n3 (n3 + 3)] (typedV 26) true) := by rw [hb8.get _ (by omega)]; exact G7
  have o8 := cellsAt_all G8 rfl (n := 4)
  have e8 : Ext H1 H8 := ext_but e7 (by omega) hb8
  have w8 : Wf H8 := wf_but w7 (by omega) hb8
  repeat' ((conv => whnf); first
    | (refine Both.intro ?_ ?_ <;> intro _ <;> try (exfalso; omega))
    | (refine Need.intro (by omega) ?_)
    | (refine Gives.intro ⟨_, hbd, ?_⟩)
    | (refine Gives.intro ⟨_, zeroA, ?_⟩)
    | (rw [← hY] ; refine Outs.intro ⟨_, _, _, st1, ?_⟩)
    | (refine ⟨_, p1, ?_⟩)
    | (refine ⟨_, _, _, hmk1, ?_⟩)
    | (rw [← hH3] ; refine Outs.intro ⟨_, _, _, st2', ?_⟩)
    | (refine ⟨_, o1, ?_⟩)
    | (refine ⟨_, p1', ?_⟩)
    | (refine Outs.intro ⟨_, _, _, hc5, ?_⟩)
    | (refine ⟨_, p3, ?_⟩)
    | (refine ⟨_, _, _, hmk2, ?_⟩)
    | (rw [← hH6] ; refine Outs.intro ⟨_, _, _, st3', ?_⟩)
    | (refine ⟨_, o3, ?_⟩)
    | (refine ⟨_, p3', ?_⟩)
    | (refine Outs.intro ⟨_, _, _, hc8, ?_⟩)
    | (refine ⟨_, o8, ?_⟩)
    | (refine Need.intro (draw_in (fun b => b = H.next) (by (simp only [effIn]; repeat' apply And.intro) <;> first | exact True.intro | (rintro b rfl; first | exact e1.get _ (by omega) | (rw [hH2, AHeap.get_set, if_neg (by omega)]))) (by (simp only [lookIn]; repeat' apply And.intro) <;> first | exact True.intro | rfl) (by kernel_rfl)) ?_)
    | fail)
  all_goals (conv => whnf)
  have g8Z : H8.get (H.next + 1) = some (.cells [.int .i64 0, .slice none 0 0, .slice none 0 0, .slice none 0 0] (typedV 26) true) := by rw [e8.get _ (by omega)]; exact g1Z
  have st9 := storeAgg_ok (P := Tryd.prog) (t := 26) (vs := [.int .i64 A.pr, .slice (some ⟨H2.next, 0, none⟩) n1 (n1 + 3), .slice (some ⟨b2, 0, none⟩) n2 (n2 + 3), .slice (some ⟨H5.next, 0, none⟩) n3 (n3 + 3)]) (by kernel_rfl) rfl g8Z rfl
  obtain ⟨H9, hH9⟩ : ∃ X, X = H8.set (H.next + 1) (.cells [.int .i64 A.pr, .slice (some ⟨H2.next, 0, none⟩) n1 (n1 + 3), .slice (some ⟨b2, 0, none⟩) n2 (n2 + 3), .slice (some ⟨H5.next, 0, none⟩) n3 (n3 + 3)] (typedV 26) true) := ⟨_, rfl⟩
  have st9' : aStore Tryd.prog H8 26 (.pointer (some ⟨H.next + 1, 0, none⟩)) (.agg #[.int .i64 A.pr, .slice (some ⟨H2.next, 0, none⟩) n1 (n1 + 3), .slice (some ⟨b2, 0, none⟩) n2 (n2 + 3), .slice (some ⟨H5.next, 0, none⟩) n3 (n3 + 3)]) = some (.val undef H9 (.eff H8 H9)) := by rw [hH9]; exact st9
  have G9 : H9.get (H.next + 1) = some (.cells [.int .i64 A.pr, .slice (some ⟨H2.next, 0, none⟩) n1 (n1 + 3), .slice (some ⟨b2, 0, none⟩) n2 (n2 + 3), .slice (some ⟨H5.next, 0, none⟩) n3 (n3 + 3)] (typedV 26) true) := by rw [hH9, AHeap.get_set, if_pos rfl]
  have o9 := cellsAt_all G9 rfl (n := 4)
  have e9 : Ext H H9 := by rw [hH9]; exact (e0.trans (eZ.trans (e1.trans e8))).set (by omega) _
  have w9 : Wf H9 := by rw [hH9]; exact w8.set g8Z _
  have k9 : ∀ b, b ≠ H.next + 1 → H9.get b = H8.get b := fun b hb => by rw [hH9, AHeap.get_set, if_neg hb]
  repeat' ((conv => whnf); first
    | (refine Both.intro ?_ ?_ <;> intro _ <;> try (exfalso; omega))
    | (refine Need.intro (by omega) ?_)
    | (refine Outs.intro ⟨_, _, _, st9', ?_⟩)
    | (refine ⟨_, o9, ?_⟩)
    | fail)
  all_goals (conv => whnf)
  refine ⟨H2.next, b2, H5.next, rfl, e9, w9, ⟨?_, ?_, ?_, by omega, by omega, by omega⟩⟩
  · rw [k9 _ (by omega), hb8.get _ (by omega), hH7, AHeap.get_set, if_neg (by omega), e6.get _ (by omega)]; exact G5b
  · rw [k9 _ (by omega), e8.get _ (w1.lt g2), ← l2]; exact g2
  · rw [k9 _ (by omega)]; exact G8c
theorem sameAuto_yes (H : AHeap) (hw : Wf H) (A : Aut) (a1 a2 a3 : Option Addr) (n1 c1 n2 c2 n3 c3 : Nat) (R : AutR H A a1 n1 c1 a2 n2 c2 a3 n3 c3) (d1 d2 d3 : Option Addr) (m1 k1 m2 k2 m3 k3 : Nat) (S : AutR H A d1 m1 k1 d2 m2 k2 d3 m3 k3) (h1 : n1 ≤ 2 ^ 30) (h2 : n2 ≤ 2 ^ 30) (h3 : n3 ≤ 2 ^ 30) :
    Does Tryd.prog orc 24 [autV A a1 n1 c1 a2 n2 c2 a3 n3 c3, autV A d1 m1 k1 d2 m2 k2 d3 m3 k3] H fun r H' => r = .ret (.bool true) ∧ Ext H H' ∧ Wf H' := by
  have l1 := R.acc.len; simp at l1
  have l2 := R.gd.len; simp at l2
  have l3 := R.nd.len; simp at l3
  have j1 := S.acc.len; simp at j1
  have j2 := S.gd.len; simp at j2
  have j3 := S.nd.len; simp at j3
  refine Does.of Tryd.func24 (fun _ _ => rfl) rfl ?_
  obtain ⟨Z, hZ⟩ : ∃ Z, Z = (H.push (.cells (autV A a1 n1 c1 a2 n2 c2 a3 n3 c3).cells.toList 0 true)).push (.cells (autV A d1 m1 k1 d2 m2 k2 d3 m3 k3).cells.toList 0 true) := ⟨_, rfl⟩
  have gA : Z.get H.next = some (.cells (autC A a1 n1 c1 a2 n2 c2 a3 n3 c3) 0 true) := by rw [hZ, AHeap.get_push, if_neg (by simp)]; exact get_new _ _
  have gB : Z.get (H.next + 1) = some (.cells (autC A d1 m1 k1 d2 m2 k2 d3 m3 k3) 0 true) := by rw [hZ]; exact get_new _ _
  have eZ : Ext H Z := by rw [hZ]; exact (Ext.push _ _).trans (Ext.push _ _)
  have wZ : Wf Z := by rw [hZ]; exact (hw.push _).push _
  have x0 := cellAt_of gA (o := 0) rfl
  have x1 := cellAt_of gA (o := 1) rfl
  have x2 := cellAt_of gA (o := 2) rfl
  have x3 := cellAt_of gA (o := 3) rfl
  have y0 := cellAt_of gB (o := 0) rfl
  have y1 := cellAt_of gB (o := 1) rfl
  have y2 := cellAt_of gB (o := 2) rfl
  have y3 := cellAt_of gB (o := 3) rfl
  have s1 := sameBools_any Z a1 d1 n1 c1 m1 k1 A.acc A.acc (R.acc.ext hw eZ) (S.acc.ext hw eZ) (by omega) (by omega)
  have s2 := sameInts_any Z a2 d2 n2 c2 m2 k2 A.gd A.gd (R.gd.ext hw eZ) (S.gd.ext hw eZ) (by omega) (by omega)
  have s3 := sameNodes_any Z a3 d3 n3 c3 m3 k3 A.nd A.nd (R.nd.ext hw eZ) (S.nd.ext hw eZ) (by omega) (by omega)
  conv => whnf
  rw [← hZ]
  repeat' ((conv => whnf); first
    | (refine Both.intro ?_ ?_ <;> intro _ <;> try (exfalso; omega))
    | (refine Need.intro (by omega) ?_)
    | (refine ⟨_, x0, ?_⟩)
    | (refine ⟨_, y0, ?_⟩)
    | (refine ⟨_, x1, ?_⟩)
    | (refine ⟨_, y1, ?_⟩)
    | (refine ⟨_, x2, ?_⟩)
    | (refine ⟨_, y2, ?_⟩)
    | (refine ⟨_, x3, ?_⟩)
    | (refine ⟨_, y3, ?_⟩)
    | (refine Does.mono s1 ?_ ; rintro _ _ ⟨b, rfl, hb, rfl⟩ ; cases (hb.2 rfl))
    | (refine Does.mono s2 ?_ ; rintro _ _ ⟨b, rfl, hb, rfl⟩ ; cases (hb.2 rfl))
    | (refine Does.mono s3 ?_ ; rintro _ _ ⟨b, rfl, hb, rfl⟩ ; cases (hb.2 rfl))
    | fail)
  all_goals (conv => whnf)
  exact ⟨rfl, eZ, wZ⟩
theorem keptAuto_any (H : AHeap) (hw : Wf H) (A : Aut) (a1 a2 a3 : Option Addr) (n1 c1 n2 c2 n3 c3 : Nat) (R : AutR H A a1 n1 c1 a2 n2 c2 a3 n3 c3) (h1 : n1 ≤ 2 ^ 30) (h2 : n2 ≤ 2 ^ 30) (h3 : n3 ≤ 2 ^ 30) (H0 : AHeap) (b1 b2 b3 : Nat) (L : LentA H0 H A b1 b2 b3) :
    Does Tryd.prog orc 11 [autV A (some ⟨b1, 0, none⟩) n1 (n1 + 3) (some ⟨b2, 0, none⟩) n2 (n2 + 3) (some ⟨b3, 0, none⟩) n3 (n3 + 3), autV A a1 n1 c1 a2 n2 c2 a3 n3 c3] H fun r H' => r = .ret (.bool true) ∧ Ext H H' ∧ Wf H' := by
  have l1 := R.acc.len; simp at l1
  have l2 := R.gd.len; simp at l2
  have l3 := R.nd.len; simp at l3
  refine Does.of Tryd.func11 (fun _ _ => rfl) rfl ?_
  obtain ⟨Z, hZ⟩ : ∃ Z, Z = (H.push (.cells (autV A (some ⟨b1, 0, none⟩) n1 (n1 + 3) (some ⟨b2, 0, none⟩) n2 (n2 + 3) (some ⟨b3, 0, none⟩) n3 (n3 + 3)).cells.toList 0 true)).push (.cells (autV A a1 n1 c1 a2 n2 c2 a3 n3 c3).cells.toList 0 true) := ⟨_, rfl⟩
  have gA : Z.get H.next = some (.cells (autC A (some ⟨b1, 0, none⟩) n1 (n1 + 3) (some ⟨b2, 0, none⟩) n2 (n2 + 3) (some ⟨b3, 0, none⟩) n3 (n3 + 3)) 0 true) := by rw [hZ, AHeap.get_push, if_neg (by simp)]; exact get_new _ _
  have gB : Z.get (H.next + 1) = some (.cells (autC A a1 n1 c1 a2 n2 c2 a3 n3 c3) 0 true) := by rw [hZ]; exact get_new _ _
  have eZ : Ext H Z := by rw [hZ]; exact (Ext.push _ _).trans (Ext.push _ _)
  have wZ : Wf Z := by rw [hZ]; exact (hw.push _).push _
  have xa := cellsAt_all gA rfl (n := 4)
  have ya := cellsAt_all gB rfl (n := 4)
  have x1 := cellAt_of gA (o := 1) rfl
  have x2 := cellAt_of gA (o := 2) rfl
  have x3 := cellAt_of gA (o := 3) rfl
  have y1 := cellAt_of gB (o := 1) rfl
  have y2 := cellAt_of gB (o := 2) rfl
  have y3 := cellAt_of gB (o := 3) rfl
  have LR : AutR H A (some ⟨b1, 0, none⟩) n1 (n1 + 3) (some ⟨b2, 0, none⟩) n2 (n2 + 3) (some ⟨b3, 0, none⟩) n3 (n3 + 3) :=
    ⟨Row.of_block L.g1 (by simp; omega) (by omega) (List.prefix_append _ _), Row.of_block L.g2 (by simp; omega) (by omega) (List.prefix_append _ _), by rw [l3]; exact ndFl_rows L.g3 (by omega)⟩
  have sm := sameAuto_yes Z wZ A _ _ _ _ _ _ _ _ _ (LR.ext hw eZ) _ _ _ _ _ _ _ _ _ (R.ext hw eZ) h1 h2 h3
  conv => whnf
  rw [← hZ]
  repeat' ((conv => whnf); first
    | (refine Both.intro ?_ ?_ <;> intro _ <;> try (exfalso; omega))
    | (refine Need.intro (by omega) ?_)
    | (refine ⟨_, xa, ?_⟩)
    | (refine ⟨_, ya, ?_⟩)
    | (refine Does.mono sm ?_ ; rintro _ H1 ⟨rfl, e1, w1⟩)
    | fail)
  all_goals (conv => whnf)
  have x2' := cellAt_ext wZ e1 x2
  have y2' := cellAt_ext wZ e1 y2
  have g2' : H1.get b2 = some (.cells (ints A.gd ++ marksI n2) 0 true) := by rw [(eZ.trans e1).get _ (hw.lt L.g2), l2]; exact L.g2
  repeat' ((conv => whnf); first
    | (refine Both.intro ?_ ?_ <;> intro _ <;> try (exfalso; omega))
    | (refine Need.intro (by omega) ?_)
    | (refine ⟨_, x2', ?_⟩)
    | (refine ⟨_, y2', ?_⟩)
    | (refine Does.mono (keptInts_any H1 w1 b2 a2 n2 c2 A.gd (R.gd.ext hw (eZ.trans e1)) g2' h2) ?_ ; rintro _ H2 ⟨rfl, e2, w2⟩)
    | fail)
  all_goals (conv => whnf)
  have x1' := cellAt_ext wZ (e1.trans e2) x1
  have x3' := cellAt_ext wZ (e1.trans e2) x3
  have y1' := cellAt_ext wZ (e1.trans e2) y1
  have y3' := cellAt_ext wZ (e1.trans e2) y3
  have hs1 : aSlice Tryd.prog 22 (.slice (some ⟨b1, 0, none⟩) n1 (n1 + 3)) none (some (.int .i64 ((n1 + 3 : Nat) : Int))) none = some (.slice (some ⟨b1, 0, none⟩) (n1 + 3) (n1 + 3)) := slice_toN (k := .i64) (m := n1 + 3) Tryd.underlying22 (n := 1) (by kernel_rfl) (Nat.le_refl _)
  have hs3 : aSlice Tryd.prog 24 (.slice (some ⟨b3, 0, none⟩) n3 (n3 + 3)) none (some (.int .i64 ((n3 + 3 : Nat) : Int))) none = some (.slice (some ⟨b3, 0, none⟩) (n3 + 3) (n3 + 3)) := slice_toN (k := .i64) (m := n3 + 3) Tryd.underlying24 (n := 3) (by kernel_rfl) (Nat.le_refl _)
  repeat' ((conv => whnf); first
    | (refine Both.intro ?_ ?_ <;> intro _ <;> try (exfalso; omega))
    | (refine Need.intro (by omega) ?_)
    | (refine ⟨_, x1', ?_⟩)
    | (refine ⟨_, x3', ?_⟩)
    | (refine ⟨_, y1', ?_⟩)
    | (refine Gives.intro ⟨_, hs1, ?_⟩)
    | (refine Gives.intro ⟨_, hs3, ?_⟩)
    | (refine Need.intro (DrawP.intro (by kernel_rfl)) ?_)
    | fail)
  all_goals (conv => whnf)
  have g1' : H2.get b1 = some (.cells (bools A.acc ++ [.bool false, .bool false, .bool false]) 0 true) := by rw [(eZ.trans (e1.trans e2)).get _ (hw.lt L.g1)]; exact L.g1
  have g3' : H2.get b3 = some (.cells (ndFl A.nd ++ List.replicate 9 z64) 0 true) := by rw [(eZ.trans (e1.trans e2)).get _ (hw.lt L.g3)]; exact L.g3
  refine Runs.loop (fun k : Nat => [(7, .int .i64 ((n1 + k : Nat) : Int)), (5, .slice (some ⟨b1, 0, none⟩) (n1 + 3) (n1 + 3)), (6, .slice (some ⟨b3, 0, none⟩) (n3 + 3) (n3 + 3)), (3, .pointer (some ⟨H.next + 1, 0, none⟩))])
    (fun k H' => k ≤ 3 ∧ H2 = H') (fun k => 3 - k) 0 ⟨rfl, rfl, rfl, rfl, trivial⟩ ⟨by omega, rfl⟩ ?_
  rintro k _ ⟨hk, rfl⟩
  by_cases hlt : k < 3
  · have hcell : cellAt H2 b1 (0 + (n1 + k)) = some (.bool false) := cellAt_of g1' (by
      rw [List.getElem?_append_right (by simp; omega)]
      simp only [List.length_map, ← l1, Nat.add_sub_cancel_left]
      have : k = 0 ∨ k = 1 ∨ k = 2 := by omega
      rcases this with rfl | rfl | rfl <;> rfl)
    repeat' ((conv => whnf); first
      | (refine Both.intro ?_ ?_ <;> intro _ <;> try (exfalso; omega))
      | (refine Need.intro (by omega) ?_)
      | (refine ⟨_, hcell, ?_⟩)
      | fail)
    all_goals (conv => whnf)
    exact ⟨k + 1, ⟨rfl, rfl, rfl, rfl, trivial⟩, ⟨by omega, rfl⟩, by omega⟩
  · obtain rfl : k = 3 := by omega
    repeat' ((conv => whnf); first
      | (refine Both.intro ?_ ?_ <;> intro _ <;> try (exfalso; omega))
      | (refine Need.intro (by omega) ?_)
      | (refine ⟨_, y3', ?_⟩)
      | fail)
    all_goals (conv => whnf)
    refine Runs.loop (fun i : Nat => [(8, .int .i64 ((n3 + i : Nat) : Int)), (6, .slice (some ⟨b3, 0, none⟩) (n3 + 3) (n3 + 3))])
      (fun i H' => i ≤ 3 ∧ H2 = H') (fun i => 3 - i) 0 ⟨rfl, rfl, trivial⟩ ⟨by omega, rfl⟩ ?_
    rintro i _ ⟨hi, rfl⟩
    by_cases hlt2 : i < 3
    · have hcell : cellsAt H2 b3 (0 + (n3 + i) * 3) 3 = some (ndC (0, 0, 0)) := by
        unfold cellsAt
        rw [g3']
        refine takeN_of _ _ _ rfl fun j x hx => ?_
        have hj := (List.getElem?_eq_some_iff.1 hx).1
        have hj3 : j < 3 := hj
        rw [dropN_get, List.getElem?_append_right (by rw [ndFl_len]; omega), ndFl_len, List.getElem?_replicate, if_pos (by omega)]
        rw [← hx]
        have : j = 0 ∨ j = 1 ∨ j = 2 := by omega
        rcases this with rfl | rfl | rfl <;> rfl
      have hq := nd_neq (0, 0, 0) (0, 0, 0)
      rw [decide_eq_false (fun h => h rfl)] at hq
      have hb0 : aBuild Tryd.prog 53 [] = some (.agg (ndC (0, 0, 0)).toArray) := by kernel_rfl
      repeat' ((conv => whnf); first
        | (refine Both.intro ?_ ?_ <;> intro _ <;> try (exfalso; omega))
        | (refine Need.intro (by omega) ?_)
        | (refine ⟨_, hcell, ?_⟩)
        | (refine Gives.intro ⟨_, hb0, ?_⟩)
        | (refine Gives.intro ⟨_, hq _ _, ?_⟩)
        | fail)
      all_goals (conv => whnf)
      exact ⟨i + 1, ⟨rfl, rfl, trivial⟩, ⟨by omega, rfl⟩, by omega⟩
    · obtain rfl : i = 3 := by omega
      repeat' ((conv => whnf); first
        | (refine Both.intro ?_ ?_ <;> intro _ <;> try (exfalso; omega))
        | (refine Need.intro (by omega) ?_)
        | (skip ; fail)
        | fail)
      all_goals (conv => whnf)
      exact ⟨rfl, eZ.trans (e1.trans e2), w2⟩
end Go.AX.Tryd
