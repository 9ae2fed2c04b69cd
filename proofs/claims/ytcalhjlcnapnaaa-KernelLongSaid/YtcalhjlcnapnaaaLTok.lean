/- Tokens, sorts: rows of structs, struct variables; kernel.Check. -/
import Derived.Test.YtcalhjlcnapnaaaLKit
namespace Go.AX.Lw
open Go Go.AX
set_option linter.unusedVariables false
variable {P : Program}
theorem Br_split {t : Bool} {A B : Prop} (h1 : t = true → A) (h2 : t = false → B) : @Bool.rec (fun _ => Prop) B A t := by
  cases t
  · exact h2 rfl
  · exact h1 rfl
/-- A slice value over a row of elements of sz cells. -/
structure RowS (H : AHeap) (a : Option Addr) (n c sz : Nat) (xs : List (List Value)) : Prop where
  len : n = xs.length
  cap : n ≤ c
  all : ∀ x ∈ xs, x.length = sz
  cell : ∀ (i : Nat) (x : List Value), xs[i]? = some x → ∃ b o st, a = some ⟨b, o, st⟩ ∧ cellsAt H b (o + i * sz) sz = some x
theorem cellsAt_ext {H H' : AHeap} (hw : Wf H) (e : Ext H H') {b o n : Nat} {l : List Value} (h : cellsAt H b o n = some l) : cellsAt H' b o n = some l := by
  unfold cellsAt at h ⊢
  cases hg : H.get b with
  | none => rw [hg] at h; cases h
  | some x => rw [hg] at h; rw [e.get b (hw.lt hg), hg]; exact h
theorem RowS.ext {H H' : AHeap} (hw : Wf H) (e : Ext H H') {a : Option Addr} {n c sz : Nat} {xs : List (List Value)} (h : RowS H a n c sz xs) : RowS H' a n c sz xs :=
  ⟨h.len, h.cap, h.all, fun i x hx => by obtain ⟨b, o, st, ha, hc⟩ := h.cell i x hx; exact ⟨b, o, st, ha, cellsAt_ext hw e hc⟩⟩
theorem takeN_get : ∀ {n : Nat} {l m : List Value}, takeN n l = some m → m.length = n ∧ ∀ j, j < n → l[j]? = m[j]?
  | 0, l, m, h => by cases l <;> (simp [takeN] at h; subst h; simp)
  | n + 1, [], m, h => by simp [takeN] at h
  | n + 1, x :: l, m, h => by
    simp only [takeN] at h
    split at h
    · rename_i q hq
      cases h
      obtain ⟨h1, h2⟩ := takeN_get hq
      refine ⟨by simp [h1], fun j hj => ?_⟩
      cases j with
      | zero => rfl
      | succ j => simpa using h2 j (by omega)
    · cases h
theorem cellsAt_cell {H : AHeap} {b o n : Nat} {l : List Value} (h : cellsAt H b o n = some l) {j : Nat} {v : Value} (hj : l[j]? = some v) : cellAt H b (o + j) = some v := by
  unfold cellsAt at h; unfold cellAt
  cases hg : H.get b with
  | none => rw [hg] at h; cases h
  | some x =>
    rw [hg] at h
    cases x with
    | cells cs e own =>
      obtain ⟨h1, h2⟩ := takeN_get h
      have hlt : j < n := by rw [← h1]; exact (List.getElem?_eq_some_iff.1 hj).1
      have := h2 j hlt
      rw [dropN_get] at this
      simp only
      rw [this]; exact hj
    | _ => cases h
theorem cellsAt_all {H : AHeap} {b : Nat} {cs : List Value} {e : Nat} {own : Bool} (hg : H.get b = some (.cells cs e own)) {n : Nat} (hn : cs.length = n) : cellsAt H b 0 n = some cs := by
  subst hn
  simp only [cellsAt, hg, dropN, takeN_all]
theorem cellAt_of {H : AHeap} {b : Nat} {cs : List Value} {e : Nat} {own : Bool} (hg : H.get b = some (.cells cs e own)) {o : Nat} {v : Value} (hv : cs[o]? = some v) : cellAt H b (0 + o) = some v := by
  unfold cellAt; rw [hg, Nat.zero_add]; exact hv
/-- What an effect leaves as it was: all that was looked at, all that was made. -/
def lookAll (H H' : AHeap) : List (Nat × Ev) → Prop
  | [] => True
  | (_, .look b o n) :: r => cellsAt H b o n = cellsAt H' b o n ∧ lookAll H H' r
  | (_, .make b _) :: r => H.get b = H'.get b ∧ lookAll H H' r
  | _ :: r => lookAll H H' r
def effAll (tr : List (Nat × Ev)) : List (Nat × Ev) → Prop
  | [] => True
  | (_, .eff H H') :: r => lookAll H H' tr ∧ effAll tr r
  | _ :: r => effAll tr r
theorem lookAll_mem {H H' : AHeap} : ∀ {tr : List (Nat × Ev)}, lookAll H H' tr → (∀ i b o n, (i, Ev.look b o n) ∈ tr → cellsAt H b o n = cellsAt H' b o n) ∧ (∀ i b x, (i, Ev.make b x) ∈ tr → H.get b = H'.get b)
  | [], _ => ⟨(fun _ _ _ _ h => by cases h), (fun _ _ _ h => by cases h)⟩
  | (i, e) :: r, h => by
    cases e with
    | look b o n =>
      obtain ⟨h1, h2⟩ := lookAll_mem h.2
      refine ⟨fun i b o n hm => ?_, fun i b x hm => ?_⟩
      · rcases List.mem_cons.1 hm with he | hm
        · cases he; exact h.1
        · exact h1 _ _ _ _ hm
      · rcases List.mem_cons.1 hm with he | hm
        · cases he
        · exact h2 _ _ _ hm
    | make b x =>
      obtain ⟨h1, h2⟩ := lookAll_mem h.2
      refine ⟨fun i b o n hm => ?_, fun i b x hm => ?_⟩
      · rcases List.mem_cons.1 hm with he | hm
        · cases he
        · exact h1 _ _ _ _ hm
      · rcases List.mem_cons.1 hm with he | hm
        · cases he; exact h.1
        · exact h2 _ _ _ hm
    | quiet =>
      obtain ⟨h1, h2⟩ := lookAll_mem (tr := r) h
      refine ⟨fun i b o n hm => ?_, fun i b x hm => ?_⟩
      · rcases List.mem_cons.1 hm with he | hm
        · cases he
        · exact h1 _ _ _ _ hm
      · rcases List.mem_cons.1 hm with he | hm
        · cases he
        · exact h2 _ _ _ hm
    | eff _ _ =>
      obtain ⟨h1, h2⟩ := lookAll_mem (tr := r) h
      refine ⟨fun i b o n hm => ?_, fun i b x hm => ?_⟩
      · rcases List.mem_cons.1 hm with he | hm
        · cases he
        · exact h1 _ _ _ _ hm
      · rcases List.mem_cons.1 hm with he | hm
        · cases he
        · exact h2 _ _ _ hm
theorem effAll_mem {tr : List (Nat × Ev)} : ∀ {l : List (Nat × Ev)}, effAll tr l → ∀ j H H', (j, Ev.eff H H') ∈ l → lookAll H H' tr
  | [], _, _, _, _, h => by cases h
  | (i, e) :: r, h, j, H, H', hm => by
    cases e with
    | eff _ _ =>
      rcases List.mem_cons.1 hm with he | hm
      · cases he; exact h.1
      · exact effAll_mem h.2 j H H' hm
    | _ =>
      rcases List.mem_cons.1 hm with he | hm
      · cases he
      · exact effAll_mem (l := r) h j H H' hm
theorem draw_of {ops : Array Oper} {tr : List (Nat × Ev)} (h : effAll tr tr) : DrawP ops tr := by
  refine ⟨?_⟩
  unfold drawOk
  simp only [List.all_eq_true]
  rintro ⟨i, e⟩ hx ⟨j, f⟩ hy
  cases f with
  | eff H H' =>
    obtain ⟨h1, h2⟩ := lookAll_mem (effAll_mem h j H H' hy)
    cases e with
    | look b o n => simp only [evOk, lookOk, h1 i b o n hx, decide_true, Bool.or_true]
    | make b x =>
      simp only [evOk]
      cases Nat.blt i j with
      | false => rfl
      | true => simp only [cond_true, keepOk, h2 i b x hx, decide_true, Bool.or_true]
    | _ => rfl
  | _ => cases e <;> rfl
theorem cellsAt_set {H : AHeap} {b c o n : Nat} {x : AObj} (h : b ≠ c) : cellsAt H b o n = cellsAt (H.set c x) b o n := by
  unfold cellsAt; rw [AHeap.get_set, if_neg h]
/-- The whole of a struct variable is written. -/
theorem storeAgg_ok {H : AHeap} {t : TypeId} {b : Nat} {vs : List Value} {cs : List Value} {e : Nat} (hs : sizeT P t = some vs.length) (h2 : allOne vs = true) (hg : H.get b = some (.cells cs e true)) (hl : cs.length = vs.length) :
    aStore P H t (.pointer (some ⟨b, 0, none⟩)) (.agg vs.toArray) = some (.val undef (H.set b (.cells vs e true)) (.eff H (H.set b (.cells vs e true)))) := by
  have h3 : (Value.agg vs.toArray).cells.toList = vs := rfl
  have h4 : (Value.agg vs.toArray).cells.size = vs.length := by rw [← Array.length_toList, h3]
  unfold aStore
  simp only [hs, h3, h4, h2, nbeq, Bool.and_self, cond_true, hg]
  rw [putAt_list cs 0 vs (by omega), List.drop_of_length_le (by omega)]
  simp
end Go.AX.Lw
namespace Go.AX.Try
open Go Go.AX Go.AX.Lw Go.Proofs
set_option linter.unusedVariables false
set_option maxRecDepth 100000
def takesF (op : Nat) : Nat := if op ≤ 5 then 0 else if op = 6 ∨ op = 7 ∨ op = 8 ∨ op = 9 ∨ op = 10 ∨ op = 19 ∨ op = 20 ∨ op = 23 then 1 else 2
theorem takes_any (H : AHeap) (op : Nat) : Does Try.prog orc 62 [.int .u8 op] H fun r H' => r = .ret (.int .i64 (takesF op)) ∧ H = H' := by
  refine Does.of Try.func62 (fun _ _ => rfl) rfl ?_
  repeat' ((conv => whnf); first
    | (refine Both.intro ?_ ?_ <;> intro _ <;> try (exfalso; omega))
    | (refine Need.intro (by omega) ?_)
    | fail)
  all_goals (conv => whnf)
  all_goals
    refine ⟨?_, rfl⟩
    unfold takesF
    first
    | (rw [if_pos (by omega)]; rfl)
    | (rw [if_neg (by omega), if_pos (by omega)]; rfl)
    | (rw [if_neg (by omega), if_neg (by omega)]; rfl)
structure Tk where
  op : Nat
  p : Nat
structure So where
  path : Bool
  plain : Bool
  prop : Bool
def So.cells (s : So) : List Value := [.bool s.path, .bool s.plain, .bool s.prop]
def Tk.cells (t : Tk) : List Value := [.int .u8 t.op, .int .u8 t.p]
def no : So := ⟨false, false, false⟩
def wordF (t : Tk) (a : List So) : So × Bool :=
  let formulas := a.all fun x => !x.path
  let plain := a.all fun x => x.plain
  let a0 := (a[0]?).getD no
  let a1 := (a[1]?).getD no
  if t.op ≠ 2 ∧ t.p ≠ 0 ∨ t.p ≥ 8 then (no, false) else
  if t.op = 0 ∨ t.op = 1 then (⟨false, true, false⟩, true) else
  if t.op = 2 then (⟨false, true, true⟩, true) else
  if t.op = 4 ∨ t.op = 5 then (no, true) else
  if t.op = 6 then (⟨false, true, false⟩, a0.prop) else
  if t.op = 11 ∨ t.op = 12 then (⟨false, plain, false⟩, formulas) else
  if t.op = 7 ∨ t.op = 8 ∨ t.op = 15 ∨ t.op = 16 then (no, formulas) else
  if t.op = 17 ∨ t.op = 18 then (no, a0.path && !a1.path) else
  if t.op = 19 then (⟨true, false, false⟩, formulas && plain) else
  if t.op = 20 then (⟨true, false, false⟩, formulas) else
  if t.op = 21 ∨ t.op = 22 then (⟨true, false, false⟩, a0.path && a1.path) else
  if t.op = 23 then (⟨true, false, false⟩, a0.path) else (no, false)
set_option maxHeartbeats 8000000 in
theorem word_any (H : AHeap) (hw : Wf H) (t : Tk) (a : Option Addr) (n c : Nat) (ss : List So) (hr : RowS H a n c 3 (ss.map So.cells)) (hn : n ≤ 2) (htk : n = takesF t.op) :
    Does Try.prog orc 63 [.agg #[.int .u8 t.op, .int .u8 t.p], .slice a n c] H fun r H' => r = .ret (.tuple #[.agg (wordF t ss).1.cells.toArray, .bool (wordF t ss).2]) ∧ Ext H H' ∧ Wf H' := by
  have hlen := hr.len; simp at hlen
  have hcap := hr.cap
  refine (Does.wf (Q := fun r H' => r = .ret (.tuple #[.agg (wordF t ss).1.cells.toArray, .bool (wordF t ss).2]) ∧ Ext H H') ?_ hw).mono fun r H' ⟨⟨h1, h2⟩, h3⟩ => ⟨h1, h2, h3⟩
  refine Does.of Try.func63 (fun _ _ => rfl) rfl ?_
  conv => whnf
  refine Gives.intro ⟨.agg #[.bool false, .bool false, .bool false], by kernel_rfl, ?_⟩
  have hw2 := (hw.push (.cells t.cells 0 true)).push (.cells no.cells (typedV 89) true)
  have hg2 : ((H.push (.cells t.cells 0 true)).push (.cells no.cells (typedV 89) true)).get H.next = some (.cells t.cells 0 true) := by
    rw [AHeap.get_push, if_neg (by simp), get_new]
  have hg4 := get_new (H.push (.cells t.cells 0 true)) (.cells no.cells (typedV 89) true)
  have he2 := (Ext.push H (.cells t.cells 0 true)).trans (Ext.push _ (.cells no.cells (typedV 89) true))
  have c0 := cellAt_of hg2 (o := 0) (v := .int .u8 t.op) rfl
  have c1 := cellAt_of hg2 (o := 1) (v := .int .u8 t.p) rfl
  repeat' ((conv => whnf); first
    | (refine Both.intro ?_ ?_ <;> intro _ <;> try (exfalso; omega))
    | (refine Need.intro (by omega) ?_)
    | (refine Gives.intro ⟨.agg #[.bool _, .bool _, .bool _], rfl, ?_⟩)
    | (refine Gives.intro ⟨.pointer (some ⟨_, 0 + 0, none⟩), rfl, ?_⟩)
    | (refine Gives.intro ⟨.pointer (some ⟨_, 0 + 1, none⟩), rfl, ?_⟩)
    | (refine ⟨_, c0, ?_⟩)
    | (refine ⟨_, c1, ?_⟩)
    | (refine Outs.intro ⟨_, _, _, storeAgg_ok (vs := [.bool _, .bool _, .bool _]) (by kernel_rfl) rfl hg4 rfl, ?_⟩)
    | (refine ⟨_, cellsAt_all (n := 3) (by rw [AHeap.get_set, if_pos rfl]) rfl, ?_⟩)
    | fail)
  all_goals (conv => whnf)
  all_goals first
    | exact ⟨by unfold wordF; rw [if_pos (by omega)]; rfl, he2.set (by simp) _⟩
    | skip
  all_goals
    have hbad : ¬ (t.op ≠ 2 ∧ t.p ≠ 0 ∨ t.p ≥ 8) := by omega
    obtain ⟨H2, hH2⟩ : ∃ H2, H2 = (H.push (.cells t.cells 0 true)).push (.cells no.cells (typedV 89) true) := ⟨_, rfl⟩
    have hn2 : H2.next = H.next + 2 := by rw [hH2]; rfl
    rw [← hH2] at hw2 hg2 hg4 he2 c0 c1
    have hg4 : H2.get (H.next + 1) = some (.cells no.cells (typedV 89) true) := hg4
    have hr2 := hr.ext hw he2
    refine Runs.loop (fun x : Nat × Bool × Bool => [(26, .int .i64 x.1), (25, .int .i64 n), (24, .slice a n c), (7, .bool x.2.2), (6, .bool x.2.1), (4, .pointer (some ⟨H.next + 1, 0, none⟩)), (2, .pointer (some ⟨H.next, 0, none⟩)), (1, .slice a n c)])
      (fun x H' => x.1 ≤ n ∧ Ext H2 H' ∧ Wf H' ∧ x.2.1 = (ss.take x.1).all (fun y => !y.path) ∧ x.2.2 = (ss.take x.1).all (fun y => y.plain)) (fun x => n - x.1) (0, true, true) ⟨rfl, rfl, rfl, rfl, rfl, rfl, rfl, rfl, trivial⟩ ⟨by omega, by rw [hH2]; exact Ext.refl _, by rw [hH2] at hw2; exact hw2, rfl, rfl⟩ ?_
    rintro ⟨k, f, p⟩ H3 ⟨hk, e3, w3, hf, hp⟩
    dsimp only at hk hf hp
    show vc _ _ _ _ _ [(26, .int .i64 k), (25, .int .i64 n), (24, .slice a n c), (7, .bool p), (6, .bool f), (4, .pointer (some ⟨H.next + 1, 0, none⟩)), (2, .pointer (some ⟨H.next, 0, none⟩)), (1, .slice a n c)] _ _
    have hg43 : H3.get (H.next + 1) = some (.cells no.cells (typedV 89) true) := by rw [e3.get _ (by omega)]; exact hg4
    have c03 := cellAt_ext hw2 e3 c0
    have hr3 := hr2.ext hw2 e3
    by_cases hlt : k < n
    · obtain ⟨x, hx⟩ := get_of (l := ss) (k := k) (by omega)
      obtain ⟨b, o, st, rfl, hcell⟩ := hr3.cell k x.cells (by simp [hx])
      obtain ⟨xp, xl, xr⟩ := x
      have w4 := w3.push (.cells [.bool false, .bool false, .bool false] (typedV 89) true)
      have g4 := get_new H3 (.cells [.bool false, .bool false, .bool false] (typedV 89) true)
      have g5 : ((H3.push (.cells [.bool false, .bool false, .bool false] (typedV 89) true)).set H3.next (.cells [.bool xp, .bool xl, .bool xr] (typedV 89) true)).get H3.next = some (.cells [.bool xp, .bool xl, .bool xr] (typedV 89) true) := by rw [AHeap.get_set, if_pos rfl]
      have q0 := cellAt_of g5 (o := 0) (v := .bool xp) rfl
      have q1 := cellAt_of g5 (o := 1) (v := .bool xl) rfl
      have hst : ∀ q : So → Bool, (ss.take (k + 1)).all q = ((ss.take k).all q && q ⟨xp, xl, xr⟩) := fun q => by rw [List.take_add_one, hx]; simp
      have hend := (e3.trans (Ext.push H3 (.cells [.bool false, .bool false, .bool false] (typedV 89) true))).set (by have := e3.next; simp; omega : H2.next ≤ H3.next) (.cells [.bool xp, .bool xl, .bool xr] (typedV 89) true)
      have wend := w4.set g4 (.cells [.bool xp, .bool xl, .bool xr] (typedV 89) true)
      cases f <;> cases p <;> cases xp <;> cases xl
      all_goals
        repeat' ((conv => whnf); first
          | (refine Both.intro ?_ ?_ <;> intro _ <;> try (exfalso; omega))
          | (refine Need.intro (by omega) ?_)
          | (refine ⟨_, hcell, ?_⟩)
          | (refine Gives.intro ⟨.agg #[.bool _, .bool _, .bool _], rfl, ?_⟩)
          | (refine Outs.intro ⟨_, _, _, storeAgg_ok (vs := [.bool _, .bool _, .bool _]) (by kernel_rfl) rfl g4 rfl, ?_⟩)
          | (refine Gives.intro ⟨.pointer (some ⟨_, 0 + 0, none⟩), rfl, ?_⟩)
          | (refine Gives.intro ⟨.pointer (some ⟨_, 0 + 1, none⟩), rfl, ?_⟩)
          | (refine ⟨_, q0, ?_⟩)
          | (refine ⟨_, q1, ?_⟩)
          | fail)
        all_goals (conv => whnf)
        exact ⟨(k + 1, _, _), ⟨rfl, rfl, rfl, rfl, rfl, rfl, rfl, rfl, trivial⟩, ⟨by show k + 1 ≤ n; omega, hend, wend, by rw [hst, ← hf]; rfl, by rw [hst, ← hp]; rfl⟩, by dsimp only; omega⟩
    · obtain rfl : k = n := by omega
      rw [List.take_of_length_le (by omega)] at hf hp
      have hk0 : t.op ≤ 5 → k = 0 := fun h => by rw [htk]; unfold takesF; rw [if_pos h]
      have hk1 : (t.op = 6 ∨ t.op = 7 ∨ t.op = 8 ∨ t.op = 9 ∨ t.op = 10 ∨ t.op = 19 ∨ t.op = 20 ∨ t.op = 23) → k = 1 := fun h => by rw [htk]; unfold takesF; rw [if_neg (by omega), if_pos h]
      have hk2 : ¬ t.op ≤ 5 → ¬ (t.op = 6 ∨ t.op = 7 ∨ t.op = 8 ∨ t.op = 9 ∨ t.op = 10 ∨ t.op = 19 ∨ t.op = 20 ∨ t.op = 23) → k = 2 := fun h h' => by rw [htk]; unfold takesF; rw [if_neg h, if_neg h']
      have hfin : ∀ so : So, Ext H (H3.set (H.next + 1) (.cells so.cells (typedV 89) true)) := fun so => (he2.trans e3).set (by omega) _
      have hels0 : ∀ (j : Nat) (x : So), ss[j]? = some x → ∀ b o st, a = some ⟨b, o, st⟩ → b ≠ H.next + 1 := fun j x hx b o st ha => by
        obtain ⟨b', o', st', ha', hc⟩ := hr.cell j x.cells (by simp [hx])
        rw [ha] at ha'; cases ha'
        have := cellAt_lt hw (cellsAt_cell hc (j := 0) (v := .bool x.path) rfl)
        omega
      have hels : ∀ (j : Nat) (x : So), ss[j]? = some x → ∃ b o st, a = some ⟨b, o, st⟩ ∧ cellAt H3 b (o + j * 3 + 0) = some (.bool x.path) ∧ cellAt H3 b (o + j * 3 + 2) = some (.bool x.prop) := fun j x hx => by
        obtain ⟨b, o, st, ha, hc⟩ := hr3.cell j x.cells (by simp [hx])
        exact ⟨b, o, st, ha, cellsAt_cell hc (j := 0) rfl, cellsAt_cell hc (j := 2) rfl⟩
      rcases ss with _ | ⟨x, _ | ⟨y, _ | ⟨z, r⟩⟩⟩
      · simp at hlen
        subst hlen
        repeat' ((conv => whnf); first
          | (refine Both.intro ?_ ?_ <;> intro _ <;> try (exfalso; omega))
          | (refine Need.intro (by omega) ?_)
          | (refine Gives.intro ⟨.agg #[.bool _, .bool _, .bool _], rfl, ?_⟩)
          | (refine Gives.intro ⟨.pointer (some ⟨_, 0 + 0, none⟩), rfl, ?_⟩)
          | (refine ⟨_, c03, ?_⟩)
          | (refine Outs.intro ⟨_, _, _, storeAgg_ok (vs := [.bool _, .bool _, .bool _]) (by kernel_rfl) rfl hg43 rfl, ?_⟩)
          | (refine ⟨_, cellsAt_all (n := 3) (by rw [AHeap.get_set, if_pos rfl]) rfl, ?_⟩)
          | (refine Br_split ?_ ?_ <;> (intro hb; subst hb))
          | fail)
        all_goals (conv => whnf)
        all_goals
          refine ⟨?_, (he2.trans e3).set (by omega) _⟩
          unfold wordF
          dsimp only
          rw [if_neg hbad]
          repeat (first | rw [if_pos (by omega)] | rw [if_neg (by omega)])
          first
          | rfl
          | (simp only [← hf, ← hp]; rfl)
          | (simp only [List.all_cons, List.all_nil, Bool.and_true, Bool.not_true, Bool.not_false, Bool.and_false, Bool.false_and, Bool.true_and] at hf hp ⊢; first | rfl | (simp only [← hf, ← hp]; rfl) | (subst hf; rfl) | (subst hp; rfl) | (subst hf; subst hp; rfl) | (cases hf; done) | (cases hp; done))
      · simp at hlen
        subst hlen
        obtain ⟨xp, xl, xr⟩ := x
        obtain ⟨b, o, st, ha, x0, x2⟩ := hels 0 _ rfl
        have hbn := hels0 0 _ rfl b o st ha
        subst ha
        repeat' ((conv => whnf); first
          | (refine Both.intro ?_ ?_ <;> intro _ <;> try (exfalso; omega))
          | (refine Need.intro (by omega) ?_)
          | (refine Gives.intro ⟨.agg #[.bool _, .bool _, .bool _], rfl, ?_⟩)
          | (refine Gives.intro ⟨.pointer (some ⟨H.next, 0 + 0, none⟩), rfl, ?_⟩)
          | (refine ⟨_, c03, ?_⟩)
          | (refine Outs.intro ⟨_, _, _, storeAgg_ok (vs := [.bool _, .bool _, .bool _]) (by kernel_rfl) rfl hg43 rfl, ?_⟩)
          | (refine ⟨_, cellsAt_all (n := 3) (by rw [AHeap.get_set, if_pos rfl]) rfl, ?_⟩)
          | (refine Need.intro (draw_of (by simp only [effAll, lookAll, and_true]; exact cellsAt_set hbn)) ?_)
          | (refine Need.intro (draw_of (by simp only [effAll, lookAll, and_true]; exact ⟨cellsAt_set hbn, cellsAt_set hbn⟩)) ?_)
          | (refine Gives.intro ⟨.pointer (some ⟨b, o + 0 * 3 + 0, none⟩), rfl, ?_⟩)
          | (refine Gives.intro ⟨.pointer (some ⟨b, o + 0 * 3 + 2, none⟩), rfl, ?_⟩)
          | (refine ⟨_, x0, ?_⟩)
          | (refine ⟨_, x2, ?_⟩)
          | (refine Br_split ?_ ?_ <;> (intro hb; subst hb))
          | fail)
        all_goals (conv => whnf)
        all_goals
          refine ⟨?_, (he2.trans e3).set (by omega) _⟩
          unfold wordF
          dsimp only
          rw [if_neg hbad]
          repeat (first | rw [if_pos (by omega)] | rw [if_neg (by omega)])
          first
          | rfl
          | (simp only [← hf, ← hp]; rfl)
          | (simp only [List.all_cons, List.all_nil, Bool.and_true, Bool.not_true, Bool.not_false, Bool.and_false, Bool.false_and, Bool.true_and] at hf hp ⊢; first | rfl | (simp only [← hf, ← hp]; rfl) | (subst hf; rfl) | (subst hp; rfl) | (subst hf; subst hp; rfl) | (cases hf; done) | (cases hp; done))
      · simp at hlen
        subst hlen
        obtain ⟨xp, xl, xr⟩ := x
        obtain ⟨yp, yl, yr⟩ := y
        obtain ⟨b, o, st, ha, x0, x2⟩ := hels 0 _ rfl
        have hbn := hels0 0 _ rfl b o st ha
        subst ha
        obtain ⟨b', o', st', hb', y0, y2⟩ := hels 1 _ rfl
        cases hb'
        repeat' ((conv => whnf); first
          | (refine Both.intro ?_ ?_ <;> intro _ <;> try (exfalso; omega))
          | (refine Need.intro (by omega) ?_)
          | (refine Gives.intro ⟨.agg #[.bool _, .bool _, .bool _], rfl, ?_⟩)
          | (refine Gives.intro ⟨.pointer (some ⟨H.next, 0 + 0, none⟩), rfl, ?_⟩)
          | (refine ⟨_, c03, ?_⟩)
          | (refine Outs.intro ⟨_, _, _, storeAgg_ok (vs := [.bool _, .bool _, .bool _]) (by kernel_rfl) rfl hg43 rfl, ?_⟩)
          | (refine ⟨_, cellsAt_all (n := 3) (by rw [AHeap.get_set, if_pos rfl]) rfl, ?_⟩)
          | (refine Need.intro (draw_of (by simp only [effAll, lookAll, and_true]; exact cellsAt_set hbn)) ?_)
          | (refine Need.intro (draw_of (by simp only [effAll, lookAll, and_true]; exact ⟨cellsAt_set hbn, cellsAt_set hbn⟩)) ?_)
          | (refine Gives.intro ⟨.pointer (some ⟨b, o + 0 * 3 + 0, none⟩), rfl, ?_⟩)
          | (refine Gives.intro ⟨.pointer (some ⟨b, o + 1 * 3 + 0, none⟩), rfl, ?_⟩)
          | (refine ⟨_, x0, ?_⟩)
          | (refine ⟨_, y0, ?_⟩)
          | (refine Br_split ?_ ?_ <;> (intro hb; subst hb))
          | fail)
        all_goals (conv => whnf)
        all_goals
          refine ⟨?_, (he2.trans e3).set (by omega) _⟩
          unfold wordF
          dsimp only
          rw [if_neg hbad]
          repeat (first | rw [if_pos (by omega)] | rw [if_neg (by omega)])
          first
          | rfl
          | (simp only [← hf, ← hp]; rfl)
          | (simp only [List.all_cons, List.all_nil, Bool.and_true, Bool.not_true, Bool.not_false, Bool.and_false, Bool.false_and, Bool.true_and] at hf hp ⊢; first | rfl | (simp only [← hf, ← hp]; rfl) | (subst hf; rfl) | (subst hp; rfl) | (subst hf; subst hp; rfl) | (cases hf; done) | (cases hp; done))
      · simp at hlen; omega
end Go.AX.Try
