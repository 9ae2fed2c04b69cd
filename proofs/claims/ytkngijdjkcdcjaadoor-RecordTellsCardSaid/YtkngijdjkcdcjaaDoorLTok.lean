/- Tokens, sorts: rows of structs, struct variables; kernel.Check. -/
import Derived.Test.YtkngijdjkcdcjaaDoorLKit
namespace Go.AX.Lw
open Go Go.AX
set_option linter.unusedVariables false
variable {P : Program}
theorem Br_split {t : Bool} {A B : Prop} (h1 : t = true → A) (h2 : t = false → B) : @Bool.rec (fun _ => Prop) B A t := by
  cases t
  · exact h2 rfl
  · exact h1 rfl
/-- A slice value over a row of elements of sz cells. -/
structure RowS (H : AHeap) (a : Option Addr) (n c sz : Nat) (xs : List (List Value)) : Prop where
  len : n = xs.length
  cap : n ≤ c
  all : ∀ x ∈ xs, x.length = sz
  cell : ∀ (i : Nat) (x : List Value), xs[i]? = some x → ∃ b o st, a = some ⟨b, o, st⟩ ∧ cellsAt H b (o + i * sz) sz = some x
theorem cellsAt_ext {H H' : AHeap} (hw : Wf H) (e : Ext H H') {b o n : Nat} {l : List Value} (h : cellsAt H b o n = some l) : cellsAt H' b o n = some l := by
  unfold cellsAt at h ⊢
  cases hg : H.get b with
  | none => rw [hg] at h; cases h
  | some x => rw [hg] at h; rw [e.get b (hw.lt hg), hg]; exact h
theorem RowS.ext {H H' : AHeap} (hw : Wf H) (e : Ext H H') {a : Option Addr} {n c sz : Nat} {xs : List (List Value)} (h : RowS H a n c sz xs) : RowS H' a n c sz xs :=
  ⟨h.len, h.cap, h.all, fun i x hx => by obtain ⟨b, o, st, ha, hc⟩ := h.cell i x hx; exact ⟨b, o, st, ha, cellsAt_ext hw e hc⟩⟩
theorem takeN_get : ∀ {n : Nat} {l m : List Value}, takeN n l = some m → m.length = n ∧ ∀ j, j < n → l[j]? = m[j]?
  | 0, l, m, h => by cases l <;> (simp [takeN] at h; subst h; simp)
  | n + 1, [], m, h => by simp [takeN] at h
  | n + 1, x :: l, m, h => by
    simp only [takeN] at h
    split at h
    · rename_i q hq
      cases h
      obtain ⟨h1, h2⟩ := takeN_get hq
      refine ⟨by simp [h1], fun j hj => ?_⟩
      cases j with
      | zero => rfl
      | succ j => simpa using h2 j (by omega)
    · cases h
theorem cellsAt_cell {H : AHeap} {b o n : Nat} {l : List Value} (h : cellsAt H b o n = some l) {j : Nat} {v : Value} (hj : l[j]? = some v) : cellAt H b (o + j) = some v := by
  unfold cellsAt at h; unfold cellAt
  cases hg : H.get b with
  | none => rw [hg] at h; cases h
  | some x =>
    rw [hg] at h
    cases x with
    | cells cs e own =>
      obtain ⟨h1, h2⟩ := takeN_get h
      have hlt : j < n := by rw [← h1]; exact (List.getElem?_eq_some_iff.1 hj).1
      have := h2 j hlt
      rw [dropN_get] at this
      simp only
      rw [this]; exact hj
    | _ => cases h
theorem cellsAt_all {H : AHeap} {b : Nat} {cs : List Value} {e : Nat} {own : Bool} (hg : H.get b = some (.cells cs e own)) {n : Nat} (hn : cs.length = n) : cellsAt H b 0 n = some cs := by
  subst hn
  simp only [cellsAt, hg, dropN, takeN_all]
theorem cellAt_of {H : AHeap} {b : Nat} {cs : List Value} {e : Nat} {own : Bool} (hg : H.get b = some (.cells cs e own)) {o : Nat} {v : Value} (hv : cs[o]? = some v) : cellAt H b (0 + o) = some v := by
  unfold cellAt; rw [hg, Nat.zero_add]; exact hv
/-- What an effect leaves as it was: all that was looked at, all that was made. -/
def lookAll (H H' : AHeap) : List (Nat × Ev) → Prop
  | [] => True
  | (_, .look b o n) :: r => cellsAt H b o n = cellsAt H' b o n ∧ lookAll H H' r
  | (_, .make b _) :: r => H.get b = H'.get b ∧ lookAll H H' r
  | _ :: r => lookAll H H' r
def effAll (tr : List (Nat × Ev)) : List (Nat × Ev) → Prop
  | [] => True
  | (_, .eff H H') :: r => lookAll H H' tr ∧ effAll tr r
  | _ :: r => effAll tr r
theorem lookAll_mem {H H' : AHeap} : ∀ {tr : List (Nat × Ev)}, lookAll H H' tr → (∀ i b o n, (i, Ev.look b o n) ∈ tr → cellsAt H b o n = cellsAt H' b o n) ∧ (∀ i b x, (i, Ev.make b x) ∈ tr → H.get b = H'.get b)
  | [], _ => ⟨(fun _ _ _ _ h => by cases h), (fun _ _ _ h => by cases h)⟩
  | (i, e) :: r, h => by
    cases e with
    | look b o n =>
      obtain ⟨h1, h2⟩ := lookAll_mem h.2
      refine ⟨fun i b o n hm => ?_, fun i b x hm => ?_⟩
      · rcases List.mem_cons.1 hm with he | hm
        · cases he; exact h.1
        · exact h1 _ _ _ _ hm
      · rcases List.mem_cons.1 hm with he | hm
        · cases he
        · exact h2 _ _ _ hm
    | make b x =>
      obtain ⟨h1, h2⟩ := lookAll_mem h.2
      refine ⟨fun i b o n hm => ?_, fun i b x hm => ?_⟩
      · rcases List.mem_cons.1 hm with he | hm
        · cases he
        · exact h1 _ _ _ _ hm
      · rcases List.mem_cons.1 hm with he | hm
        · cases he; exact h.1
        · exact h2 _ _ _ hm
    | quiet =>
      obtain ⟨h1, h2⟩ := lookAll_mem (tr := r) h
      refine ⟨fun i b o n hm => ?_, fun i b x hm => ?_⟩
      · rcases List.mem_cons.1 hm with he | hm
        · cases he
        · exact h1 _ _ _ _ hm
      · rcases List.mem_cons.1 hm with he | hm
        · cases he
        · exact h2 _ _ _ hm
    | eff _ _ =>
      obtain ⟨h1, h2⟩ := lookAll_mem (tr := r) h
      refine ⟨fun i b o n hm => ?_, fun i b x hm => ?_⟩
      · rcases List.mem_cons.1 hm with he | hm
        · cases he
        · exact h1 _ _ _ _ hm
      · rcases List.mem_cons.1 hm with he | hm
        · cases he
        · exact h2 _ _ _ hm
theorem effAll_mem {tr : List (Nat × Ev)} : ∀ {l : List (Nat × Ev)}, effAll tr l → ∀ j H H', (j, Ev.eff H H') ∈ l → lookAll H H' tr
  | [], _, _, _, _, h => by cases h
  | (i, e) :: r, h, j, H, H', hm => by
    cases e with
    | eff _ _ =>
      rcases List.mem_cons.1 hm with he | hm
      · cases he; exact h.1
      · exact effAll_mem h.2 j H H' hm
    | _ =>
      rcases List.mem_cons.1 hm with he | hm
      · cases he
      · exact effAll_mem (l := r) h j H H' hm
theorem draw_of {ops : Array Oper} {tr : List (Nat × Ev)} (h : effAll tr tr) : DrawP ops tr := by
  refine ⟨?_⟩
  unfold drawOk
  simp only [List.all_eq_true]
  rintro ⟨i, e⟩ hx ⟨j, f⟩ hy
  cases f with
  | eff H H' =>
    obtain ⟨h1, h2⟩ := lookAll_mem (effAll_mem h j H H' hy)
    cases e with
    | look b o n => simp only [evOk, lookOk, h1 i b o n hx, decide_true, Bool.or_true]
    | make b x =>
      simp only [evOk]
      cases Nat.blt i j with
      | false => rfl
      | true => simp only [cond_true, keepOk, h2 i b x hx, decide_true, Bool.or_true]
    | _ => rfl
  | _ => cases e <;> rfl
theorem cellsAt_set {H : AHeap} {b c o n : Nat} {x : AObj} (h : b ≠ c) : cellsAt H b o n = cellsAt (H.set c x) b o n := by
  unfold cellsAt; rw [AHeap.get_set, if_neg h]
/-- The whole of a struct variable is written. -/
theorem storeAgg_ok {H : AHeap} {t : TypeId} {b : Nat} {vs : List Value} {cs : List Value} {e : Nat} (hs : sizeT P t = some vs.length) (h2 : allOne vs = true) (hg : H.get b = some (.cells cs e true)) (hl : cs.length = vs.length) :
    aStore P H t (.pointer (some ⟨b, 0, none⟩)) (.agg vs.toArray) = some (.val undef (H.set b (.cells vs e true)) (.eff H (H.set b (.cells vs e true)))) := by
  have h3 : (Value.agg vs.toArray).cells.toList = vs := rfl
  have h4 : (Value.agg vs.toArray).cells.size = vs.length := by rw [← Array.length_toList, h3]
  unfold aStore
  simp only [hs, h3, h4, h2, nbeq, Bool.and_self, cond_true, hg]
  rw [putAt_list cs 0 vs (by omega), List.drop_of_length_le (by omega)]
  simp
end Go.AX.Lw
namespace Go.AX.Tryd
open Go Go.AX Go.AX.Lw Go.Proofs
set_option linter.unusedVariables false
set_option maxRecDepth 100000
def takesF (op : Nat) : Nat := if op ≤ 5 then 0 else if op = 6 ∨ op = 7 ∨ op = 8 ∨ op = 9 ∨ op = 10 ∨ op = 19 ∨ op = 20 ∨ op = 23 then 1 else 2
structure Tk where
  op : Nat
  p : Nat
structure So where
  path : Bool
  plain : Bool
  prop : Bool
def So.cells (s : So) : List Value := [.bool s.path, .bool s.plain, .bool s.prop]
def Tk.cells (t : Tk) : List Value := [.int .u8 t.op, .int .u8 t.p]
def no : So := ⟨false, false, false⟩
def wordF (t : Tk) (a : List So) : So × Bool :=
  let formulas := a.all fun x => !x.path
  let plain := a.all fun x => x.plain
  let a0 := (a[0]?).getD no
  let a1 := (a[1]?).getD no
  if t.op ≠ 2 ∧ t.p ≠ 0 ∨ t.p ≥ 8 then (no, false) else
  if t.op = 0 ∨ t.op = 1 then (⟨false, true, false⟩, true) else
  if t.op = 2 then (⟨false, true, true⟩, true) else
  if t.op = 4 ∨ t.op = 5 then (no, true) else
  if t.op = 6 then (⟨false, true, false⟩, a0.prop) else
  if t.op = 11 ∨ t.op = 12 then (⟨false, plain, false⟩, formulas) else
  if t.op = 7 ∨ t.op = 8 ∨ t.op = 15 ∨ t.op = 16 then (no, formulas) else
  if t.op = 17 ∨ t.op = 18 then (no, a0.path && !a1.path) else
  if t.op = 19 then (⟨true, false, false⟩, formulas && plain) else
  if t.op = 20 then (⟨true, false, false⟩, formulas) else
  if t.op = 21 ∨ t.op = 22 then (⟨true, false, false⟩, a0.path && a1.path) else
  if t.op = 23 then (⟨true, false, false⟩, a0.path) else (no, false)
end Go.AX.Tryd
