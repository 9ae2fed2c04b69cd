/- Stacks: rows of many-cell elements that are cut and appended to, with room or without. -/
import Derived.Test.YtkngijdjkcdcjaaDoorLTok
namespace Go.AX.Lw
open Go Go.AX
set_option linter.unusedVariables false
variable {P : Program}
/-- What a drawn region's effects leave as it was, or come in a fixed order to. -/
def lookMix (ops : Array Oper) (j : Nat) (H H' : AHeap) : List (Nat × Ev) → Prop
  | [] => True
  | (i, .look b o n) :: r => (orderedB ops i j = true ∨ cellsAt H b o n = cellsAt H' b o n) ∧ lookMix ops j H H' r
  | (i, .make b _) :: r => (Nat.blt i j = false ∨ orderedB ops i j = true ∨ H.get b = H'.get b) ∧ lookMix ops j H H' r
  | _ :: r => lookMix ops j H H' r
def effMix (ops : Array Oper) (tr : List (Nat × Ev)) : List (Nat × Ev) → Prop
  | [] => True
  | (j, .eff H H') :: r => lookMix ops j H H' tr ∧ effMix ops tr r
  | _ :: r => effMix ops tr r
theorem lookMix_mem {ops : Array Oper} {j : Nat} {H H' : AHeap} : ∀ {tr : List (Nat × Ev)}, lookMix ops j H H' tr → ∀ x ∈ tr, evOk ops x (j, .eff H H') = true
  | [], _, _, h => by cases h
  | (i, e) :: r, h, x, hx => by
    cases e with
    | look b o n =>
      rcases List.mem_cons.1 hx with rfl | hx
      · simp only [evOk, lookOk]
        rcases h.1 with h | h
        · simp only [h, Bool.true_or]
        · simp only [h, decide_true, Bool.or_true]
      · exact lookMix_mem h.2 x hx
    | make b o =>
      rcases List.mem_cons.1 hx with rfl | hx
      · simp only [evOk, keepOk]
        rcases h.1 with h | h | h
        · simp only [h, cond_false]
        · simp only [h, Bool.true_or]; cases Nat.blt i j <;> rfl
        · simp only [h, decide_true, Bool.or_true]; cases Nat.blt i j <;> rfl
      · exact lookMix_mem h.2 x hx
    | quiet =>
      rcases List.mem_cons.1 hx with rfl | hx
      · rfl
      · exact lookMix_mem (tr := r) h x hx
    | eff _ _ =>
      rcases List.mem_cons.1 hx with rfl | hx
      · rfl
      · exact lookMix_mem (tr := r) h x hx
theorem effMix_mem {ops : Array Oper} {tr : List (Nat × Ev)} : ∀ {l : List (Nat × Ev)}, effMix ops tr l → ∀ j H H', (j, Ev.eff H H') ∈ l → lookMix ops j H H' tr
  | [], _, _, _, _, h => by cases h
  | (i, e) :: r, h, j, H, H', hm => by
    cases e with
    | eff _ _ =>
      rcases List.mem_cons.1 hm with he | hm
      · cases he; exact h.1
      · exact effMix_mem h.2 j H H' hm
    | _ =>
      rcases List.mem_cons.1 hm with he | hm
      · cases he
      · exact effMix_mem (l := r) h j H H' hm
theorem draw_mix {ops : Array Oper} {tr : List (Nat × Ev)} (h : effMix ops tr tr) : DrawP ops tr := by
  refine ⟨?_⟩
  unfold drawOk
  simp only [List.all_eq_true]
  rintro ⟨i, e⟩ hx ⟨j, f⟩ hy
  cases f with
  | eff H H' => exact lookMix_mem (effMix_mem h j H H' hy) _ hx
  | _ => cases e <;> rfl
/-- What append is told of its types: elements of sz cells. -/
structure AppTyS (P : Program) (ts : Array TypeId) (e : TypeId) (sz by_ : Nat) : Prop where
  t0 : (ts[0]?).bind P.underlying = some (.slice e)
  t1 : ((ts[1]?).bind P.underlying).map isIntD = some false
  size : sizeT P e = some sz
  bytes : bytesT P e = some by_
  pos : by_ ≠ 0
  szp : sz ≠ 0
  szl : ¬ 1073741824 ≤ sz
  zero : ∃ z, zeroOf P e = some z ∧ z.cells.size = sz
theorem appendS_eq {H : AHeap} {ts : Array TypeId} {e : TypeId} {sz by_ : Nat} (ty : AppTyS P ts e sz by_) {base : Option Addr} {len cap m : Nat} {x : Value} {new : List Value} (hx : srcCells H sz x = some (m, new)) :
    aAppend P H ts [.slice base len cap, x] = aAppendTo H sz (rowV e sz) by_ base len cap m new := by
  obtain ⟨z, hz, hz1⟩ := ty.zero
  have h0 := ty.t0; have h1 := ty.t1
  cases ht0 : ts[0]? with
  | none => rw [ht0] at h0; cases h0
  | some t =>
    rw [ht0] at h0
    cases ht1 : ts[1]? with
    | none => rw [ht1] at h1; cases h1
    | some u =>
      rw [ht1] at h1
      simp only [Option.bind_some] at h0 h1
      cases hu : P.underlying u with
      | none => rw [hu] at h1; cases h1
      | some d =>
        rw [hu] at h1
        simp only [Option.map_some, Option.some.injEq] at h1
        have hb : Nat.beq by_ 0 = false := nbeq_no ty.pos
        have c1 : Nat.beq sz 0 = false := nbeq_no ty.szp
        have c2 : Nat.beq sz sz = true := nbeq sz
        have c3 : Nat.ble 1073741824 sz = false := nble_no ty.szl
        unfold aAppend
        simp only [ht0, h0, ty.size, ty.bytes, hz, hz1, hb, c1, c2, c3, Bool.not_true, Bool.or_false, cond_false, ht1, hu, h1, hx]
theorem flat_len {sz : Nat} : ∀ {xs : List (List Value)}, (∀ x ∈ xs, x.length = sz) → xs.flatten.length = xs.length * sz
  | [], _ => by simp
  | x :: r, h => by
    have := flat_len (xs := r) fun y hy => h y (by simp [hy])
    simp only [List.flatten_cons, List.length_append, this, h x (by simp), List.length_cons, Nat.succ_mul]; omega
theorem flat_get {sz : Nat} : ∀ {xs : List (List Value)} {i : Nat} {x : List Value}, (∀ x ∈ xs, x.length = sz) → xs[i]? = some x → ∀ j, j < sz → xs.flatten[i * sz + j]? = x[j]?
  | [], i, x, _, h, _, _ => by simp at h
  | y :: r, 0, x, ha, h, j, hj => by
    have hy := ha y (by simp)
    obtain rfl : y = x := by simpa using h
    simp only [List.flatten_cons, Nat.zero_mul, Nat.zero_add]
    rw [List.getElem?_append_left (by omega)]
  | y :: r, i + 1, x, ha, h, j, hj => by
    have hy := ha y (by simp)
    have := flat_get (xs := r) (i := i) (x := x) (fun z hz => ha z (by simp [hz])) (by simpa using h) j hj
    simp only [List.flatten_cons]
    rw [List.getElem?_append_right (by rw [hy, Nat.succ_mul]; omega), hy, show (i + 1) * sz + j - sz = i * sz + j by rw [Nat.succ_mul]; omega]
    exact this
theorem flat_take {sz : Nat} : ∀ {xs : List (List Value)} {m : Nat}, (∀ x ∈ xs, x.length = sz) → xs.flatten.take (m * sz) = (xs.take m).flatten
  | [], m, _ => by simp
  | x :: r, 0, _ => by simp
  | x :: r, m + 1, ha => by
    have hx := ha x (by simp)
    have := flat_take (xs := r) (m := m) fun z hz => ha z (by simp [hz])
    simp only [List.flatten_cons, List.take_succ_cons, ← this]
    rw [List.take_append, List.take_of_length_le (by rw [hx, Nat.succ_mul]; omega), hx, show (m + 1) * sz - sz = m * sz by rw [Nat.succ_mul]; omega]
theorem flat_cells {H : AHeap} {b c sz : Nat} {cs : List Value} {e : Nat} {own : Bool} {xs : List (List Value)} (hg : H.get b = some (.cells cs e own)) (ha : ∀ x ∈ xs, x.length = sz) (hp : xs.flatten <+: cs) {i : Nat} {x : List Value} (hx : xs[i]? = some x) : cellsAt H b (i * sz) sz = some x := by
  have hxl := ha x (List.mem_of_getElem? hx)
  obtain ⟨r, rfl⟩ := hp
  have hi := (List.getElem?_eq_some_iff.1 hx).1
  simp only [cellsAt, hg]
  refine takeN_of sz _ x hxl fun j v hv => ?_
  have hj : j < sz := by rw [← hxl]; exact (List.getElem?_eq_some_iff.1 hv).1
  rw [dropN_get, List.getElem?_append_left, flat_get ha hx j hj]
  · exact hv
  · rw [flat_len ha]
    have : (i + 1) * sz ≤ xs.length * sz := Nat.mul_le_mul_right sz (by omega)
    rw [Nat.succ_mul] at this; omega
theorem cellsAt_same {H H' : AHeap} {b o n : Nat} (h : H'.get b = H.get b) : cellsAt H' b o n = cellsAt H b o n := by unfold cellsAt; rw [h]
/-- A stack: nil, or a row with room. -/
def Stk (H0 H : AHeap) (code sz : Nat) (a : Option Addr) (n c : Nat) (xs : List (List Value)) : Prop :=
  n = xs.length ∧ n ≤ c ∧ (∀ x ∈ xs, x.length = sz) ∧ ((a = none ∧ c = 0) ∨ ∃ b cs, a = some ⟨b, 0, some 0⟩ ∧ H.get b = some (.cells cs code true) ∧ cs.length = c * sz ∧ xs.flatten <+: cs ∧ H0.next ≤ b)
theorem Stk.nil (H0 H : AHeap) (code sz : Nat) : Stk H0 H code sz none 0 0 [] := ⟨rfl, Nat.le_refl _, by simp, .inl ⟨rfl, rfl⟩⟩
theorem Stk.same {H0 H H' : AHeap} {code sz : Nat} {a : Option Addr} {n c : Nat} {xs : List (List Value)} (h : Stk H0 H code sz a n c xs) (hs : ∀ b, a = some ⟨b, 0, some 0⟩ → H'.get b = H.get b) : Stk H0 H' code sz a n c xs := by
  obtain ⟨h1, h2, h3, h | ⟨b, cs, ha, hg, hl, hp, hb⟩⟩ := h
  · exact ⟨h1, h2, h3, .inl h⟩
  · exact ⟨h1, h2, h3, .inr ⟨b, cs, ha, by rw [hs b ha]; exact hg, hl, hp, hb⟩⟩
theorem Stk.ext {H0 H H' : AHeap} {code sz : Nat} {a : Option Addr} {n c : Nat} {xs : List (List Value)} (hw : Wf H) (e : Ext H H') (h : Stk H0 H code sz a n c xs) : Stk H0 H' code sz a n c xs := by
  refine h.same fun b hb => ?_
  obtain ⟨h1, h2, h3, ⟨h, _⟩ | ⟨b', cs, ha, hg, hl, hp, hb'⟩⟩ := h
  · rw [h] at hb; cases hb
  · rw [ha] at hb; cases hb; exact e.get _ (hw.lt hg)
theorem Stk.lt {H0 H : AHeap} {code sz : Nat} {a : Option Addr} {n c : Nat} {xs : List (List Value)} (hw : Wf H) (h : Stk H0 H code sz a n c xs) {b o : Nat} {s : Option Nat} (ha : a = some ⟨b, o, s⟩) : H0.next ≤ b ∧ b < H.next := by
  obtain ⟨h1, h2, h3, ⟨h, _⟩ | ⟨b', cs, ha', hg, hl, hp, hb'⟩⟩ := h
  · rw [h] at ha; cases ha
  · rw [ha] at ha'; cases ha'; exact ⟨hb', hw.lt hg⟩
theorem Stk.cut {H0 H : AHeap} {code sz : Nat} {a : Option Addr} {n c : Nat} {xs : List (List Value)} (h : Stk H0 H code sz a n c xs) {m : Nat} (hm : m ≤ n) : Stk H0 H code sz a m c (xs.take m) := by
  obtain ⟨h1, h2, h3, h⟩ := h
  refine ⟨by simp; omega, by omega, fun x hx => h3 x (List.mem_of_mem_take hx), ?_⟩
  rcases h with h | ⟨b, cs, ha, hg, hl, hp, hb⟩
  · exact .inl h
  · exact .inr ⟨b, cs, ha, hg, hl, by rw [← flat_take h3]; exact (List.take_prefix _ _).trans hp, hb⟩
/-- The address behind the first m elements. -/
def offA (a : Option Addr) (o : Nat) : Option Addr := a.map fun x => ⟨x.block, x.off + o, x.spot⟩
theorem Stk.rest {H0 H : AHeap} {code sz : Nat} {a : Option Addr} {n c : Nat} {xs : List (List Value)} (h : Stk H0 H code sz a n c xs) {m : Nat} (hm : m ≤ n) : RowS H (offA a (m * sz)) (n - m) (c - m) sz (xs.drop m) := by
  obtain ⟨h1, h2, h3, h⟩ := h
  refine ⟨by simp; omega, by omega, fun x hx => h3 x (List.mem_of_mem_drop hx), fun i x hx => ?_⟩
  rw [List.getElem?_drop] at hx
  rcases h with ⟨h, rfl⟩ | ⟨b, cs, ha, hg, hl, hp, hb⟩
  · have := (List.getElem?_eq_some_iff.1 hx).1; omega
  · subst ha
    exact ⟨b, _, _, rfl, by rw [show 0 + m * sz + i * sz = (m + i) * sz by rw [Nat.add_mul]; omega]; exact flat_cells (c := c) hg h3 hp hx⟩
theorem Stk.row {H0 H : AHeap} {code sz : Nat} {a : Option Addr} {n c : Nat} {xs : List (List Value)} (h : Stk H0 H code sz a n c xs) : RowS H a n c sz xs := by
  have := h.rest (Nat.zero_le n)
  cases a with
  | none => simpa [offA] using this
  | some x => obtain ⟨b, o, s⟩ := x; simpa [offA] using this
theorem slice_from {t e : TypeId} {n : Nat} {a : Option Addr} {len c m : Nat} {k : IntKind} (ht : P.underlying t = some (.slice e)) (hs : sizeT P e = some n) (hh : m ≤ len) (hc : len ≤ c) (ha : ∀ b o, a ≠ some ⟨b, o, none⟩) :
    aSlice P t (.slice a len c) (some (.int k m)) none none = some (.slice (offA a (m * n)) (len - m) (c - m)) := by
  unfold aSlice
  simp only [ht, aBound, hs]
  rw [if_pos (by omega)]
  simp only [Int.toNat_natCast, nble hc, cond_true]
  cases a with
  | none => rfl
  | some a =>
    obtain ⟨b, o, s⟩ := a
    cases s with
    | none => exact absurd rfl (ha b o)
    | some s => rfl
theorem slice_fromI {t e : TypeId} {n : Nat} {a : Option Addr} {len c m : Nat} {k : IntKind} {i : Int} (ht : P.underlying t = some (.slice e)) (hs : sizeT P e = some n) (hi : i = m) (hh : m ≤ len) (hc : len ≤ c) (ha : ∀ b o, a ≠ some ⟨b, o, none⟩) :
    aSlice P t (.slice a len c) (some (.int k i)) none none = some (.slice (offA a (m * n)) (len - m) (c - m)) := by
  subst hi; exact slice_from ht hs hh hc ha
theorem slice_toI {t e : TypeId} {n : Nat} {a : Option Addr} {len c m : Nat} {k : IntKind} {i : Int} (ht : P.underlying t = some (.slice e)) (hs : sizeT P e = some n) (hi : i = m) (hh : m ≤ c) :
    aSlice P t (.slice a len c) none (some (.int k i)) none = some (.slice a m c) := by
  subst hi; exact slice_toN ht hs hh
theorem srcS {H : AHeap} {b sz : Nat} {st : Option Nat} {cs : List Value} {e : Nat} {own : Bool} (hg : H.get b = some (.cells cs e own)) (hl : cs.length = sz) : srcCells H sz (.slice (some ⟨b, 0, st⟩) 1 1) = some (1, cs) := by
  subst hl
  have e1 : Nat.beq 1 0 = false := rfl
  have e2 : Nat.ble 1 1 = true := rfl
  unfold srcCells
  simp only [e1, e2, cond_false, cond_true, cellsAt, hg, Nat.one_mul, dropN, takeN_all]
theorem Stk.spot {H0 H : AHeap} {code sz : Nat} {a : Option Addr} {n c : Nat} {xs : List (List Value)} (h : Stk H0 H code sz a n c xs) : ∀ b o, a ≠ some ⟨b, o, none⟩ := by
  intro b o ha
  obtain ⟨h1, h2, h3, ⟨h, _⟩ | ⟨b', cs, ha', hg, hl, hp, hb'⟩⟩ := h
  · rw [h] at ha; cases ha
  · rw [ha] at ha'; cases ha'
theorem stk_pushC {H0 H : AHeap} (he : H0.next ≤ H.next) (hw : Wf H) {ts : Array TypeId} {e : TypeId} {sz by_ : Nat} (ty : AppTyS P ts e sz by_) {a : Option Addr} {n c m : Nat} {xs : List (List Value)} (hv : Stk H0 H (rowV e sz) sz a n c xs) (hm : m ≤ n)
    {x : Value} {cells : List Value} (hx : srcCells H sz x = some (1, cells)) (hl : cells.length = sz) (hone : allOne cells = true) (hb : (n + 1) * by_ ≤ 2 ^ 47) (hb1 : n + 1 ≤ 2 ^ 47) :
    ∃ a' c' H', aAppend P H ts [.slice a m c, x] = some (.val (.slice a' (m + 1) c') H' (.eff H H')) ∧ Stk H0 H' (rowV e sz) sz a' (m + 1) c' (xs.take m ++ [cells]) ∧ Wf H' ∧ H.next ≤ H'.next ∧ (∀ b, b < H.next → (∀ o s, a ≠ some ⟨b, o, s⟩) → H'.get b = H.get b) ∧ ∀ b o s, a' = some ⟨b, o, s⟩ → a = some ⟨b, o, s⟩ ∨ H.next ≤ b := by
  have hmb : (m + 1) * by_ ≤ 2 ^ 47 := Nat.le_trans (Nat.mul_le_mul_right _ (by omega)) hb
  have hm1 : m + 1 ≤ 2 ^ 47 := by omega
  obtain ⟨h1, h2, h3, h⟩ := hv.cut hm
  have h3' : ∀ y ∈ xs.take m ++ [cells], y.length = sz := by
    intro y hy
    rcases List.mem_append.1 hy with hy | hy
    · exact h3 y hy
    · simp at hy; subst hy; exact hl
  have hln : (xs.take m ++ [cells]).length = m + 1 := by rw [List.length_append, ← h1]; rfl
  rw [appendS_eq ty hx]
  have hall : (Nat.ble ((m + 1) * by_) (2 ^ 47) && Nat.ble (m + 1) (2 ^ 47) && Nat.beq cells.length (1 * sz) && Nat.ble m c && allOne cells) = true := by
    simp only [Bool.and_eq_true, nble hmb, nble hm1, nble h2, hone, Nat.one_mul, hl, nbeq, and_true]
  unfold aAppendTo
  simp only [hall, cond_true]
  rcases h with ⟨rfl, rfl⟩ | ⟨b, cs, rfl, hg, hcl, hp, hb'⟩
  · obtain rfl : m = 0 := by omega
    have e1 : Nat.beq (0 + 1) 0 = false := rfl
    have e2 : (Nat.beq 0 0 && Nat.beq 0 0) = true := rfl
    simp only [e1, e2, cond_false, cond_true]
    refine ⟨_, _, _, rfl, ⟨by simp, by omega, h3', .inr ⟨H.next, cells, rfl, by rw [AHeap.get_push, if_pos rfl], by omega, by simp, he⟩⟩, hw.push _, by simp, fun b hb _ => (Ext.push _ _).get b hb, fun b o s h => by cases h; exact .inr (Nat.le_refl _)⟩
  · by_cases hc : m + 1 ≤ c
    · have hfl := flat_len h3
      rw [← h1] at hfl
      obtain ⟨r, hr⟩ := hp
      have hput : m * sz + cells.length ≤ cs.length := by
        rw [hcl, hl]
        have := Nat.mul_le_mul_right sz hc
        rw [Nat.succ_mul] at this; omega
      simp only [nble hc, cond_true, hg, Bool.true_or]
      rw [show 0 + m * sz = m * sz by omega, putAt_list cs (m * sz) cells hput]
      refine ⟨_, _, _, rfl, ⟨by rw [hln], hc, h3', .inr ⟨b, _, rfl, by rw [AHeap.get_set, if_pos rfl], ?_, ?_, hb'⟩⟩, hw.set hg _, by simp, fun b' hlt hne => by rw [AHeap.get_set, if_neg (fun hbb => hne 0 (some 0) (by rw [hbb]))], fun b o s h => .inl h⟩
      · rw [← hcl]; simp; omega
      · rw [← hr, show m * sz = (xs.take m).flatten.length from hfl.symm, List.take_left]
        simp
    · obtain rfl : c = m := by omega
      have hnb : Nat.ble (c + 1) c = false := nble_no hc
      have hfl := flat_len h3
      rw [← h1] at hfl
      obtain ⟨r, hr⟩ := hp
      have hr0 : r = [] := by
        have := congrArg List.length hr
        rw [List.length_append, hfl, hcl] at this
        exact List.length_eq_zero_iff.1 (by omega)
      subst hr0
      rw [List.append_nil] at hr
      have e1 : (Nat.beq (rowV e sz) (rowV e sz) && Nat.beq (0 + c * sz) cs.length && Nat.ble c c) = true := by
        simp only [Bool.and_eq_true, nbeq, Nat.zero_add, hcl, nble (Nat.le_refl c), and_true]
      have e2 : takeN (c * sz) (dropN 0 cs) = some cs := by rw [← hcl]; exact takeN_all cs
      simp only [hnb, cond_false, hg, e1, cond_true, e2]
      refine ⟨_, _, _, rfl, ⟨by rw [hln], by omega, h3', .inr ⟨H.next, _, rfl, by rw [AHeap.get_push, if_pos (by rfl)], by rw [List.length_append, hcl, hl, Nat.succ_mul], by rw [← hr]; simp, he⟩⟩, (hw.set hg _).push _, by simp, fun b' hlt hne => ?_, fun b o s h => by cases h; exact .inr (Nat.le_refl _)⟩
      rw [AHeap.get_push, if_neg (by simp; omega), AHeap.get_set, if_neg (fun hbb => hne 0 (some 0) (by rw [hbb]))]
theorem stk_push {H0 H : AHeap} (he : Ext H0 H) (hw : Wf H) {ts : Array TypeId} {e : TypeId} {sz by_ : Nat} (ty : AppTyS P ts e sz by_) {a : Option Addr} {n c m : Nat} {xs : List (List Value)} (hv : Stk H0 H (rowV e sz) sz a n c xs) (hm : m ≤ n)
    {x : Value} {cells : List Value} (hx : srcCells H sz x = some (1, cells)) (hl : cells.length = sz) (hone : allOne cells = true) (hb : (n + 1) * by_ ≤ 2 ^ 47) (hb1 : n + 1 ≤ 2 ^ 47) :
    ∃ a' c' H', aAppend P H ts [.slice a m c, x] = some (.val (.slice a' (m + 1) c') H' (.eff H H')) ∧ Stk H0 H' (rowV e sz) sz a' (m + 1) c' (xs.take m ++ [cells]) ∧ Ext H0 H' ∧ Wf H' ∧ H.next ≤ H'.next ∧ (∀ b, b < H.next → (∀ o s, a ≠ some ⟨b, o, s⟩) → H'.get b = H.get b) ∧ ∀ b o s, a' = some ⟨b, o, s⟩ → a = some ⟨b, o, s⟩ ∨ H.next ≤ b := by
  obtain ⟨a', c', H', h1, h2, h3, h4, h5, h6⟩ := stk_pushC he.next hw ty hv hm hx hl hone hb hb1
  refine ⟨a', c', H', h1, h2, ⟨Nat.le_trans he.next h4, fun b hb => (h5 b (Nat.lt_of_lt_of_le hb he.next) fun o s h => ?_).trans (he.get b hb)⟩, h3, h4, h5, h6⟩
  have := (hv.lt hw h).1
  omega
end Go.AX.Lw
