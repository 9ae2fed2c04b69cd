/- What a table's items say: plain laws. -/
import Derived.Test.YtgbclgkadlfejaaLKeep
namespace Go.AX.Try
open Go Go.AX Go.AX.Lw Go.Proofs
set_option linter.unusedVariables false
def childs (x : It) : List Int := [x.a, x.b].take (takesT x.op)
def textN : Nat → List It → Int → List Tk
  | 0, _, _ => []
  | f + 1, items, v => match items[v.toNat]? with
    | none => []
    | some x => (childs x).flatMap (textN f items) ++ [⟨x.op, x.p⟩]
def textOf (items : List It) (v : Int) : List Tk := textN (v.toNat + 1) items v
structure Good (items : List It) : Prop where
  below : ∀ (i : Nat) (x : It), items[i]? = some x → ∀ v ∈ childs x, 0 ≤ v ∧ v < i
  lt : ∀ (i : Nat) (x : It), items[i]? = some x → x.a < i ∧ x.b < i
  uniq : items.Nodup
theorem Good.nil : Good [] := ⟨by simp, by simp, by simp⟩
theorem flatMap_congr' {α β : Type} {f g : α → List β} : ∀ {l : List α}, (∀ x ∈ l, f x = g x) → l.flatMap f = l.flatMap g
  | [], _ => rfl
  | x :: r, h => by
    simp only [List.flatMap_cons, h x (by simp)]
    rw [flatMap_congr' (l := r) fun y hy => h y (by simp [hy])]
theorem text_fuel {items : List It} (hg : Good items) : ∀ (f g : Nat) (v : Int), v.toNat < f → v.toNat < g → textN f items v = textN g items v
  | 0, _, _, h, _ => by omega
  | _ + 1, 0, _, _, h => by omega
  | f + 1, g + 1, v, hf, hgg => by
    simp only [textN]
    cases hx : items[v.toNat]? with
    | none => rfl
    | some x =>
      simp only
      congr 1
      exact flatMap_congr' fun w hw => by
        have := hg.below _ _ hx w hw
        exact text_fuel hg f g w (by omega) (by omega)
theorem text_step {items : List It} (hg : Good items) {i : Nat} {x : It} (hx : items[i]? = some x) : textOf items i = (childs x).flatMap (textOf items) ++ [⟨x.op, x.p⟩] := by
  show textN (((i : Int)).toNat + 1) items i = _
  simp only [textN, Int.toNat_natCast, hx]
  congr 1
  exact flatMap_congr' fun w hw => by
    have := hg.below _ _ hx w hw
    exact text_fuel hg _ _ w (by omega) (by omega)
theorem text_pre {items items' : List It} (hg : Good items) (hp : items <+: items') : ∀ (f : Nat) (v : Int), v.toNat < items.length → textN f items' v = textN f items v
  | 0, _, _ => rfl
  | f + 1, v, hv => by
    obtain ⟨r, rfl⟩ := hp
    simp only [textN, List.getElem?_append_left hv]
    cases hx : items[v.toNat]? with
    | none => rfl
    | some x =>
      simp only
      congr 1
      exact flatMap_congr' fun w hw => by
        have := hg.below _ _ hx w hw
        exact text_pre hg (List.prefix_append _ _) f w (by omega)
theorem mkIt_childs {t : Tk} {l : List Int} (h : l.length = takesT t.op) : childs (mkIt t l) = l ∧ (mkIt t l).op = t.op ∧ (mkIt t l).p = t.p := by
  have hT := takesT_le t.op
  rcases l with _ | ⟨a, _ | ⟨b, _ | ⟨c, r⟩⟩⟩
  · simp only [List.length_nil] at h
    exact ⟨by simp [childs, mkIt, ← h], rfl, rfl⟩
  · simp only [List.length_cons, List.length_nil] at h
    exact ⟨by simp [childs, mkIt, ← h], rfl, rfl⟩
  · simp only [List.length_cons, List.length_nil] at h
    exact ⟨by simp [childs, mkIt, ← h], rfl, rfl⟩
  · simp at h; omega
theorem mkIt_lt {t : Tk} {l : List Int} {n : Nat} (h : ∀ v ∈ l, v < n) : (mkIt t l).a < n ∧ (mkIt t l).b < n := by
  rcases l with _ | ⟨a, _ | ⟨b, _ | ⟨c, r⟩⟩⟩
  · exact ⟨by show (-1 : Int) < n; omega, by show (-1 : Int) < n; omega⟩
  · exact ⟨h a (by simp), by show (-1 : Int) < n; omega⟩
  · exact ⟨h a (by simp), h b (by simp)⟩
  · exact ⟨by show (-1 : Int) < n; omega, by show (-1 : Int) < n; omega⟩
theorem Good.snoc {items : List It} (hg : Good items) {x : It} (h1 : ∀ v ∈ childs x, 0 ≤ v ∧ v < items.length) (h2 : x.a < items.length ∧ x.b < items.length) (hx : x ∉ items) : Good (items ++ [x]) := by
  have key : ∀ (i : Nat) (y : It), (items ++ [x])[i]? = some y → items[i]? = some y ∨ (i = items.length ∧ y = x) := by
    intro i y h
    rw [List.getElem?_append] at h
    split at h
    · exact .inl h
    · have := (List.getElem?_eq_some_iff.1 h).1
      have hi : i = items.length := by simp at this; omega
      subst hi
      simp at h
      exact .inr ⟨rfl, h.symm⟩
  refine ⟨fun i y h => ?_, fun i y h => ?_, ?_⟩
  · rcases key i y h with h | ⟨rfl, rfl⟩
    · exact hg.below i y h
    · exact h1
  · rcases key i y h with h | ⟨rfl, rfl⟩
    · exact hg.lt i y h
    · exact h2
  · rw [List.nodup_append]
    exact ⟨hg.uniq, by simp, fun a ha b hb => by simp at hb; subst hb; exact fun h => hx (h ▸ ha)⟩
/-- One step of Keep: the item has a number, its text is the parts' and the token. -/
theorem keep_step {items : List It} (hg : Good items) {t : Tk} {l : List Int} (hl : l.length = takesT t.op) (hv : ∀ v ∈ l, 0 ≤ v ∧ v < items.length) (hok : (keepF items (mkIt t l)).2.1 = true) :
    Good (keepF items (mkIt t l)).2.2 ∧ items <+: (keepF items (mkIt t l)).2.2 ∧ ∃ i : Nat, (keepF items (mkIt t l)).1 = i ∧ (keepF items (mkIt t l)).2.2[i]? = some (mkIt t l) := by
  refine ⟨?_, keepF_pre _ _, ?_⟩
  · unfold keepF
    split
    · exact hg
    · rename_i hx
      split
      · exact hg
      · exact hg.snoc (by rw [(mkIt_childs hl).1]; exact hv) (mkIt_lt fun v h => (hv v h).2) hx
  · unfold keepF at hok ⊢
    split
    · rename_i hx
      exact ⟨_, rfl, mem_get hx⟩
    · rename_i hx
      rw [if_neg hx] at hok
      split
      · rename_i h; rw [if_pos h] at hok; cases hok
      · exact ⟨_, rfl, by simp⟩
theorem keep_text : ∀ (ts : List Tk) (stk : List Int) (items : List It), Good items → (∀ v ∈ stk, 0 ≤ v ∧ v < items.length) → Fits ts stk.length → (itemsGo keepF ts stk items).2.1 = true →
    Good (itemsGo keepF ts stk items).2.2 ∧ items <+: (itemsGo keepF ts stk items).2.2 ∧ 0 ≤ (itemsGo keepF ts stk items).1 ∧ (itemsGo keepF ts stk items).1 < (itemsGo keepF ts stk items).2.2.length ∧
    textOf (itemsGo keepF ts stk items).2.2 (itemsGo keepF ts stk items).1 = stk.flatMap (textOf items) ++ ts
  | [], stk, items, hg, hv, hf, _ => by
    have hf : stk.length = 1 := hf
    rcases stk with _ | ⟨v, _ | ⟨w, r⟩⟩
    · simp at hf
    · have := hv v (by simp)
      exact ⟨hg, List.prefix_refl _, this.1, this.2, by simp [itemsGo]⟩
    · simp at hf
  | t :: r, stk, items, hg, hv, hf, hok => by
    obtain ⟨hf1, hf2⟩ := hf
    simp only [itemsGo] at hok ⊢
    obtain ⟨n, hn⟩ : ∃ n, n = stk.length - takesT t.op := ⟨_, rfl⟩
    rw [← hn] at hok hf2 ⊢
    by_cases h1 : (keepF items (mkIt t (stk.drop n))).2.1 = true
    · rw [if_pos h1] at hok ⊢
      have hl : (stk.drop n).length = takesT t.op := by simp; omega
      have hv' : ∀ v ∈ stk.drop n, 0 ≤ v ∧ v < items.length := fun v h => hv v (List.mem_of_mem_drop h)
      obtain ⟨g1, p1, i, hi, hx⟩ := keep_step hg hl hv' h1
      obtain ⟨q, hq⟩ : ∃ q, q = keepF items (mkIt t (stk.drop n)) := ⟨_, rfl⟩
      rw [← hq] at hok g1 p1 hi hx ⊢
      have hil := (List.getElem?_eq_some_iff.1 hx).1
      have hlen : (stk.take n ++ [q.1]).length = n + 1 := by simp; omega
      have ih := keep_text r (stk.take n ++ [q.1]) q.2.2 g1 (fun v hv2 => by
        rcases List.mem_append.1 hv2 with h | h
        · have := hv v (List.mem_of_mem_take h)
          have := p1.length_le
          omega
        · simp at h; subst h; rw [hi]; omega) (by rw [hlen]; exact hf2) hok
      refine ⟨ih.1, p1.trans ih.2.1, ih.2.2.1, ih.2.2.2.1, ih.2.2.2.2.trans ?_⟩
      have htx : textOf q.2.2 q.1 = (stk.drop n).flatMap (textOf items) ++ [t] := by
        rw [hi, text_step g1 hx, (mkIt_childs hl).1, (mkIt_childs hl).2.1, (mkIt_childs hl).2.2]
        congr 1
        exact flatMap_congr' fun w hw => text_pre hg p1 _ w (by have := hv' w hw; omega)
      have htk : (stk.take n).flatMap (textOf q.2.2) = (stk.take n).flatMap (textOf items) := flatMap_congr' fun w hw => text_pre hg p1 _ w (by have := hv w (List.mem_of_mem_take hw); omega)
      rw [List.flatMap_append, htk]
      simp only [List.flatMap_cons, List.flatMap_nil, List.append_nil, htx]
      conv => rhs; rw [← List.take_append_drop n stk, List.flatMap_append]
      simp
    · rw [if_neg h1] at hok; cases hok
theorem idx_of {items : List It} (hn : items.Nodup) {x : It} {i : Nat} (h : items[i]? = some x) : items.idxOf x = i := by
  have hm := mem_get (List.mem_of_getElem? h)
  exact (List.getElem?_inj (List.getElem?_eq_some_iff.1 hm).1 hn).1 (hm.trans h.symm)
/-- What was kept once is found again, and adds nothing. -/
theorem keep_again : ∀ (ts : List Tk) (stk : List Int) (items : List It), (itemsGo keepF ts stk items).2.1 = true → ∀ its : List It, (itemsGo keepF ts stk items).2.2 <+: its → its.Nodup →
    itemsGo keepF ts stk its = ((itemsGo keepF ts stk items).1, true, its) ∧ itemsGo findF ts stk its = ((itemsGo keepF ts stk items).1, true, its)
  | [], stk, items, _, its, _, _ => ⟨rfl, rfl⟩
  | t :: r, stk, items, hok, its, hp, hnd => by
    simp only [itemsGo] at hok hp ⊢
    obtain ⟨x, hx⟩ : ∃ x, x = mkIt t (stk.drop (stk.length - takesT t.op)) := ⟨_, rfl⟩
    rw [← hx] at hok hp ⊢
    by_cases h1 : (keepF items x).2.1 = true
    · rw [if_pos h1] at hok hp ⊢
      have hpx : ∃ i : Nat, (keepF items x).1 = i ∧ (keepF items x).2.2[i]? = some x := by
        unfold keepF at h1 ⊢
        split
        · rename_i hm; exact ⟨_, rfl, mem_get hm⟩
        · rename_i hm
          rw [if_neg hm] at h1
          split
          · rename_i h; rw [if_pos h] at h1; cases h1
          · exact ⟨_, rfl, by simp⟩
      obtain ⟨i, hi, hxi⟩ := hpx
      have hpre := (itemsGo_pre r (stk.take (stk.length - takesT t.op) ++ [(keepF items x).1]) (keepF items x).2.2).trans hp
      have hits : its[i]? = some x := by
        obtain ⟨s, rfl⟩ := hpre
        rw [List.getElem?_append_left (List.getElem?_eq_some_iff.1 hxi).1]; exact hxi
      have hmem := List.mem_of_getElem? hits
      have hidx := idx_of hnd hits
      have hk : keepF its x = ((i : Int), true, its) := by unfold keepF; rw [if_pos hmem, hidx]
      have hf : findF its x = ((i : Int), true, its) := by unfold findF; rw [if_pos hmem, hidx]
      rw [hk, hf, hi]
      rw [hi] at hok hp
      have ih := keep_again r _ _ hok its hp hnd
      simp only [if_true]
      exact ih
    · rw [if_neg h1] at hok; cases hok
end Go.AX.Try
