/- Texts cut at a byte, and joined. -/
import Derived.Lib.Join
import Derived.Lib.Bytealg
import Derived.Lib.IndexLaws
namespace Go.AX.Lw
open Go Go.Lib
set_option linter.unusedVariables false

def splitL (c : UInt8) : List UInt8 → List (List UInt8)
  | [] => [[]]
  | b :: l => if b = c then [] :: splitL c l else match splitL c l with
    | x :: r => (b :: x) :: r
    | [] => [[b]]
theorem splitL_ne (c : UInt8) : ∀ l, splitL c l ≠ []
  | [] => by simp [splitL]
  | b :: l => by
    unfold splitL
    split
    · simp
    · split <;> simp
theorem splitL_no {c : UInt8} : ∀ {l : List UInt8}, c ∉ l → splitL c l = [l]
  | [], _ => rfl
  | b :: l, h => by
    have hb : ¬ b = c := fun e => h (by simp [e])
    unfold splitL
    rw [if_neg hb, splitL_no (fun e => h (by simp [e]))]
theorem splitL_app {c : UInt8} : ∀ {x : List UInt8} (l : List UInt8), c ∉ x → splitL c (x ++ c :: l) = x :: splitL c l
  | [], l, _ => by simp [splitL]
  | b :: x, l, h => by
    have hb : ¬ b = c := fun e => h (by simp [e])
    rw [List.cons_append]
    conv => lhs; unfold splitL
    rw [if_neg hb, splitL_app l (fun e => h (by simp [e]))]
/-- Where the first one stands. -/
theorem split_at {c : UInt8} {l : List UInt8} {m : Nat} (h : indexByte l c = m) : m < l.length ∧ c ∉ l.take m ∧ l = l.take m ++ c :: l.drop (m + 1) := by
  obtain ⟨h1, h2⟩ := indexByte_some h
  have hm : m < l.length := (List.getElem?_eq_some_iff.1 h1).1
  refine ⟨hm, fun hc => ?_, ?_⟩
  · obtain ⟨k, hk⟩ := List.getElem?_of_mem hc
    rw [List.getElem?_take] at hk
    split at hk
    · exact h2 k (by assumption) hk
    · cases hk
  · have : l.drop m = c :: l.drop (m + 1) := by
      rw [List.drop_eq_getElem_cons hm]; congr 1; exact (List.getElem?_eq_some_iff.1 h1).2
    rw [← this, List.take_append_drop]
theorem index_of_count {c : UInt8} {l : List UInt8} (h : 0 < countByte l c) : ∃ m : Nat, indexByte l c = m := by
  have h1 := indexByte_ge l c
  by_cases h2 : indexByte l c = -1
  · have := indexByte_none h2
    have hc : c ∈ l := List.count_pos_iff.1 h
    obtain ⟨k, hk⟩ := List.getElem?_of_mem hc
    exact absurd hk (this k)
  · exact ⟨(indexByte l c).toNat, by omega⟩
theorem count_cut {c : UInt8} {l : List UInt8} {m : Nat} (h : indexByte l c = m) : countByte l c = countByte (l.drop (m + 1)) c + 1 := by
  obtain ⟨-, h2, h3⟩ := split_at h
  unfold countByte
  conv => lhs; rw [h3]
  rw [List.count_append, List.count_cons_self, List.count_eq_zero_of_not_mem h2]
  omega
theorem split_cut {c : UInt8} {l : List UInt8} {m : Nat} (h : indexByte l c = m) : splitL c l = l.take m :: splitL c (l.drop (m + 1)) := by
  obtain ⟨-, h2, h3⟩ := split_at h
  conv => lhs; rw [h3]
  rw [splitL_app _ h2]
theorem split_zero {c : UInt8} {l : List UInt8} (h : countByte l c = 0) : splitL c l = [l] := splitL_no (List.count_eq_zero.1 h)
theorem split_len (c : UInt8) : ∀ l, (splitL c l).length = countByte l c + 1
  | [] => rfl
  | b :: l => by
    have ih := split_len c l
    unfold splitL countByte
    split
    · rename_i h; subst h; simp [ih, countByte]
    · rename_i h
      rw [List.count_cons_of_ne (by simpa using h)]
      cases hs : splitL c l with
      | nil => exact absurd hs (splitL_ne c l)
      | cons x r => rw [hs] at ih; simpa [countByte] using ih
theorem join_split (c : UInt8) : ∀ l, join (splitL c l) [c] = l
  | [] => join_one _ _
  | b :: l => by
    have ih := join_split c l
    unfold splitL
    split
    · rename_i h; subst h
      rw [join_cons]
      cases hs : splitL b l with
      | nil => exact absurd hs (splitL_ne b l)
      | cons x r =>
        rw [hs, join_cons] at ih
        simp only [joinTail, List.map_cons, List.flatten_cons, List.nil_append, List.cons_append] at ih ⊢
        rw [ih]
    · cases hs : splitL c l with
      | nil => exact absurd hs (splitL_ne c l)
      | cons x r =>
        rw [hs, join_cons] at ih
        simp only [join_cons, List.cons_append, ih]
theorem split_join {c : UInt8} : ∀ {xs : List (List UInt8)}, xs ≠ [] → (∀ x ∈ xs, c ∉ x) → splitL c (join xs [c]) = xs
  | [], h, _ => absurd rfl h
  | [x], _, h => by rw [join_one]; exact splitL_no (h x (by simp))
  | x :: y :: r, _, h => by
    have ih := split_join (c := c) (xs := y :: r) (by simp) (fun z hz => h z (by simp [hz]))
    have e : join (x :: y :: r) [c] = x ++ c :: join (y :: r) [c] := by
      rw [join_cons, join_cons]; simp [joinTail]
    rw [e, splitL_app _ (h x (by simp)), ih]
theorem join_empty {c : UInt8} {xs : List (List UInt8)} (h : ∀ x ∈ xs, x ≠ []) : join xs [c] = [] ↔ xs = [] := by
  constructor
  · intro e
    cases xs with
    | nil => rfl
    | cons x r =>
      rw [join_cons] at e
      exact absurd (List.append_eq_nil_iff.1 e).1 (h x (by simp))
  · rintro rfl; rfl
end Go.AX.Lw
