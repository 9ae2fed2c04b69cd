/- Contracts: comparisons, sizes, bits. -/
import Derived.Test.YtffnjihgboeonaaLNames
namespace Go.AX.Try
open Go Go.AX Go.AX.Lw Go.Proofs
set_option linter.unusedVariables false
set_option maxRecDepth 100000

theorem get_of {α : Type} {l : List α} {k : Nat} (h : k < l.length) : ∃ x, l[k]? = some x := ⟨l[k], by simp⟩
theorem list_eq_of {α : Type} {l m : List α} (hl : l.length = m.length) (h : ∀ (j : Nat) x, j < l.length → l[j]? = some x → m[j]? = some x) : l = m := by
  apply List.ext_getElem? 
  intro i
  by_cases hi : i < l.length
  · obtain ⟨x, hx⟩ := get_of hi
    rw [hx, h i x hi hx]
  · rw [List.getElem?_eq_none (by omega), List.getElem?_eq_none (by omega)]

/-- Letters as cells. -/
abbrev lets (l : List Int) : List Value := l.map (.int .u8)
def sizes (ss : List ByteArray) : Nat := (ss.map (·.size)).sum
theorem sizes_take (ss : List ByteArray) (k : Nat) (s : ByteArray) (h : ss[k]? = some s) : sizes (ss.take (k + 1)) = sizes (ss.take k) + s.size := by
  unfold sizes
  rw [List.take_add_one, h]; simp
theorem sizes_le (ss : List ByteArray) (k : Nat) : sizes (ss.take k) ≤ sizes ss := by
  have : sizes ss = sizes (ss.take k) + sizes (ss.drop k) := by
    unfold sizes
    rw [← List.sum_append, ← List.map_append, List.take_append_drop]
  omega
end Go.AX.Try
