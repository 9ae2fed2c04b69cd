/- Contracts: comparisons, sizes, bits. -/
import Derived.Test.YtkngijdjkcdcjaaDoorLNames
namespace Go.AX.Tryd
open Go Go.AX Go.AX.Lw Go.Proofs
set_option linter.unusedVariables false
set_option maxRecDepth 100000

theorem get_of {α : Type} {l : List α} {k : Nat} (h : k < l.length) : ∃ x, l[k]? = some x := ⟨l[k], by simp⟩
theorem list_eq_of {α : Type} {l m : List α} (hl : l.length = m.length) (h : ∀ (j : Nat) x, j < l.length → l[j]? = some x → m[j]? = some x) : l = m := by
  apply List.ext_getElem? 
  intro i
  by_cases hi : i < l.length
  · obtain ⟨x, hx⟩ := get_of hi
    rw [hx, h i x hi hx]
  · rw [List.getElem?_eq_none (by omega), List.getElem?_eq_none (by omega)]

/-- Letters as cells. -/
abbrev lets (l : List Int) : List Value := l.map (.int .u8)
theorem sameLetters_any (H : AHeap) (a a' : Option Addr) (n c n' c' : Nat) (ss ts : List Int) (hr : Row H a n c (lets ss)) (hr' : Row H a' n' c' (lets ts)) (hn : n ≤ 2 ^ 60) (hn' : n' ≤ 2 ^ 60) :
    Does Tryd.prog orc 27 [.slice a n c, .slice a' n' c'] H fun r H' => ∃ b, r = .ret (.bool b) ∧ (b = true ↔ ss = ts) ∧ H = H' := by
  have hlen := hr.len; simp at hlen
  have hcap := hr.cap
  have hlen' := hr'.len; simp at hlen'
  have hcap' := hr'.cap
  refine Does.of Tryd.func27 (fun _ _ => rfl) rfl ?_
  repeat' ((conv => whnf); first
    | (refine Both.intro ?_ ?_ <;> intro _ <;> try (exfalso; omega))
    | (refine Need.intro (by omega) ?_)
    | fail)
  all_goals (conv => whnf)
  · exact ⟨_, rfl, iff_of_false (by simp) (fun e => by subst e; omega), rfl⟩
  have hnn : n = n' := by omega
  subst hnn
  refine Runs.loop (fun k : Nat => [(5, .int .i64 k), (0, .slice a n c), (1, .slice a' n c')]) (fun k H' => H = H' ∧ k ≤ n ∧ ∀ (j : Nat) x, j < k → ss[j]? = some x → ts[j]? = some x) (fun k => n - k) 0 ⟨rfl, rfl, rfl, trivial⟩ ⟨rfl, by omega, by omega⟩ ?_
  rintro k _ ⟨rfl, hk, hall⟩
  by_cases hlt : k < n
  · obtain ⟨x, hx⟩ := get_of (l := ss) (k := k) (by omega)
    obtain ⟨y, hy⟩ := get_of (l := ts) (k := k) (by omega)
    obtain ⟨b, o, st, rfl, hcell⟩ := hr.cell k (.int .u8 x) (by simp [lets, hx])
    obtain ⟨b', o', st', rfl, hcell'⟩ := hr'.cell k (.int .u8 y) (by simp [lets, hy])
    repeat' ((conv => whnf); first
      | (refine Both.intro ?_ ?_ <;> intro _ <;> try (exfalso; omega))
      | (refine Need.intro (by omega) ?_)
      | (refine ⟨_, hcell, ?_⟩)
      | (refine ⟨_, hcell', ?_⟩)
      | (refine Need.intro (DrawP.intro (by kernel_rfl)) ?_)
      | fail)
    all_goals (conv => whnf)
    · rename_i h
      exact ⟨_, rfl, iff_of_false (by simp) (fun e => h (by subst e; rw [hx] at hy; cases hy; rfl)), rfl⟩
    · rename_i h
      exact ⟨k + 1, ⟨rfl, rfl, rfl, trivial⟩, ⟨rfl, by omega, all_step (R := fun j x => ts[j]? = some x) hall hx (by rw [hy, Classical.not_not.1 h])⟩, by omega⟩
  · skip
    repeat' ((conv => whnf); first
      | (refine Both.intro ?_ ?_ <;> intro _ <;> try (exfalso; omega))
      | (refine Need.intro (by omega) ?_)
      | fail)
    all_goals (conv => whnf)
    exact ⟨_, rfl, iff_of_true rfl (list_eq_of (by omega) fun j x hj hx => hall j x (by omega) hx), rfl⟩

def sizes (ss : List ByteArray) : Nat := (ss.map (·.size)).sum
theorem sizes_take (ss : List ByteArray) (k : Nat) (s : ByteArray) (h : ss[k]? = some s) : sizes (ss.take (k + 1)) = sizes (ss.take k) + s.size := by
  unfold sizes
  rw [List.take_add_one, h]; simp
theorem sizes_le (ss : List ByteArray) (k : Nat) : sizes (ss.take k) ≤ sizes ss := by
  have : sizes ss = sizes (ss.take k) + sizes (ss.drop k) := by
    unfold sizes
    rw [← List.sum_append, ← List.map_append, List.take_append_drop]
  omega
end Go.AX.Tryd
