/- Contracts: names, places of names, small tests. -/
import Derived.Test.YtkngijdjkcdcjaaDoorProg
import Derived.Test.YtkngijdjkcdcjaaDoorLOrc
namespace Go.AX.Tryd
open Go Go.AX Go.AX.Lw Go.Proofs
set_option linter.unusedVariables false
set_option maxRecDepth 100000

def okC (i : Nat) (c : UInt8) : Prop := 97 ≤ (c.toNat : Int) ∧ (c.toNat : Int) ≤ 122 ∨ (i ≠ 0 ∧ 48 ≤ (c.toNat : Int) ∧ (c.toNat : Int) ≤ 57)
def words : List (List UInt8) := [[116, 114, 117, 101], [102, 97, 108, 115, 101], [108, 97, 115, 116]]
def nameP (l : List UInt8) : Prop := 1 ≤ l.length ∧ l.length ≤ 20 ∧ l ∉ words ∧ ∀ (i : Nat) c, l[i]? = some c → okC i c

theorem all_step {α : Type} {R : Nat → α → Prop} {l : List α} {k : Nat} {c : α} (hall : ∀ (j : Nat) c, j < k → l[j]? = some c → R j c) (hc : l[k]? = some c) (h : R k c) : ∀ (j : Nat) d, j < k + 1 → l[j]? = some d → R j d := by
  intro j d hj hd
  by_cases hjk : j < k
  · exact hall j d hjk hd
  · obtain rfl : j = k := by omega
    rw [hc] at hd; cases hd; exact h
theorem nameP_no {l : List UInt8} {k : Nat} {c : UInt8} (h : l[k]? = some c) (hn : ¬ okC k c) : ¬ nameP l := fun h' => hn (h'.2.2.2 k c h)
theorem nameP_short {l : List UInt8} (h : ¬ (1 ≤ l.length ∧ l.length ≤ 20)) : ¬ nameP l := fun h' => h ⟨h'.1, h'.2.1⟩
theorem nameP_word {l : List UInt8} (w : List UInt8) (h : l = w) (hw : w ∈ words) : ¬ nameP l := fun h' => h'.2.2.1 (h ▸ hw)
theorem words_no {l : List UInt8} (h1 : ¬ l = (⟨#[116, 114, 117, 101]⟩ : ByteArray).data.toList) (h2 : ¬ l = (⟨#[102, 97, 108, 115, 101]⟩ : ByteArray).data.toList) (h3 : ¬ l = (⟨#[108, 97, 115, 116]⟩ : ByteArray).data.toList) : l ∉ words := by
  intro h
  simp only [words, List.mem_cons, List.mem_nil_iff, or_false] at h
  rcases h with h | h | h
  · exact h1 h
  · exact h2 h
  · exact h3 h
/-- The place of a text among others; -1: it is none of them. -/
def place (ss : List ByteArray) (s : ByteArray) (i : Int) : Prop :=
  (i = -1 ∧ ∀ x ∈ ss, x ≠ s) ∨ ∃ k : Nat, i = k ∧ ss[k]? = some s ∧ ∀ (j : Nat) x, j < k → ss[j]? = some x → x ≠ s
theorem ba_eq {a b : ByteArray} : a.data.toList = b.data.toList ↔ a = b := by
  constructor
  · intro h; cases a; cases b; congr; exact Array.toList_inj.1 h
  · rintro rfl; rfl
end Go.AX.Tryd
