/- LetterNames answers true, over any memory. -/
import Derived.Test.YtgbclgkadlfejaaDoorLCheck
import Derived.Test.YtgbclgkadlfejaaDoorLApart
namespace Go.AX.Tryd
open Go Go.AX Go.AX.Lw Go.Proofs
set_option linter.unusedVariables false
set_option maxRecDepth 100000

/-- What All tells, as a list. -/
def allX (n : Int) : List Int := if 0 ≤ n ∧ n ≤ 8 then allL (2 ^ n.toNat) else []
theorem allX_len (n : Int) : (allX n).length ≤ 256 := by
  unfold allX
  split
  · rename_i h; rw [allL_len]; exact (two_pow_le (by omega)).1
  · simp
theorem allX_range (n : Int) : ∀ x ∈ allX n, 0 ≤ x ∧ x < 256 := by
  intro x hx
  unfold allX at hx
  split at hx
  · rename_i h
    simp only [allL, List.mem_map, List.mem_range] at hx
    obtain ⟨i, hi, rfl⟩ := hx
    have := (two_pow_le (n := n.toNat) (by omega)).1
    omega
  · cases hx
structure AllIs (n : Int) (H H' : AHeap) (v : Value) (o : Option Nat) : Prop where
  val : v = lv (o, allX n)
  nil : o = none → allX n = []
  get : ∀ A, o = some A → H.next ≤ A ∧ H'.get A = some (.cells (lets (allX n)) 0 true)
  ext : Ext H H'
theorem Alls.is {n : Int} {H H' : AHeap} {v : Value} (h : Alls n H H' v) : ∃ o, AllIs n H H' v o := by
  cases h with
  | none h hh =>
    have : allX n = [] := by unfold allX; rw [if_neg h]
    exact ⟨Option.none, by rw [this]; rfl, fun _ => this, (fun A hA => by cases hA), by subst hh; exact Ext.refl _⟩
  | some m h hm b hb he hg =>
    subst h
    have : allX m = allL (2 ^ m) := by unfold allX; rw [if_pos (by omega), Int.toNat_natCast]
    exact ⟨Option.some b, by rw [this]; unfold lv; simp [allL_len], (fun h => by cases h), fun A hA => by cases hA; exact ⟨hb, by rw [this]; exact hg⟩, he⟩
theorem AllIs.row {n : Int} {H H' : AHeap} {v : Value} {o : Option Nat} (h : AllIs n H H' v o) : Row H' (o.map fun A => ⟨A, 0, none⟩) (allX n).length (allX n).length (lets (allX n)) := by
  cases o with
  | none => rw [h.nil rfl]; exact ⟨rfl, Nat.le_refl _, fun i x hx => by simp at hx⟩
  | some A => exact Row.of_block (h.get A rfl).2 (by simp) (Nat.le_refl _) (List.prefix_refl _)
end Go.AX.Tryd
