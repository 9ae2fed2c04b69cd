/- The tries: what is set is read, and nothing else changes. -/
import Derived.Test.YtjnegbcdeggpfaaDoorAxDef
namespace Go.AX
open Go
set_option linter.unusedVariables false
set_option linter.unusedSimpArgs false

noncomputable def U {β : Type} (m : Nat) (t : N16 β) (g : β → β) : N16 β := (dg (r := N16 β) m).upd t (fun x c => c (g x)) fun t => t

theorem below16 {n : Nat} (h : n < 16) : n = 0 ∨ n = 1 ∨ n = 2 ∨ n = 3 ∨ n = 4 ∨ n = 5 ∨ n = 6 ∨ n = 7 ∨ n = 8 ∨ n = 9 ∨ n = 10 ∨ n = 11 ∨ n = 12 ∨ n = 13 ∨ n = 14 ∨ n = 15 := by omega

theorem sel_same {β r r' : Type} {n : Nat} (h : n < 16) (t : N16 β) : (dg (r := r) n).sel t = (dg (r := r') n).sel t := by
  rcases below16 h with rfl | rfl | rfl | rfl | rfl | rfl | rfl | rfl | rfl | rfl | rfl | rfl | rfl | rfl | rfl | rfl <;> rfl

theorem upd_eq {β r : Type} {m : Nat} (h : m < 16) (t : N16 β) (f : β → (β → r) → r) (g : β → β) (c : N16 β → r) (hf : ∀ x c, f x c = c (g x)) : (dg m).upd t f c = c (U m t g) := by
  cases t
  rcases below16 h with rfl | rfl | rfl | rfl | rfl | rfl | rfl | rfl | rfl | rfl | rfl | rfl | rfl | rfl | rfl | rfl <;> exact hf _ _

theorem sel_U {β r : Type} {n m : Nat} (hn : n < 16) (hm : m < 16) (t : N16 β) (g : β → β) : (dg (r := r) n).sel (U m t g) = if n = m then g ((dg (r := r) n).sel t) else (dg (r := r) n).sel t := by
  cases t
  rcases below16 hn with rfl | rfl | rfl | rfl | rfl | rfl | rfl | rfl | rfl | rfl | rfl | rfl | rfl | rfl | rfl | rfl <;>
  rcases below16 hm with rfl | rfl | rfl | rfl | rfl | rfl | rfl | rfl | rfl | rfl | rfl | rfl | rfl | rfl | rfl | rfl <;> rfl

theorem sel_all {β r : Type} {n : Nat} (h : n < 16) (x : β) : (dg (r := r) n).sel (allN x) = x := by
  rcases below16 h with rfl | rfl | rfl | rfl | rfl | rfl | rfl | rfl | rfl | rfl | rfl | rfl | rfl | rfl | rfl | rfl <;> rfl

theorem slot_lo {α r : Type} {n : Nat} (h : n < 256) : slot (α := α) (r := r) n = loSlot (dg (Nat.div n 16)) (dg (Nat.mod n 16)) := by
  unfold slot; rw [show Nat.blt n 256 = true by simpa [Nat.blt_eq] using h]; rfl
theorem slot_hi {α r : Type} {n : Nat} (h : ¬ n < 256) (h' : n < 65536) : slot (α := α) (r := r) n = hiSlot (dg (Nat.div n 4096)) (dg (Nat.mod (Nat.div n 256) 16)) (dg (Nat.mod (Nat.div n 16) 16)) (dg (Nat.mod n 16)) := by
  unfold slot; rw [show Nat.blt n 256 = false from Bool.eq_false_iff.2 (by simpa [Nat.blt_eq] using h), show Nat.blt n 65536 = true by simpa [Nat.blt_eq] using h']; rfl
theorem slot_over {α r : Type} {n : Nat} (h' : ¬ n < 65536) : slot (α := α) (r := r) n = overSlot n := by
  unfold slot; rw [show Nat.blt n 256 = false from Bool.eq_false_iff.2 (by simp [Nat.blt_eq]; omega), show Nat.blt n 65536 = false from Bool.eq_false_iff.2 (by simpa [Nat.blt_eq] using h')]; rfl

theorem d16 (n : Nat) : Nat.mod n 16 < 16 := Nat.mod_lt _ (by omega)
theorem q16 {n : Nat} (h : n < 256) : Nat.div n 16 < 16 := by show n / 16 < 16; omega
theorem q4096 {n : Nat} (h : n < 65536) : Nat.div n 4096 < 16 := by show n / 4096 < 16; omega

theorem set_lo {α r : Type} {n : Nat} (h : n < 256) (t : Tr α) (x : α) (c : Tr α → r) :
    (slot n).set t x c = c ⟨U (Nat.div n 16) t.lo fun l => U (Nat.mod n 16) l fun _ => some x, t.hi, t.over⟩ := by
  rw [slot_lo h]; cases t
  exact upd_eq (q16 h) _ _ (fun l => U (Nat.mod n 16) l fun _ => some x) _ fun l c => upd_eq (d16 n) _ _ (fun _ => some x) _ fun _ _ => rfl
theorem set_hi {α r : Type} {n : Nat} (h : ¬ n < 256) (h' : n < 65536) (t : Tr α) (x : α) (c : Tr α → r) :
    (slot n).set t x c = c ⟨t.lo, U (Nat.div n 4096) t.hi fun l => U (Nat.mod (Nat.div n 256) 16) l fun l => U (Nat.mod (Nat.div n 16) 16) l fun l => U (Nat.mod n 16) l fun _ => some x, t.over⟩ := by
  rw [slot_hi h h']; cases t
  exact upd_eq (q4096 h') _ _ _ _ fun l c => upd_eq (d16 _) _ _ _ _ fun l c => upd_eq (d16 _) _ _ _ _ fun l c => upd_eq (d16 n) _ _ (fun _ => some x) _ fun _ _ => rfl
theorem set_over {α r : Type} {n : Nat} (h' : ¬ n < 65536) (t : Tr α) (x : α) (c : Tr α → r) : (slot n).set t x c = c ⟨t.lo, t.hi, (n, x) :: t.over⟩ := by
  rw [slot_over h']; cases t; rfl

/-- Setting and going on is going on with what is set. -/
theorem slot_set {α r : Type} (n : Nat) (t : Tr α) (x : α) (c : Tr α → r) : (slot n).set t x c = c (t.set n x) := by
  unfold Tr.set
  by_cases h : n < 256
  · rw [set_lo h, set_lo h]
  · by_cases h' : n < 65536
    · rw [set_hi h h', set_hi h h']
    · rw [set_over h', set_over h']

theorem slot_get {α r : Type} (n : Nat) (t : Tr α) : (slot (r := r) n).get t = t.get n := by
  unfold Tr.get
  by_cases h : n < 256
  · rw [slot_lo h, slot_lo h]
    show (dg _).sel ((dg _).sel _) = (dg _).sel ((dg _).sel _)
    rw [sel_same (r' := Unit) (d16 n), sel_same (r' := Unit) (q16 h)]
  · by_cases h' : n < 65536
    · rw [slot_hi h h', slot_hi h h']
      show (dg _).sel ((dg _).sel ((dg _).sel ((dg _).sel _))) = (dg _).sel ((dg _).sel ((dg _).sel ((dg _).sel _)))
      rw [sel_same (r := r) (r' := Unit) (d16 n), sel_same (r := r) (r' := Unit) (d16 (Nat.div n 16)), sel_same (r := r) (r' := Unit) (d16 (Nat.div n 256)), sel_same (r := r) (r' := Unit) (q4096 h')]
    · rw [slot_over h', slot_over h']; rfl

theorem get_lo {α : Type} {n : Nat} (h : n < 256) (t : Tr α) : t.get n = (dg (r := Unit) (Nat.mod n 16)).sel ((dg (r := Unit) (Nat.div n 16)).sel t.lo) := by unfold Tr.get; rw [slot_lo h]; rfl
theorem get_hi {α : Type} {n : Nat} (h : ¬ n < 256) (h' : n < 65536) (t : Tr α) : t.get n = (dg (r := Unit) (Nat.mod n 16)).sel ((dg (r := Unit) (Nat.mod (Nat.div n 16) 16)).sel ((dg (r := Unit) (Nat.mod (Nat.div n 256) 16)).sel ((dg (r := Unit) (Nat.div n 4096)).sel t.hi))) := by
  unfold Tr.get; rw [slot_hi h h']; rfl
theorem get_over {α : Type} {n : Nat} (h' : ¬ n < 65536) (t : Tr α) : t.get n = overGet n t.over := by unfold Tr.get; rw [slot_over h']; rfl

theorem Tr.get_set {α : Type} (t : Tr α) (n : Nat) (x : α) (m : Nat) : (t.set n x).get m = if m = n then some x else t.get m := by
  have hs : t.set n x = (slot n).set t x fun t => t := rfl
  rw [hs]
  by_cases hn : n < 256
  · rw [set_lo hn]
    by_cases hm : m < 256
    · rw [get_lo hm, get_lo hm, sel_U (q16 hm) (q16 hn)]
      by_cases h1 : Nat.div m 16 = Nat.div n 16
      · rw [if_pos h1, sel_U (d16 m) (d16 n)]
        by_cases h2 : Nat.mod m 16 = Nat.mod n 16
        · rw [if_pos h2, if_pos]
          have h1' : m / 16 = n / 16 := h1
          have h2' : m % 16 = n % 16 := h2
          omega
        · rw [if_neg h2, if_neg]; rintro rfl; exact h2 rfl
      · rw [if_neg h1, if_neg]; rintro rfl; exact h1 rfl
    · rw [if_neg (by omega)]
      by_cases hm' : m < 65536
      · rw [get_hi hm hm', get_hi hm hm']
      · rw [get_over hm', get_over hm']
  · by_cases hn' : n < 65536
    · rw [set_hi hn hn']
      by_cases hm : m < 256
      · rw [if_neg (by omega), get_lo hm, get_lo hm]
      · by_cases hm' : m < 65536
        · rw [get_hi hm hm', get_hi hm hm', sel_U (q4096 hm') (q4096 hn')]
          by_cases h1 : Nat.div m 4096 = Nat.div n 4096
          · rw [if_pos h1, sel_U (d16 _) (d16 _)]
            by_cases h2 : Nat.mod (Nat.div m 256) 16 = Nat.mod (Nat.div n 256) 16
            · rw [if_pos h2, sel_U (d16 _) (d16 _)]
              by_cases h3 : Nat.mod (Nat.div m 16) 16 = Nat.mod (Nat.div n 16) 16
              · rw [if_pos h3, sel_U (d16 _) (d16 _)]
                by_cases h4 : Nat.mod m 16 = Nat.mod n 16
                · rw [if_pos h4, if_pos]
                  have h1' : m / 4096 = n / 4096 := h1
                  have h2' : m / 256 % 16 = n / 256 % 16 := h2
                  have h3' : m / 16 % 16 = n / 16 % 16 := h3
                  have h4' : m % 16 = n % 16 := h4
                  omega
                · rw [if_neg h4, if_neg]; rintro rfl; exact h4 rfl
              · rw [if_neg h3, if_neg]; rintro rfl; exact h3 rfl
            · rw [if_neg h2, if_neg]; rintro rfl; exact h2 rfl
          · rw [if_neg h1, if_neg]; rintro rfl; exact h1 rfl
        · rw [if_neg (by omega), get_over hm', get_over hm']
    · rw [set_over hn']
      by_cases hm : m < 256
      · rw [if_neg (by omega), get_lo hm, get_lo hm]
      · by_cases hm' : m < 65536
        · rw [if_neg (by omega), get_hi hm hm', get_hi hm hm']
        · rw [get_over hm', get_over hm']
          show (bif Nat.beq m n then some x else overGet m t.over) = _
          by_cases e : m = n
          · subst e; simp
          · rw [show Nat.beq m n = false from by rw [← Bool.not_eq_true]; exact fun h => e (Nat.eq_of_beq_eq_true h), if_neg e]; rfl

theorem Tr.get_nil {α : Type} (n : Nat) : (Tr.nil : Tr α).get n = none := by
  by_cases h : n < 256
  · rw [get_lo h]; show (dg _).sel ((dg _).sel (allN (allN none))) = _; rw [sel_all (q16 h), sel_all (d16 n)]
  · by_cases h' : n < 65536
    · rw [get_hi h h']; show (dg _).sel ((dg _).sel ((dg _).sel ((dg _).sel (allN (allN (allN (allN none))))))) = _
      rw [sel_all (q4096 h'), sel_all (d16 _), sel_all (d16 _), sel_all (d16 n)]
    · rw [get_over h']; rfl
end Go.AX
