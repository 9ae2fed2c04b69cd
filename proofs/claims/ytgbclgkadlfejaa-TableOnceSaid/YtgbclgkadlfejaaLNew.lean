/- table.New; formulas as arguments. -/
import Derived.Test.YtgbclgkadlfejaaLLong
namespace Go.AX.Try
open Go Go.AX Go.AX.Lw Go.Proofs
set_option linter.unusedVariables false
set_option maxRecDepth 100000
theorem new_any (H : AHeap) (hw : Wf H) : Does Try.prog orc 24 [] H fun r H' => r = .ret (.pointer (some ⟨H.next + 1, 0, none⟩)) ∧ Tab H H' (H.next + 1) H.next [] ∧ Wf H' ∧ Ext H H' ∧ ∀ b, ¬ TabB H' (H.next + 1) b := by
  refine (Does.wf (Q := fun r H' => r = .ret (.pointer (some ⟨H.next + 1, 0, none⟩)) ∧ Tab H H' (H.next + 1) H.next [] ∧ Ext H H' ∧ ∀ b, ¬ TabB H' (H.next + 1) b) ?_ hw).mono fun r H' ⟨⟨h1, h2, h3, h4⟩, h5⟩ => ⟨h1, h2, h5, h3, h4⟩
  refine Does.of Try.func24 (fun _ _ => rfl) rfl ?_
  have hbd : aBuild Try.prog 76 [(1, .map (some H.next))] = some (.agg #[.slice none 0 0, .map (some H.next)]) := by kernel_rfl
  have e1 := Ext.push H (.map [])
  have e2 := e1.trans (Ext.push (H.push (.map [])) (.cells [.slice none 0 0, .map (some H.next)] 0 true))
  have gT : ((H.push (.map [])).push (.cells [.slice none 0 0, .map (some H.next)] 0 true)).get (H.next + 1) = some (.cells [.slice none 0 0, .map (some H.next)] 0 true) := get_new (H.push (.map [])) _
  have gM : ((H.push (.map [])).push (.cells [.slice none 0 0, .map (some H.next)] 0 true)).get H.next = some (.map []) := by rw [AHeap.get_push, if_neg (by simp), get_new]
  repeat' ((conv => whnf); first
    | (refine Both.intro ?_ ?_ <;> intro _ <;> try (exfalso; omega))
    | (refine Need.intro (by omega) ?_)
    | (refine Gives.intro ⟨_, hbd, ?_⟩)
    | fail)
  all_goals (conv => whnf)
  refine ⟨rfl, ⟨⟨none, 0, gT, Stk.nil _ _ _ _, by simp, by simp⟩, ⟨[], gM, by simp, fun x v => by simp⟩, by omega, ⟨by omega, Nat.le_refl _⟩, e2⟩, e2, ?_⟩
  intro b hb
  obtain ⟨o, s, h⟩ := tabB_fn gT hb
  cases h
/-- A list of formulas, each a slice of tokens. -/
structure Forms (H : AHeap) (a : Option Addr) (n c : Nat) (ls : List (List Tk)) : Prop where
  row : ∃ vs : List Value, Row H a n c vs ∧ vs.length = ls.length ∧ ∀ (j : Nat) v, vs[j]? = some v → ∃ aj nj cj ts, v = .slice aj nj cj ∧ ls[j]? = some ts ∧ RowS H aj nj cj 2 (ts.map Tk.cells) ∧ nj ≤ 2 ^ 63 - 1
theorem Forms.at {H : AHeap} {a : Option Addr} {n c : Nat} {ls : List (List Tk)} (h : Forms H a n c ls) {j : Nat} (hj : j < n) :
    ∃ b o st aj nj cj ts, a = some ⟨b, o, st⟩ ∧ cellAt H b (o + j) = some (.slice aj nj cj) ∧ ls[j]? = some ts ∧ RowS H aj nj cj 2 (ts.map Tk.cells) ∧ nj ≤ 2 ^ 63 - 1 := by
  obtain ⟨vs, hr, hl, hv⟩ := h.row
  obtain ⟨v, hx⟩ := get_of (l := vs) (k := j) (by have := hr.len; omega)
  obtain ⟨b, o, st, ha, hc⟩ := hr.cell j v hx
  obtain ⟨aj, nj, cj, ts, rfl, h1, h2, h3⟩ := hv j v hx
  exact ⟨b, o, st, aj, nj, cj, ts, ha, hc, h1, h2, h3⟩
theorem Forms.len {H : AHeap} {a : Option Addr} {n c : Nat} {ls : List (List Tk)} (h : Forms H a n c ls) : n = ls.length ∧ n ≤ c := by
  obtain ⟨vs, hr, hl, hv⟩ := h.row
  exact ⟨by rw [hr.len, hl], hr.cap⟩
theorem toksTy : AppTyS Try.prog #[39, 39] 44 1 24 where
  t0 := by kernel_rfl
  t1 := by kernel_rfl
  size := by kernel_rfl
  bytes := by kernel_rfl
  pos := by decide
  szp := by decide
  szl := by decide
  zero := ⟨.slice none 0 0, by kernel_rfl, rfl⟩
end Go.AX.Try
