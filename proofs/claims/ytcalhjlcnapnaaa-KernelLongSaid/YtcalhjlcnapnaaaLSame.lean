/- SameToks; table: keys, takes. -/
import Derived.Test.YtcalhjlcnapnaaaLKern
namespace Go.AX.Try
open Go Go.AX Go.AX.Lw Go.Proofs
set_option linter.unusedVariables false
set_option maxRecDepth 100000
theorem RowS.at {H : AHeap} {a : Option Addr} {n c sz : Nat} {xs : List (List Value)} (h : RowS H a n c sz xs) {i : Nat} (hi : i < n) : ∃ b o st, a = some ⟨b, o, st⟩ := by
  obtain ⟨x, hx⟩ := get_of (l := xs) (k := i) (by have := h.len; omega)
  obtain ⟨b, o, st, ha, _⟩ := h.cell i x hx
  exact ⟨b, o, st, ha⟩
def Tk.val (t : Tk) : Value := .agg #[.int .u8 t.op, .int .u8 t.p]
deriving instance DecidableEq for Tk
theorem tok_eqA (a b c d : Int) : aEqIn Try.prog 50 46 (.agg #[.int .u8 a, .int .u8 b]) (.agg #[.int .u8 c, .int .u8 d]) = (match some (a == c) with | some true => (match some (b == d) with | some true => some true | x => x) | x => x) := by kernel_rfl
theorem tok_eq (x y : Tk) : aEqIn Try.prog 50 46 (.agg x.cells.toArray) (.agg y.cells.toArray) = some (decide (x = y)) := by
  obtain ⟨a, b⟩ := x
  obtain ⟨c, d⟩ := y
  refine (tok_eqA a b c d).trans ?_
  by_cases h1 : a = c <;> by_cases h2 : b = d
  · subst h1; subst h2; simp
  · subst h1; simp only [beq_self_eq_true]; rw [show ((b : Int) == d) = false from beq_eq_false_iff_ne.2 (by omega)]; simp [h2]
  · rw [show ((a : Int) == c) = false from beq_eq_false_iff_ne.2 (by omega)]; simp [h1]
  · rw [show ((a : Int) == c) = false from beq_eq_false_iff_ne.2 (by omega)]; simp [h1]
theorem tok_neq (x y : Tk) (cx cy : Bool) : aBin Try.prog .neq 46 cx cy (.agg x.cells.toArray) (.agg y.cells.toArray) = some (.bool (decide (x ≠ y))) := by
  have h : Try.prog.eqGuardType Try.prog.depth 46 = false := by kernel_rfl
  unfold aBin
  simp only [h, Bool.not_false, cond_true, tok_eq, Option.map_some, decide_not]
theorem sameToks_any (H : AHeap) (a a' : Option Addr) (n c n' c' : Nat) (ss ts : List Tk) (hr : RowS H a n c 2 (ss.map Tk.cells)) (hr' : RowS H a' n' c' 2 (ts.map Tk.cells)) (hn : n ≤ 2 ^ 60) (hn' : n' ≤ 2 ^ 60) :
    Does Try.prog orc 31 [.slice a n c, .slice a' n' c'] H fun r H' => ∃ b, r = .ret (.bool b) ∧ (b = true ↔ ss = ts) ∧ H = H' := by
  have hlen := hr.len; simp at hlen
  have hcap := hr.cap
  have hlen' := hr'.len; simp at hlen'
  have hcap' := hr'.cap
  refine Does.of Try.func31 (fun _ _ => rfl) rfl ?_
  repeat' ((conv => whnf); first
    | (refine Both.intro ?_ ?_ <;> intro _ <;> try (exfalso; omega))
    | (refine Need.intro (by omega) ?_)
    | fail)
  all_goals (conv => whnf)
  · exact ⟨_, rfl, iff_of_false (by simp) (fun e => by subst e; omega), rfl⟩
  have hnn : n = n' := by omega
  subst hnn
  refine Runs.loop (fun k : Nat => [(5, .int .i64 k), (0, .slice a n c), (1, .slice a' n c')]) (fun k H' => H = H' ∧ k ≤ n ∧ ∀ (j : Nat) x, j < k → ss[j]? = some x → ts[j]? = some x) (fun k => n - k) 0 ⟨rfl, rfl, rfl, trivial⟩ ⟨rfl, by omega, by omega⟩ ?_
  rintro k _ ⟨rfl, hk, hall⟩
  by_cases hlt : k < n
  · obtain ⟨x, hx⟩ := get_of (l := ss) (k := k) (by omega)
    obtain ⟨y, hy⟩ := get_of (l := ts) (k := k) (by omega)
    obtain ⟨b, o, st, rfl, hcell⟩ := hr.cell k x.cells (by simp [hx])
    obtain ⟨b', o', st', rfl, hcell'⟩ := hr'.cell k y.cells (by simp [hy])
    repeat' ((conv => whnf); first
      | (refine Both.intro ?_ ?_ <;> intro _ <;> try (exfalso; omega))
      | (refine Need.intro (by omega) ?_)
      | (refine ⟨_, hcell, ?_⟩)
      | (refine ⟨_, hcell', ?_⟩)
      | (refine Gives.intro ⟨.agg #[.int .u8 _, .int .u8 _], rfl, ?_⟩)
      | (refine Need.intro (DrawP.intro (by kernel_rfl)) ?_)
      | fail)
    all_goals (conv => whnf)
    by_cases hxy : x = y
    · have hq := tok_neq x y
      rw [decide_eq_false (not_not_intro hxy)] at hq
      repeat' ((conv => whnf); first
        | (refine Both.intro ?_ ?_ <;> intro _ <;> try (exfalso; omega))
        | (refine Need.intro (by omega) ?_)
        | (refine Gives.intro ⟨_, hq _ _, ?_⟩)
        | (refine Need.intro (DrawP.intro (by kernel_rfl)) ?_)
        | fail)
      all_goals (conv => whnf)
      exact ⟨k + 1, ⟨rfl, rfl, rfl, trivial⟩, ⟨rfl, by omega, all_step (R := fun j x => ts[j]? = some x) hall hx (by rw [hy, hxy])⟩, by omega⟩
    · have hq := tok_neq x y
      rw [decide_eq_true hxy] at hq
      repeat' ((conv => whnf); first
        | (refine Both.intro ?_ ?_ <;> intro _ <;> try (exfalso; omega))
        | (refine Need.intro (by omega) ?_)
        | (refine Gives.intro ⟨_, hq _ _, ?_⟩)
        | (refine Need.intro (DrawP.intro (by kernel_rfl)) ?_)
        | fail)
      all_goals (conv => whnf)
      exact ⟨_, rfl, iff_of_false (by simp) (fun e => hxy (by subst e; rw [hx] at hy; cases hy; rfl)), rfl⟩
  · skip
    repeat' ((conv => whnf); first
      | (refine Both.intro ?_ ?_ <;> intro _ <;> try (exfalso; omega))
      | (refine Need.intro (by omega) ?_)
      | fail)
    all_goals (conv => whnf)
    exact ⟨_, rfl, iff_of_true rfl (list_eq_of (by omega) fun j x hj hx => hall j x (by omega) hx), rfl⟩
end Go.AX.Try
