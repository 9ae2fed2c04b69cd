/- Kinds of tokens' parts; rows of many cells as one; what layers 3 and 8 need of layer 7's texts. -/
import Derived.Test.YtcalhjlcnapnaaaLOrc
import Derived.Test.YtcalhjlcnapnaaaLCheck
namespace Go.AX.Lw
open Go Go.AX
theorem look_ext {H H' : AHeap} (e : Ext H H') {b o n : Nat} (hb : b < H.next) : cellsAt H b o n = cellsAt H' b o n := by
  unfold cellsAt; rw [e.get b hb]
end Go.AX.Lw
namespace Go.AX.Try
open Go Go.AX Go.AX.Lw Go.Proofs
set_option linter.unusedVariables false
set_option linter.unusedSimpArgs false
set_option maxRecDepth 100000
/-- The blocks of S, and the new ones. -/
def SNew (S : Nat → Prop) (H H' : AHeap) : Nat → Prop := fun b => S b ∨ (H.next ≤ b ∧ b < H'.next)
theorem SNew.lt {S : Nat → Prop} {H H' : AHeap} (hS : ∀ b, S b → b < H.next) (e : H.next ≤ H'.next) : ∀ b, SNew S H H' b → b < H'.next := fun b h => by
  rcases h with h | h
  · exact Nat.lt_of_lt_of_le (hS b h) e
  · exact h.2
/-- Which kinds a token may take. -/
def fitK (op : Nat) (a : List Bool) : Bool :=
  if op = 17 ∨ op = 18 then a == [true, false] else if op = 21 ∨ op = 22 then a == [true, true] else if op = 23 then a == [true] else a.all fun x => !x
def stepK (st : Option (List Bool)) (tk : Tk) : Option (List Bool) :=
  match st with
  | none => none
  | some ps => if tk.op ≤ 23 ∧ tk.p < 8 ∧ takesF tk.op ≤ ps.length ∧ fitK tk.op (ps.drop (ps.length - takesF tk.op)) = true then some (ps.take (ps.length - takesF tk.op) ++ [decide (19 ≤ tk.op)]) else none
def kinds (ts : List Tk) : Option (List Bool) := ts.foldl stepK (some [])
theorem foldK_none (ts : List Tk) : ts.foldl stepK none = none := by
  induction ts with
  | nil => rfl
  | cons t r ih => exact ih
theorem _root_.Go.AX.Does.heap {P : Program} {O : Orc} {g : FuncId} {args : List Value} {H H' : AHeap} {Q : CRes → AHeap → Prop} (h : Does P O g args H Q) (e : H = H') : Does P O g args H' Q := e ▸ h
theorem cellsAt_len {H : AHeap} {b o n : Nat} {l : List Value} (h : cellsAt H b o n = some l) : l.length = n ∧ ∃ cs e ow, H.get b = some (.cells cs e ow) ∧ ∀ j, j < n → cs[o + j]? = l[j]? := by
  unfold cellsAt at h
  cases hg : H.get b with
  | none => rw [hg] at h; cases h
  | some x =>
    rw [hg] at h
    cases x with
    | cells cs e ow =>
      obtain ⟨h1, h2⟩ := takeN_get h
      exact ⟨h1, cs, e, ow, rfl, fun j hj => by have := h2 j hj; rw [dropN_get] at this; exact this.symm⟩
    | _ => cases h
theorem RowS.flat {H : AHeap} {a : Option Addr} {n c sz : Nat} {xs : List (List Value)} (h : RowS H a n c sz xs) (hn : 1 ≤ n) (hsz : 1 ≤ sz) : ∃ b o st, a = some ⟨b, o, st⟩ ∧ cellsAt H b o (n * sz) = some xs.flatten := by
  have hlen := h.len
  obtain ⟨x0, hx0⟩ : ∃ x, xs[0]? = some x := ⟨_, List.getElem?_eq_getElem (by omega)⟩
  obtain ⟨b, o, st, rfl, hc0⟩ := h.cell 0 x0 hx0
  obtain ⟨_, cs, e, ow, hg, _⟩ := cellsAt_len hc0
  refine ⟨b, o, st, rfl, ?_⟩
  unfold cellsAt
  rw [hg]
  refine takeN_of _ _ _ (by rw [flat_len h.all, ← hlen]) fun i x hx => ?_
  have hi := (List.getElem?_eq_some_iff.1 hx).1
  rw [flat_len h.all] at hi
  have hq : i / sz < xs.length := (Nat.div_lt_iff_lt_mul (by omega)).2 hi
  have hr := Nat.mod_lt i (show 0 < sz by omega)
  obtain ⟨y, hy⟩ : ∃ y, xs[i / sz]? = some y := ⟨_, List.getElem?_eq_getElem hq⟩
  obtain ⟨b', o', st', he, hc⟩ := h.cell (i / sz) y hy
  cases he
  obtain ⟨_, cs', e', ow', hg', hcell⟩ := cellsAt_len hc
  rw [hg] at hg'; cases hg'
  have h1 := flat_get h.all hy (i % sz) hr
  have hdm : i / sz * sz + i % sz = i := by rw [Nat.mul_comm]; exact Nat.div_add_mod i sz
  rw [hdm] at h1
  have h2 := hcell (i % sz) hr
  rw [dropN_get, ← hx, h1, ← h2]
  congr 1
  omega
theorem zTok : zeroOf Try.prog 46 = some (.agg #[.int .u8 0, .int .u8 0]) := by kernel_rfl
end Go.AX.Try
