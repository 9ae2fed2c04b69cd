/- Arguments, opened: what a law's reading tells of them. -/
import Derived.Test.YtkngijdjkcdcjaaDoorAxArg
import Derived.Test.YtkngijdjkcdcjaaDoorLRow
import Derived.WalkKit
import Derived.ProofKit
import Derived.OpenShut
import Derived.ShutString
import Derived.SliceStrings
import Derived.ChangeOld
import Derived.Below
namespace Go.AX.Lw
open Go Go.AX Go.RowKit Go.ChangeShapes Go.WideShapes
set_option linter.unusedVariables false
variable {H : Type} {enc : TypeId × Value → H} {P : Program} {W : World} {base : Nat}

theorem has_slice {t e : TypeId} (ht : P.underlying t = some (.slice e)) {a : Addr} {len cap : Nat} (h : Value.okWide P W .any base t (.slice (some a) len cap)) : a.spot = none ∧ a.block < W.heap.size ∧ len ≤ cap := by
  simp only [Value.okWide, ht, Cell.okWide, Cell.ok] at h
  obtain ⟨h1, -, -, h2, row, cells, h3, -⟩ := h
  refine ⟨h2, ?_, h1⟩
  unfold World.shape? at h3
  cases hg : W.heap[a.block]? with
  | none => simp only [hg] at h3; cases h3
  | some o => exact (Array.getElem?_eq_some_iff.1 hg).1
/-- A list of one-cell elements, as it lies in memory. -/
structure Lies (W : World) (v : Value) (o : Option (Nat × Nat)) (n c : Nat) (xs : List Value) : Prop where
  val : v = .slice (o.map fun x => ⟨x.1, x.2, none⟩) n c
  nil : o = none → n = 0 ∧ c = 0
  len : xs.length = n
  cap : n ≤ c
  lt : ∀ x, o = some x → x.1 < W.heap.size
  cell : ∀ (x : Nat × Nat) (i : Nat) y, o = some x → xs[i]? = some y → W.cell? ⟨x.1, x.2 + i, none⟩ = some y
theorem open_texts {t e : TypeId} (ht : P.underlying t = some (.slice e)) (he : P.underlying e = some .string) (hc : P.cellsOf e = 1) {v : Value} (hv : Value.okWide P W .any base t v) {d : DataW H} {ps : List MemPlace}
    (h : DataW.Trod enc P W 0 (fun _ => true) true t v d ps) :
    ∃ (o : Option (Nat × Nat)) (n c : Nat) (ss : List ByteArray), Lies W v o n c (ss.map .string) ∧ ((d = .nil ∧ ss = []) ∨ ∃ rest, d = .slice (strs ss) rest) := by
  obtain ⟨a0, len, cap, rfl⟩ := okWide_slice ht hv
  obtain ⟨fuel, hf⟩ := h
  rcases open_strings ht he hc hf with ⟨hcs, hx⟩ | ⟨a, len', cap', ss, hcs, _, hl, hm, hz, hx, hcell, hsz⟩
  · simp only [Value.cells, List.cons.injEq, and_true, Value.slice.injEq] at hcs
    obtain ⟨rfl, rfl, rfl⟩ := hcs
    simp only [Prod.mk.injEq] at hx
    exact ⟨none, 0, 0, [], ⟨rfl, fun _ => ⟨rfl, rfl⟩, rfl, Nat.le_refl _, (fun x h => by cases h), (fun x i y h => by cases h)⟩, .inl ⟨hx.1, rfl⟩⟩
  · simp only [Value.cells, List.cons.injEq, and_true, Value.slice.injEq] at hcs
    obtain ⟨rfl, rfl, rfl⟩ := hcs
    simp only [Prod.mk.injEq] at hx
    obtain ⟨hs, hb, -⟩ := has_slice ht hv
    obtain ⟨b, off, spot⟩ := a
    obtain rfl : spot = none := hs
    simp only [if_true] at hz
    refine ⟨some (b, off), len, cap, ss.take len, ⟨rfl, (fun h => by cases h), by simp; omega, hl, (fun x h => by cases h; exact hb), fun x i y h hy => ?_⟩, .inr ⟨_, hx.1⟩⟩
    cases h
    rw [List.getElem?_map, Option.map_eq_some_iff] at hy
    obtain ⟨s, hs, rfl⟩ := hy
    rw [List.getElem?_take] at hs
    split at hs
    · rename_i hi
      have := hcell i (by omega)
      rw [add_plain] at this
      rw [this, List.getD, hs]; rfl
    · cases hs
theorem open_nums {t e : TypeId} {k : IntKind} (ht : P.underlying t = some (.slice e)) (he : P.underlying e = some (.int k)) (hc : P.cellsOf e = 1) {v : Value} (hv : Value.okWide P W .any base t v) {d : DataW H} {ps : List MemPlace}
    (h : DataW.Trod enc P W 0 (fun _ => true) true t v d ps) :
    ∃ (o : Option (Nat × Nat)) (n c : Nat) (zs : List Int), Lies W v o n c (zs.map (.int k)) ∧ (∀ z ∈ zs, (Lit.int k z).wf = true) ∧ ((d = .nil ∧ zs = []) ∨ ∃ rest, d = .slice (lits k zs) rest) := by
  obtain ⟨a0, len, cap, rfl⟩ := okWide_slice ht hv
  obtain ⟨fuel, hf⟩ := h
  rcases open_ints ht he hc hf with ⟨hcs, hx⟩ | ⟨a, len', cap', ss, hcs, _, hl, hm, hz, hx, hcell, hsz⟩
  · simp only [Value.cells, List.cons.injEq, and_true, Value.slice.injEq] at hcs
    obtain ⟨rfl, rfl, rfl⟩ := hcs
    simp only [Prod.mk.injEq] at hx
    exact ⟨none, 0, 0, [], ⟨rfl, fun _ => ⟨rfl, rfl⟩, rfl, Nat.le_refl _, (fun x h => by cases h), (fun x i y h => by cases h)⟩, (by simp), .inl ⟨hx.1, rfl⟩⟩
  · simp only [Value.cells, List.cons.injEq, and_true, Value.slice.injEq] at hcs
    obtain ⟨rfl, rfl, rfl⟩ := hcs
    simp only [Prod.mk.injEq] at hx
    obtain ⟨hs, hb, -⟩ := has_slice ht hv
    obtain ⟨b, off, spot⟩ := a
    obtain rfl : spot = none := hs
    simp only [if_true] at hz
    refine ⟨some (b, off), len, cap, ss.take len, ⟨rfl, (fun h => by cases h), by simp; omega, hl, (fun x h => by cases h; exact hb), fun x i y h hy => ?_⟩, fun z hz => hsz z (List.mem_of_mem_take hz), .inr ⟨_, hx.1⟩⟩
    cases h
    rw [List.getElem?_map, Option.map_eq_some_iff] at hy
    obtain ⟨s, hs, rfl⟩ := hy
    rw [List.getElem?_take] at hs
    split at hs
    · rename_i hi
      have := hcell i (by omega)
      rw [add_plain] at this
      rw [this, List.getD, hs]; rfl
    · cases hs
/-- The argument in the executor's words: block i holds its cells. -/
def Lies.abs (i : Nat) (o : Option (Nat × Nat)) (n c : Nat) : Value := .slice (o.map fun _ => ⟨i, 0, none⟩) n c
theorem Lies.rel {v : Value} {o : Option (Nat × Nat)} {n c : Nat} {xs : List Value} (h : Lies W v o n c xs) {as : List (Option (Nat × Nat))} {i : Nat} (hi : as[i]? = some o) : VRel (argRho as) (Lies.abs i o n c) v := by
  rw [h.val]
  cases o with
  | none => exact .snil n c
  | some x =>
    refine .slice ?_
    unfold SRel
    rw [argRho_of hi]
    exact ⟨.inr rfl, rfl⟩
theorem Lies.row {v : Value} {o : Option (Nat × Nat)} {n c : Nat} {xs : List Value} (h : Lies W v o n c xs) {bs : List (List Value)} {i : Nat} (hi : bs[i]? = some xs) : Row (argH bs) (o.map fun _ => ⟨i, 0, none⟩) n c xs := by
  cases o with
  | none =>
    have := h.len
    rw [(h.nil rfl).1] at this
    obtain rfl := List.length_eq_zero_iff.1 this
    exact ⟨(h.nil rfl).1, h.cap, fun i x hx => by simp at hx⟩
  | some x => exact Row.of_block (by rw [argH_get, hi]; rfl) h.len.symm h.cap (List.prefix_refl _)
/-- Cells that are plain stand for themselves. -/
theorem Lies.cells {v : Value} {o : Option (Nat × Nat)} {n c : Nat} {xs : List Value} (h : Lies W v o n c xs) (hp : ∀ x ∈ xs, plainV 9 x = true) {ρ : Rho} {b k : Nat} (hb : o = some (b, k)) : ∀ (j : Nat) y, xs[j]? = some y → ∃ y', W.cell? ⟨b, k + j, none⟩ = some y' ∧ VRel ρ y y' :=
  fun j y hy => ⟨y, h.cell (b, k) j y hb hy, vrel_plain _ 9 y (hp y (List.mem_of_getElem? hy))⟩
end Go.AX.Lw
