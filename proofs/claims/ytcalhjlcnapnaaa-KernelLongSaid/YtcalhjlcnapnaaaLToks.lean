/- Tokens as an argument. -/
import Derived.Test.YtcalhjlcnapnaaaLForms
import Derived.Test.YtcalhjlcnapnaaaLTok
namespace Go.AX.Lw
open Go Go.AX Go.RowKit Go.ChangeShapes Go.WideShapes
set_option linter.unusedVariables false
def pairs : List (Int × Int) → List Value
  | [] => []
  | z :: r => .int .u8 z.1 :: .int .u8 z.2 :: pairs r
theorem pairs_get : ∀ (l : List (Int × Int)) (j : Nat) (v : Value), (pairs l)[j]? = some v → ∃ i z, l[i]? = some z ∧ ((j = i * 2 ∧ v = .int .u8 z.1) ∨ (j = i * 2 + 1 ∧ v = .int .u8 z.2))
  | [], j, v, h => by simp [pairs] at h
  | z :: r, 0, v, h => by simp [pairs] at h; exact ⟨0, z, rfl, .inl ⟨rfl, h.symm⟩⟩
  | z :: r, 1, v, h => by simp [pairs] at h; exact ⟨0, z, rfl, .inr ⟨rfl, h.symm⟩⟩
  | z :: r, j + 2, v, h => by
    simp only [pairs, List.getElem?_cons_succ] at h
    obtain ⟨i, y, hi, h⟩ := pairs_get r j v h
    exact ⟨i + 1, y, by simpa using hi, by
      rcases h with ⟨h, hv⟩ | ⟨h, hv⟩
      · exact .inl ⟨by omega, hv⟩
      · exact .inr ⟨by omega, hv⟩⟩
theorem pairs_at : ∀ (l : List (Int × Int)) (i : Nat) (z : Int × Int), l[i]? = some z → (pairs l)[i * 2]? = some (.int .u8 z.1) ∧ (pairs l)[i * 2 + 1]? = some (.int .u8 z.2)
  | [], i, z, h => by simp at h
  | y :: r, 0, z, h => by simp at h; subst h; simp [pairs]
  | y :: r, i + 1, z, h => by
    have := pairs_at r i z (by simpa using h)
    rw [show (i + 1) * 2 = i * 2 + 2 by omega]
    simpa [pairs] using this
theorem u8_nat {z : Int} (h : (Lit.int .u8 z).wf = true) : ∃ m : Nat, z = m ∧ m < 256 := by
  have : IntKind.u8.min ≤ z ∧ z ≤ IntKind.u8.max := by simpa [Lit.wf] using h
  have h1 : IntKind.u8.min = 0 := by decide
  have h2 : IntKind.u8.max = 255 := by decide
  exact ⟨z.toNat, by omega, by omega⟩
/-- A list of tokens, as it lies in memory. -/
structure LiesP (W : World) (v : Value) (o : Option (Nat × Nat)) (n c : Nat) (zs : List (Int × Int)) : Prop where
  val : v = .slice (o.map fun x => ⟨x.1, x.2, none⟩) n c
  nil : o = none → n = 0 ∧ c = 0
  len : zs.length = n
  cap : n ≤ c
  max : c ≤ 2 ^ 63 - 1
  lt : ∀ x, o = some x → x.1 < W.heap.size
  wf : ∀ z ∈ zs, (Lit.int .u8 z.1).wf = true ∧ (Lit.int .u8 z.2).wf = true
  cell : ∀ (b k : Nat) (i : Nat) z, o = some (b, k) → zs[i]? = some z → W.cell? ⟨b, k + i * 2, none⟩ = some (.int .u8 z.1) ∧ W.cell? ⟨b, k + (i * 2 + 1), none⟩ = some (.int .u8 z.2)
variable {H : Type} {enc : TypeId × Value → H} {P : Program} {W : World} {base : Nat}
theorem open_toksL {t e : TypeId} {f0 f1 : Field} (ht : P.underlying t = some (.slice e)) (he : P.underlying e = some (.struct #[f0, f1])) (hc : P.cellsOf e = 2)
    (h0 : P.underlying f0.type = some (.int .u8)) (h1 : P.underlying f1.type = some (.int .u8)) (o0 : f0.offset = 0) (o1 : f1.offset = 1) (c0 : P.cellsOf f0.type = 1) (c1 : P.cellsOf f1.type = 1)
    {v : Value} (hv : Value.okWide P W .any base t v) {d : DataW H} {ps : List MemPlace} (h : DataW.Trod enc P W 0 (fun _ => true) true t v d ps) :
    ∃ (o : Option (Nat × Nat)) (n c : Nat) (zs : List (Int × Int)), LiesP W v o n c zs ∧ ((d = .nil ∧ zs = []) ∨ ∃ r, d = .slice (zs.map fun z => .agg [.lit (.int .u8 z.1), .lit (.int .u8 z.2)]) r) := by
  obtain ⟨a0, len, cap, rfl⟩ := okWide_slice ht hv
  obtain ⟨fuel, hf⟩ := h
  rcases open_toks (u8a := t) (u8b := t) ht he hc h0 h1 o0 o1 c0 c1 hf with ⟨h2, h3⟩ | ⟨a, len', cap', zs, r, hcs, g1, gm, g2, g3, g4, g5, g6⟩
  · simp only [Value.cells, List.cons.injEq, and_true, Value.slice.injEq] at h2
    obtain ⟨rfl, rfl, rfl⟩ := h2
    exact ⟨none, 0, 0, [], ⟨rfl, fun _ => ⟨rfl, rfl⟩, rfl, Nat.le_refl _, by decide, (fun x h => by cases h), by simp, (fun b k i z h => by cases h)⟩, .inl ⟨h3, rfl⟩⟩
  · simp only [Value.cells, List.cons.injEq, and_true, Value.slice.injEq] at hcs
    obtain ⟨rfl, rfl, rfl⟩ := hcs
    obtain ⟨hs0, hb, -⟩ := has_slice ht hv
    obtain ⟨b, off, spot⟩ := a
    obtain rfl : spot = none := hs0
    refine ⟨some (b, off), len, cap, zs, ⟨rfl, (fun h => by cases h), g2, g1, gm, (fun x h => by cases h; exact hb), g4, fun b' k i z h hz => ?_⟩, .inr ⟨r, g3⟩⟩
    cases h
    have := g5 i z hz
    rw [add_plain, add_plain] at this
    exact this
theorem LiesP.rel {v : Value} {o : Option (Nat × Nat)} {n c : Nat} {zs : List (Int × Int)} (h : LiesP W v o n c zs) {as' : List (Option (Nat × Nat))} {i : Nat} (hi : as'[i]? = some o) : VRel (argRho as') (Lies.abs i o n c) v := by
  rw [h.val]
  cases o with
  | none => exact .snil n c
  | some x =>
    refine .slice ?_
    unfold SRel
    rw [argRho_of hi]
    exact ⟨.inr rfl, rfl⟩
theorem LiesP.cells {v : Value} {o : Option (Nat × Nat)} {n c : Nat} {zs : List (Int × Int)} (h : LiesP W v o n c zs) {ρ : Rho} {b k : Nat} (hb : o = some (b, k)) : ∀ (j : Nat) y, (pairs zs)[j]? = some y → ∃ y', W.cell? ⟨b, k + j, none⟩ = some y' ∧ VRel ρ y y' := by
  intro j y hy
  obtain ⟨i, z, hz, hv⟩ := pairs_get zs j y hy
  have := h.cell b k i z hb hz
  rcases hv with ⟨rfl, rfl⟩ | ⟨rfl, rfl⟩
  · exact ⟨_, this.1, .int _ _⟩
  · exact ⟨_, this.2, .int _ _⟩
end Go.AX.Lw
namespace Go.AX.Try
open Go Go.AX Go.AX.Lw Go.Proofs Go.RowKit Go.ChangeShapes Go.WideShapes
set_option linter.unusedVariables false
def tkOf (z : Int × Int) : Tk := ⟨z.1.toNat, z.2.toNat⟩
theorem LiesP.row {W : World} {v : Value} {o : Option (Nat × Nat)} {n c : Nat} {zs : List (Int × Int)} (h : LiesP W v o n c zs) {bs : List (List Value)} {i : Nat} (hi : bs[i]? = some (pairs zs)) : RowS (argH bs) (o.map fun _ => ⟨i, 0, none⟩) n c 2 ((zs.map tkOf).map Tk.cells) := by
  refine ⟨by simp [h.len], h.cap, (by intro x hx; obtain ⟨t, _, rfl⟩ := List.mem_map.1 hx; rfl), fun j x hx => ?_⟩
  rw [List.map_map, List.getElem?_map, Option.map_eq_some_iff] at hx
  obtain ⟨z, hz, rfl⟩ := hx
  obtain ⟨w1, w2⟩ := h.wf z (List.mem_of_getElem? hz)
  obtain ⟨p, hp, _⟩ := u8_nat w1
  obtain ⟨q, hq, _⟩ := u8_nat w2
  cases o with
  | none =>
    have := (h.nil rfl).1
    have hl := h.len
    have := (List.getElem?_eq_some_iff.1 hz).1
    omega
  | some y =>
    refine ⟨i, 0, none, rfl, ?_⟩
    have hg : (argH bs).get i = some (.cells (pairs zs) 0 false) := by rw [argH_get, hi]; rfl
    unfold cellsAt
    rw [hg]
    refine takeN_of 2 _ _ rfl fun m y hy => ?_
    rw [dropN_get]
    obtain ⟨k1, k2⟩ := pairs_at zs j _ hz
    rw [Nat.zero_add]
    obtain ⟨z1, z2⟩ := z
    dsimp only at hp hq
    subst hp; subst hq
    match m, hy with
    | 0, hy => simp [tkOf, Tk.cells] at hy; subst hy; exact k1
    | 1, hy => simp [tkOf, Tk.cells] at hy; subst hy; exact k2
    | m + 2, hy => simp [tkOf, Tk.cells] at hy
/-- Letters as numbers. -/
theorem nums_nat {zs : List Int} (h : ∀ z ∈ zs, (Lit.int .u8 z).wf = true) : zs.map (Value.int .u8) = (zs.map Int.toNat).map (fun x : Nat => Value.int .u8 (x : Int)) ∧ ∀ x ∈ zs.map Int.toNat, x < 256 := by
  refine ⟨?_, fun x hx => ?_⟩
  · rw [List.map_map]
    refine List.map_congr_left fun z hz => ?_
    obtain ⟨m, hm, _⟩ := u8_nat (h z hz)
    simp only [Function.comp]
    congr 1; omega
  · obtain ⟨z, hz, rfl⟩ := List.mem_map.1 hx
    obtain ⟨m, hm, hl⟩ := u8_nat (h z hz)
    omega
end Go.AX.Try
