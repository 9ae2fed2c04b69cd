/- A list of formulas, opened. -/
import Derived.Test.YtcalhjlcnapnaaaLOpen
import Derived.DataReads
import Derived.ChangeSame
namespace Go.AX.Lw
open Go Go.AX Go.RowKit Go.ChangeShapes Go.WideShapes
set_option linter.unusedVariables false
variable {H : Type} {enc : TypeId × Value → H} {P : Program} {W : World} {base : Nat}
theorem cells_two {a : Addr} {l : List Value} (h : W.cells? base a 2 = some l) : ∃ x y, l = [x, y] ∧ W.cell? (a.add 0) = some x ∧ W.cell? (a.add 1) = some y := by
  unfold World.cells? at h
  split at h
  · simp only [List.range_succ, List.range_zero, List.nil_append, List.cons_append, List.mapM_cons, List.mapM_nil] at h
    cases h0 : W.cell? (a.add 0) with
    | none => simp [h0] at h
    | some x =>
      cases h1 : W.cell? (a.add 1) with
      | none => simp [h0, h1] at h
      | some y => simp [h0, h1] at h; exact ⟨x, y, h.symm, rfl, rfl⟩
  · cases h
theorem add_two (a : Addr) (n : Nat) : (a.add n).add 1 = a.add (n + 1) := by
  unfold Addr.add
  by_cases h : n = 0
  · subst h; simp
  · simp [h, Nat.add_assoc]
/-- One formula: a slice of two-number structs. -/
theorem open_toks {t e u8a u8b : TypeId} {f0 f1 : Field} {ka kb : IntKind} (ht : P.underlying t = some (.slice e)) (he : P.underlying e = some (.struct #[f0, f1])) (hc : P.cellsOf e = 2)
    (h0 : P.underlying f0.type = some (.int ka)) (h1 : P.underlying f1.type = some (.int kb)) (o0 : f0.offset = 0) (o1 : f1.offset = 1) (c0 : P.cellsOf f0.type = 1) (c1 : P.cellsOf f1.type = 1)
    {sp : Nat → Bool} {held : Bool} {fuel : Nat} {cs : List Value} {x : DataW H × List MemPlace} (h : DataW.trod enc P W base sp held fuel t cs = some x) :
    (cs = [.slice none 0 0] ∧ x.1 = .nil) ∨ ∃ (a : Addr) (len cap : Nat) (zs : List (Int × Int)) (r : List (DataW H)), cs = [.slice (some a) len cap] ∧ len ≤ cap ∧ cap ≤ 2 ^ 63 - 1 ∧ zs.length = len ∧ x.1 = .slice (zs.map fun z => .agg [.lit (.int ka z.1), .lit (.int kb z.2)]) r ∧
      (∀ z ∈ zs, (Lit.int ka z.1).wf = true ∧ (Lit.int kb z.2).wf = true) ∧
      (∀ i z, zs[i]? = some z → W.cell? (a.add (i * 2)) = some (.int ka z.1) ∧ W.cell? (a.add (i * 2 + 1)) = some (.int kb z.2)) ∧ (sp a.block = true → 0 < cap → ∃ v, W.cell? a = some v) := by
  rcases DataW.trod_slice ht h with ⟨h1, h2⟩ | ⟨a, len, cap, elems, rest, n, _, hcs, hx, _, hl, hmx, hlen, hel, hsp, _⟩
  · exact .inl ⟨h1, by rw [h2]⟩
  right
  have each : ∀ i, i < len → ∃ z : Int × Int, (∃ y, elems[i]? = some y ∧ y.1 = .agg [.lit (.int ka z.1), .lit (.int kb z.2)]) ∧ (Lit.int ka z.1).wf = true ∧ (Lit.int kb z.2).wf = true ∧ W.cell? (a.add (i * 2)) = some (.int ka z.1) ∧ W.cell? (a.add (i * 2 + 1)) = some (.int kb z.2) := by
    intro i hi
    have hE := hel i hi
    rw [hc] at hE
    have hy : ∃ y, elems[i]? = some y := ⟨_, List.getElem?_eq_getElem (by omega)⟩
    obtain ⟨y, hy⟩ := hy
    rw [hy, Option.bind_eq_some_iff] at hE
    obtain ⟨l, hl2, htr⟩ := hE
    obtain ⟨u, v, rfl, hu, hv⟩ := cells_two hl2
    obtain ⟨y0, y1, m, rfl, -, t0, t1⟩ := trod_struct2 he htr
    rw [o0, c0] at t0
    rw [o1, c1] at t1
    obtain ⟨p, hp, rfl, wp⟩ := DataW.trod_int h0 t0
    obtain ⟨q, hq, rfl, wq⟩ := DataW.trod_int h1 t1
    simp at hp hq
    subst hp; subst hq
    exact ⟨(p, q), ⟨_, hy, rfl⟩, wp, wq, by simpa [Addr.add] using hu, by rw [← add_two]; exact hv⟩
  obtain ⟨zf, hzf⟩ : ∃ zf : Nat → Int × Int, ∀ i, i < len → (∃ y, elems[i]? = some y ∧ y.1 = .agg [.lit (.int ka (zf i).1), .lit (.int kb (zf i).2)]) ∧ (Lit.int ka (zf i).1).wf = true ∧ (Lit.int kb (zf i).2).wf = true ∧ W.cell? (a.add (i * 2)) = some (.int ka (zf i).1) ∧ W.cell? (a.add (i * 2 + 1)) = some (.int kb (zf i).2) := by
    classical
    refine ⟨fun i => if h : i < len then Classical.choose (each i h) else (0, 0), fun i hi => ?_⟩
    simp only [dif_pos hi]
    exact Classical.choose_spec (each i hi)
  have hget : ∀ i z, ((List.range len).map zf)[i]? = some z → i < len ∧ z = zf i := by
    intro i z h
    rw [List.getElem?_map, Option.map_eq_some_iff] at h
    obtain ⟨j, hj, rfl⟩ := h
    have hi := (List.getElem?_eq_some_iff.1 hj).1
    simp at hi
    rw [List.getElem?_range hi] at hj
    simp at hj
    exact ⟨hi, by rw [hj]⟩
  refine ⟨a, len, cap, (List.range len).map zf, rest.map (·.1), hcs, hl, hmx, by simp, ?_, fun z hz => ?_, fun i z hz => ?_, fun hs hc0 => ?_⟩
  · rw [hx]
    show DataW.slice _ _ = DataW.slice _ _
    congr 1
    apply List.ext_getElem?
    intro i
    by_cases hi : i < len
    · obtain ⟨⟨y, hy, hy1⟩, _⟩ := hzf i hi
      rw [List.getElem?_map, hy, List.map_map, List.getElem?_map, List.getElem?_range hi]
      simp [hy1]
    · rw [List.getElem?_eq_none (by simp; omega), List.getElem?_eq_none (by simp; omega)]
  · obtain ⟨i, hi⟩ := List.mem_iff_getElem?.1 hz
    obtain ⟨h1, rfl⟩ := hget i z hi
    exact ⟨(hzf i h1).2.1, (hzf i h1).2.2.1⟩
  · obtain ⟨h1, rfl⟩ := hget i z hz
    exact (hzf i h1).2.2.2
  · by_cases h : 0 < len
    · exact ⟨_, by have := (hzf 0 h).2.2.2.1; simpa [Addr.add] using this⟩
    · obtain rfl : len = 0 := by omega
      obtain ⟨hr1, hr2⟩ := hsp hs
      have hr := hr2 0 (by omega)
      have hy : ∃ y, rest[0]? = some y := ⟨_, List.getElem?_eq_getElem (by omega)⟩
      obtain ⟨y, hy⟩ := hy
      rw [hy, hc, Option.bind_eq_some_iff] at hr
      obtain ⟨l, hl2, -⟩ := hr
      obtain ⟨u, v, -, hu, -⟩ := cells_two hl2
      exact ⟨u, by simpa [Addr.add] using hu⟩
/-- What an inner slice is. -/
def FmOk (W : World) (ka kb : IntKind) (v : Value) (zs : List (Int × Int)) (y : DataW H) : Prop :=
  (v = .slice none 0 0 ∧ zs = [] ∧ y = .nil) ∨ ∃ (a : Addr) (len cap : Nat) (r : List (DataW H)), v = .slice (some a) len cap ∧ len ≤ cap ∧ cap ≤ 2 ^ 63 - 1 ∧ zs.length = len ∧ y = .slice (zs.map fun z => .agg [.lit (.int ka z.1), .lit (.int kb z.2)]) r ∧
    (∀ z ∈ zs, (Lit.int ka z.1).wf = true ∧ (Lit.int kb z.2).wf = true) ∧ (∀ i z, zs[i]? = some z → W.cell? (a.add (i * 2)) = some (.int ka z.1) ∧ W.cell? (a.add (i * 2 + 1)) = some (.int kb z.2)) ∧ (0 < cap → ∃ u, W.cell? a = some u)
theorem open_forms {t s e : TypeId} {f0 f1 : Field} {ka kb : IntKind} (ht : P.underlying t = some (.slice s)) (hs : P.underlying s = some (.slice e)) (hcs : P.cellsOf s = 1) (he : P.underlying e = some (.struct #[f0, f1])) (hc : P.cellsOf e = 2)
    (h0 : P.underlying f0.type = some (.int ka)) (h1 : P.underlying f1.type = some (.int kb)) (o0 : f0.offset = 0) (o1 : f1.offset = 1) (c0 : P.cellsOf f0.type = 1) (c1 : P.cellsOf f1.type = 1)
    {v : Value} (hv : Value.okWide P W .any base t v) {d : DataW H} {ps : List MemPlace} (h : DataW.Trod enc P W 0 (fun _ => true) true t v d ps) :
    ∃ (o : Option (Nat × Nat)) (n c : Nat) (vs : List Value) (zss : List (List (Int × Int))) (ds : List (DataW H)), Lies W v o n c vs ∧ c ≤ 2 ^ 63 - 1 ∧ zss.length = n ∧ ds.length = n ∧ ((d = .nil ∧ n = 0) ∨ ∃ rest, d = .slice ds rest) ∧
      ∀ (i : Nat) (u : Value) (zs : List (Int × Int)) (y : DataW H), vs[i]? = some u → zss[i]? = some zs → ds[i]? = some y → FmOk W ka kb u zs y := by
  obtain ⟨a0, len, cap, rfl⟩ := okWide_slice ht hv
  obtain ⟨fuel, hf⟩ := h
  rcases DataW.trod_slice ht hf with ⟨h2, h3⟩ | ⟨a, len', cap', elems, rest, n, _, hcs', hx, _, hl, hmx, hlen, hel, hsp, _⟩
  · simp only [Value.cells, List.cons.injEq, and_true, Value.slice.injEq] at h2
    obtain ⟨rfl, rfl, rfl⟩ := h2
    simp only [Prod.mk.injEq] at h3
    exact ⟨none, 0, 0, [], [], [], ⟨rfl, fun _ => ⟨rfl, rfl⟩, rfl, Nat.le_refl _, (fun x h => by cases h), (fun x i y h => by cases h)⟩, by decide, rfl, rfl, .inl ⟨h3.1, rfl⟩, by simp⟩
  · simp only [Value.cells, List.cons.injEq, and_true, Value.slice.injEq] at hcs'
    obtain ⟨rfl, rfl, rfl⟩ := hcs'
    simp only [Prod.mk.injEq] at hx
    obtain ⟨hs0, hb, -⟩ := has_slice ht hv
    obtain ⟨b, off, spot⟩ := a
    obtain rfl : spot = none := hs0
    have each : ∀ i, ∃ q : Value × List (Int × Int), i < len → W.cell? ⟨b, off + i, none⟩ = some q.1 ∧ ∃ y, elems[i]? = some y ∧ FmOk W ka kb q.1 q.2 y.1 := by
      intro i
      by_cases hi : i < len
      · have hE := hel i hi
        rw [hcs, Nat.mul_one] at hE
        obtain ⟨y, hy⟩ : ∃ y, elems[i]? = some y := ⟨_, List.getElem?_eq_getElem (by omega)⟩
        rw [hy, Option.bind_eq_some_iff] at hE
        obtain ⟨l, hl2, htr⟩ := hE
        rcases open_toks (u8a := t) (u8b := t) hs he hc h0 h1 o0 o1 c0 c1 htr with ⟨rfl, hy1⟩ | ⟨a, ln, cp, zs, r, rfl, g1, gm, g2, g3, g4, g5, g6⟩
        · exact ⟨(_, []), fun _ => ⟨by have := cell_of_cells?_one hl2; rwa [add_plain] at this, y, hy, .inl ⟨rfl, rfl, hy1⟩⟩⟩
        · exact ⟨(_, zs), fun _ => ⟨by have := cell_of_cells?_one hl2; rwa [add_plain] at this, y, hy, .inr ⟨a, ln, cp, r, rfl, g1, gm, g2, g3, g4, g5, g6 rfl⟩⟩⟩
      · exact ⟨(.bool true, []), fun h => absurd h hi⟩
    have hch := fun i => Classical.choose_spec (each i)
    have hrg : ∀ {β : Type} (f : Nat → β) (i : Nat) (x : β), ((List.range len).map f)[i]? = some x → i < len ∧ x = f i := by
      intro β f i x h
      rw [List.getElem?_map, Option.map_eq_some_iff] at h
      obtain ⟨j, hj, rfl⟩ := h
      have hi := (List.getElem?_eq_some_iff.1 hj).1
      simp at hi
      rw [List.getElem?_range hi] at hj
      simp at hj
      exact ⟨hi, by rw [hj]⟩
    refine ⟨some (b, off), len, cap, (List.range len).map fun i => (Classical.choose (each i)).1, (List.range len).map fun i => (Classical.choose (each i)).2, elems.map (·.1), ⟨rfl, (fun h => by cases h), by simp, hl, (fun x h => by cases h; exact hb), fun x i y h hy => ?_⟩, hmx, by simp, by simpa using hlen, .inr ⟨_, hx.1⟩, fun i u zs y hu hz hy => ?_⟩
    · cases h
      obtain ⟨hi, rfl⟩ := hrg _ i y hy
      exact (hch i hi).1
    · obtain ⟨hi, rfl⟩ := hrg _ i u hu
      obtain ⟨_, rfl⟩ := hrg _ i zs hz
      obtain ⟨-, y', hy', hok⟩ := hch i hi
      rw [List.getElem?_map, hy'] at hy
      cases hy
      exact hok
end Go.AX.Lw
