/- Arguments: automata, strategies. -/
import Derived.Test.YtkngijdjkcdcjaaDoorLArg
import Derived.Test.YtkngijdjkcdcjaaDoorLRcH
namespace Go.AX.Tryd
open Go Go.AX Go.AX.Lw Go.Proofs Go.RowKit Go.ChangeShapes Go.WideShapes
set_option linter.unusedVariables false
set_option linter.unusedSimpArgs false
set_option maxRecDepth 100000
theorem cells_three {W : World} {base : Nat} {a : Addr} {l : List Value} (h : W.cells? base a 3 = some l) : ∃ x y z, l = [x, y, z] ∧ W.cell? (a.add 0) = some x ∧ W.cell? (a.add 1) = some y ∧ W.cell? (a.add 2) = some z := by
  unfold World.cells? at h
  split at h
  · simp only [List.range_succ, List.range_zero, List.nil_append, List.cons_append, List.mapM_cons, List.mapM_nil] at h
    cases h0 : W.cell? (a.add 0) with
    | none => simp [h0] at h
    | some x =>
      cases h1 : W.cell? (a.add 1) with
      | none => simp [h0, h1] at h
      | some y =>
        cases h2 : W.cell? (a.add 2) with
        | none => simp [h0, h1, h2] at h
        | some z => simp [h0, h1, h2] at h; exact ⟨x, y, z, h.symm, rfl, rfl, rfl⟩
  · cases h
theorem add_add (a : Addr) (n m : Nat) (h : a.spot = none) : (a.add n).add m = a.add (n + m) := by
  obtain ⟨b, o, s⟩ := a
  obtain rfl : s = none := h
  rw [add_plain, add_plain, add_plain, Nat.add_assoc]
def ndF (l : List Nd) : List Value := l.flatMap ndC
theorem ndF_get : ∀ (l : List Nd) (j : Nat) (v : Value), (ndF l)[j]? = some v → ∃ i z q, l[i]? = some z ∧ j = i * 3 + q ∧ q < 3 ∧ (ndC z)[q]? = some v
  | [], j, v, h => by simp [ndF] at h
  | z :: r, j, v, h => by
    simp only [ndF, List.flatMap_cons] at h
    by_cases hj : j < 3
    · rw [List.getElem?_append_left (by simpa [ndC] using hj)] at h
      exact ⟨0, z, j, rfl, by omega, hj, h⟩
    · rw [List.getElem?_append_right (by simp [ndC]; omega)] at h
      obtain ⟨i, y, q, h1, h2, h3, h4⟩ := ndF_get r (j - 3) v (by simpa [ndC, ndF] using h)
      exact ⟨i + 1, y, q, by simpa using h1, by omega, h3, h4⟩
theorem ndF_at : ∀ (l : List Nd) (i : Nat) (z : Nd), l[i]? = some z → takeN 3 (dropN (i * 3) (ndF l)) = some (ndC z)
  | [], i, z, h => by simp at h
  | y :: r, 0, z, h => by simp at h; subst h; rfl
  | y :: r, i + 1, z, h => by
    have := ndF_at r i z (by simpa using h)
    rw [show (i + 1) * 3 = i * 3 + 1 + 1 + 1 by omega]
    exact this
section
variable {H : Type} {enc : TypeId × Value → H} {W : World} {ρ : Rho} {A : AHeap} {held : Bool} {fuel : Nat} {cs : List Value} {x : DataW H × List MemPlace}
theorem arg_ints (hA : ArgS ρ A W) (h : DataW.trod enc Tryd.prog W 0 (fun _ => true) held fuel 23 cs = some x) (hL : Light Tryd.prog 23 x.1) :
    ∃ (ρ' : Rho) (A' : AHeap) (a : Option Addr) (n c : Nat) (l : List Int) (v : Value), cs = [v] ∧ ArgS ρ' A' W ∧ ArgLe ρ A ρ' A' ∧ VRel ρ' (.slice a n c) v ∧ Row A' a n c (ints l) ∧ n ≤ 2 ^ 47 := by
  obtain ⟨ρ', A', a, n, c, l, v, h1, h2, h3, h4, h5, -, h6⟩ := arg_plain (f := fun z => .int .i64 z) (g := fun _ => True) Tryd.underlying23 (by kernel_rfl) (fun _ => rfl) (fun htr => by
    obtain ⟨p, hp, -, -⟩ := DataW.trod_int Tryd.underlying3 htr
    exact ⟨p, hp, trivial⟩) hA h hL
  exact ⟨ρ', A', a, n, c, l, v, h1, h2, h3, h4, h5, by
    rw [show Tryd.prog.bytesOf 3 = 8 by kernel_rfl] at h6
    have := reachBytes_lt; omega⟩
theorem arg_bools (hA : ArgS ρ A W) (h : DataW.trod enc Tryd.prog W 0 (fun _ => true) held fuel 22 cs = some x) (hL : Light Tryd.prog 22 x.1) :
    ∃ (ρ' : Rho) (A' : AHeap) (a : Option Addr) (n c : Nat) (l : List Bool) (v : Value), cs = [v] ∧ ArgS ρ' A' W ∧ ArgLe ρ A ρ' A' ∧ VRel ρ' (.slice a n c) v ∧ Row A' a n c (bools l) ∧ n ≤ 2 ^ 47 := by
  obtain ⟨ρ', A', a, n, c, l, v, h1, h2, h3, h4, h5, -, h6⟩ := arg_plain (f := fun z => .bool z) (g := fun _ => True) Tryd.underlying22 (by kernel_rfl) (fun _ => rfl) (fun htr => by
    obtain ⟨p, hp, -⟩ := DataW.trod_bool Tryd.underlying4 htr
    exact ⟨p, hp, trivial⟩) hA h hL
  exact ⟨ρ', A', a, n, c, l, v, h1, h2, h3, h4, h5, by
    rw [show Tryd.prog.bytesOf 4 = 1 by kernel_rfl] at h6
    have := reachBytes_lt; omega⟩
theorem u8_wf {z : Int} (h : (Lit.int .u8 z).wf = true) : 0 ≤ z ∧ z < 256 := by
  have : IntKind.u8.min ≤ z ∧ z ≤ IntKind.u8.max := by simpa [Lit.wf] using h
  have h1 : IntKind.u8.min = 0 := by decide
  have h2 : IntKind.u8.max = 255 := by decide
  omega
theorem arg_lets (hA : ArgS ρ A W) (h : DataW.trod enc Tryd.prog W 0 (fun _ => true) held fuel 28 cs = some x) (hL : Light Tryd.prog 28 x.1) :
    ∃ (ρ' : Rho) (A' : AHeap) (a : Option Addr) (n c : Nat) (l : List Int) (v : Value), cs = [v] ∧ ArgS ρ' A' W ∧ ArgLe ρ A ρ' A' ∧ VRel ρ' (.slice a n c) v ∧ Row A' a n c (lets l) ∧ (∀ z ∈ l, 0 ≤ z ∧ z < 256) ∧ n ≤ 2 ^ 47 := by
  obtain ⟨ρ', A', a, n, c, l, v, h1, h2, h3, h4, h5, h7, h6⟩ := arg_plain (f := fun z => .int .u8 z) (g := fun z => 0 ≤ z ∧ z < 256) Tryd.underlying28 (by kernel_rfl) (fun _ => rfl) (fun htr => by
    obtain ⟨p, hp, -, hq⟩ := DataW.trod_int Tryd.underlying59 htr
    exact ⟨p, hp, u8_wf hq⟩) hA h hL
  exact ⟨ρ', A', a, n, c, l, v, h1, h2, h3, h4, h5, h7, by
    rw [show Tryd.prog.bytesOf 59 = 1 by kernel_rfl] at h6
    have := reachBytes_lt; omega⟩
theorem ndStruct : ∃ f0 f1 f2, Tryd.prog.underlying 53 = some (.struct #[f0, f1, f2]) ∧ (f0.offset = 0 ∧ f1.offset = 1 ∧ f2.offset = 2) ∧ f0.type = 3 ∧ f1.type = 3 ∧ f2.type = 3 :=
  ⟨_, _, _, Tryd.underlying53, ⟨rfl, rfl, rfl⟩, rfl, rfl, rfl⟩
theorem trod_node (h : DataW.trod enc Tryd.prog W 0 (fun _ => true) held fuel 53 cs = some x) : ∃ z : Nd, cs = ndC z := by
  obtain ⟨f0, f1, f2, hs, ⟨o0, o1, o2⟩, t0, t1, t2⟩ := ndStruct
  obtain ⟨xs, n, -, -, hl, hlen, hf⟩ := DataW.trod_struct hs h
  rw [show Tryd.prog.cellsOf 53 = 3 by kernel_rfl] at hl
  have c8 : Tryd.prog.cellsOf 3 = 1 := by kernel_rfl
  obtain ⟨u, v, w, rfl⟩ : ∃ u v w, cs = [u, v, w] := by
    match cs, hl with
    | [u, v, w], _ => exact ⟨u, v, w, rfl⟩
  have g0 := hf 0 f0 rfl
  have g1 := hf 1 f1 rfl
  have g2 := hf 2 f2 rfl
  rw [t0, o0, c8, List.getElem?_eq_getElem (by rw [hlen]; show 0 < 3; decide)] at g0
  rw [t1, o1, c8, List.getElem?_eq_getElem (by rw [hlen]; show 1 < 3; decide)] at g1
  rw [t2, o2, c8, List.getElem?_eq_getElem (by rw [hlen]; show 2 < 3; decide)] at g2
  obtain ⟨p, hp, -⟩ := DataW.trod_int Tryd.underlying3 g0
  obtain ⟨q, hq, -⟩ := DataW.trod_int Tryd.underlying3 g1
  obtain ⟨r, hr, -⟩ := DataW.trod_int Tryd.underlying3 g2
  simp at hp hq hr
  subst hp hq hr
  exact ⟨(p, q, r), rfl⟩
theorem arg_nodes (hA : ArgS ρ A W) (h : DataW.trod enc Tryd.prog W 0 (fun _ => true) held fuel 24 cs = some x) (hL : Light Tryd.prog 24 x.1) :
    ∃ (ρ' : Rho) (A' : AHeap) (a : Option Addr) (n c : Nat) (l : List Nd) (v : Value), cs = [v] ∧ ArgS ρ' A' W ∧ ArgLe ρ A ρ' A' ∧ VRel ρ' (.slice a n c) v ∧ RowS A' a n c 3 (nds l) ∧ n ≤ 2 ^ 47 := by
  have hc : Tryd.prog.cellsOf 53 = 3 := by kernel_rfl
  rcases DataW.trod_slice Tryd.underlying24 h with ⟨rfl, -⟩ | ⟨a, len, cap, elems, rest, n, -, rfl, hx, -, hl, hmx, hlen, hel', hsp, -⟩
  · exact ⟨ρ, A, none, 0, 0, [], _, rfl, hA, ArgLe.refl _ _, .snil 0 0, ⟨rfl, Nat.le_refl _, by simp, fun i x h => by simp at h⟩, by simp⟩
  have each : ∀ i, i < len → ∃ z : Nd, W.cell? ((a.add (i * 3)).add 0) = some (.int .i64 z.1) ∧ W.cell? ((a.add (i * 3)).add 1) = some (.int .i64 z.2.1) ∧ W.cell? ((a.add (i * 3)).add 2) = some (.int .i64 z.2.2) := fun i hi => by
    have hE := hel' i hi
    rw [hc] at hE
    obtain ⟨y, hy⟩ : ∃ y, elems[i]? = some y := ⟨_, List.getElem?_eq_getElem (by omega)⟩
    rw [hy, Option.bind_eq_some_iff] at hE
    obtain ⟨l, hl2, htr⟩ := hE
    obtain ⟨z, rfl⟩ := trod_node htr
    obtain ⟨u, v, w, e, q1, q2, q3⟩ := cells_three hl2
    simp only [ndC, List.cons.injEq, and_true] at e
    obtain ⟨rfl, rfl, rfl⟩ := e
    exact ⟨z, q1, q2, q3⟩
  have hcap0 : 0 < cap → ∃ v, W.cell? a = some v := fun hc0 => by
    by_cases h : 0 < len
    · obtain ⟨y, hy, -⟩ := each 0 h; exact ⟨_, by simpa [Addr.add] using hy⟩
    · obtain rfl : len = 0 := by omega
      obtain ⟨hr1, hr2⟩ := hsp rfl
      have hr := hr2 0 (by omega)
      obtain ⟨y, hy⟩ : ∃ y, rest[0]? = some y := ⟨_, List.getElem?_eq_getElem (by omega)⟩
      rw [hy, hc, Option.bind_eq_some_iff] at hr
      obtain ⟨l, hl2, htr⟩ := hr
      obtain ⟨u, v, w, e, q1, q2, q3⟩ := cells_three hl2
      exact ⟨u, by simpa [Addr.add] using q1⟩
  have hl2 : ∃ l : List Nd, l.length = len ∧ ∀ i z, l[i]? = some z → ∀ q v, q < 3 → (ndC z)[q]? = some v → W.cell? ((a.add (i * 3)).add q) = some v := by
    clear h hL hx hlen hel' hsp hcap0
    suffices hh : ∀ k, k ≤ len → ∃ l : List Nd, l.length = k ∧ ∀ i z, l[i]? = some z → ∀ q v, q < 3 → (ndC z)[q]? = some v → W.cell? ((a.add (i * 3)).add q) = some v from hh len (Nat.le_refl _)
    intro k
    induction k with
    | zero => intro _; exact ⟨[], rfl, by simp⟩
    | succ k ih =>
      intro hk
      obtain ⟨l, h1, h2⟩ := ih (by omega)
      obtain ⟨y, q1, q2, q3⟩ := each k (by omega)
      refine ⟨l ++ [y], by simp [h1], fun i z hz => ?_⟩
      by_cases hi : i < l.length
      · rw [List.getElem?_append_left hi] at hz; exact h2 i z hz
      · have hb := (List.getElem?_eq_some_iff.1 hz).1
        simp at hb
        obtain rfl : i = k := by omega
        rw [List.getElem?_append_right (by omega), h1, Nat.sub_self] at hz
        cases hz
        intro q v hq hv
        have : q = 0 ∨ q = 1 ∨ q = 2 := by omega
        rcases this with rfl | rfl | rfl <;> (simp [ndC] at hv; subst hv; assumption)
  obtain ⟨l, h1, h2⟩ := hl2
  obtain ⟨ρ', A', k1, k2, k3, k4⟩ := arg_sl hA (a := a) (len := len) (cap := cap) (cs := ndF l) hcap0 (fun e => by rw [List.eq_nil_of_length_eq_zero (by omega : l.length = 0)]; rfl) (fun j v hj => by
    obtain ⟨i, z, q, g1, rfl, g3, g4⟩ := ndF_get l j v hj
    have hi := (List.getElem?_eq_some_iff.1 g1).1
    obtain ⟨vv, hvv⟩ := hcap0 (by omega)
    have := h2 i z g1 q v g3 g4
    rw [add_add _ _ _ (World.cell?_spot hvv)] at this
    refine ⟨v, this, vrel_plain _ 9 _ ?_⟩
    have : q = 0 ∨ q = 1 ∨ q = 2 := by omega
    rcases this with rfl | rfl | rfl <;> (simp [ndC] at g4; subst g4; rfl))
  refine ⟨ρ', A', some ⟨A.next, 0, none⟩, len, cap, l, _, rfl, k1, k2, k3, ⟨by simp [h1], hl, fun x hx => by
    obtain ⟨z, -, rfl⟩ := List.mem_map.1 hx; rfl, fun i x hx => ?_⟩, ?_⟩
  · rw [List.getElem?_map, Option.map_eq_some_iff] at hx
    obtain ⟨z, hz, rfl⟩ := hx
    have hne : ndF l ≠ [] := fun e => by
      have := ndF_at l i z hz
      rw [e] at this
      cases hd : dropN (i * 3) ([] : List Value) with
      | nil => rw [hd] at this; cases this
      | cons a b => have := dropN_get (i * 3) ([] : List Value) 0; rw [hd] at this; simp at this
    refine ⟨A.next, 0, none, rfl, ?_⟩
    unfold cellsAt
    rw [k4 hne, Nat.zero_add]
    exact ndF_at l i z hz
  · rw [hx] at hL
    have := (hL.slice Tryd.underlying24).1
    simp only [List.length_map] at this
    rw [hlen, show Tryd.prog.bytesOf 53 = 24 by kernel_rfl] at this
    have := reachBytes_lt; omega
theorem arg_lists (hA : ArgS ρ A W) (h : DataW.trod enc Tryd.prog W 0 (fun _ => true) held fuel 27 cs = some x) (hL : Light Tryd.prog 27 x.1) :
    ∃ (ρ' : Rho) (A' : AHeap) (a : Option Addr) (n c : Nat) (ll : List (List Int)) (v : Value), cs = [v] ∧ ArgS ρ' A' W ∧ ArgLe ρ A ρ' A' ∧ VRel ρ' (.slice a n c) v ∧ Rows8 A' a n c ll ∧ (∀ l ∈ ll, ∀ z ∈ l, 0 ≤ z ∧ z < 256) ∧ n ≤ 2 ^ 47 := by
  have hc : Tryd.prog.cellsOf 28 = 1 := by kernel_rfl
  rcases DataW.trod_slice Tryd.underlying27 h with ⟨rfl, -⟩ | ⟨a, len, cap, elems, rest, n, -, rfl, hx, -, hl, hmx, hlen, hel', hsp, -⟩
  · exact ⟨ρ, A, none, 0, 0, [], _, rfl, hA, ArgLe.refl _ _, .snil 0 0, ⟨[], ⟨rfl, Nat.le_refl _, fun i x h => by simp at h⟩, rfl, by simp⟩, by simp, by simp⟩
  rw [hx] at hL
  obtain ⟨hL1, hL2⟩ := hL.slice Tryd.underlying27
  have hcap0 : 0 < cap → ∃ v, W.cell? a = some v := fun hc0 => by
    by_cases h : 0 < len
    · have hE := hel' 0 h
      rw [hc] at hE
      obtain ⟨y, hy⟩ : ∃ y, elems[0]? = some y := ⟨_, List.getElem?_eq_getElem (by omega)⟩
      rw [hy, Option.bind_eq_some_iff] at hE
      obtain ⟨l, hl2, htr⟩ := hE
      rcases DataW.trod_slice Tryd.underlying28 htr with ⟨rfl, -⟩ | ⟨_, _, _, _, _, _, -, rfl, -⟩
      · exact ⟨_, by have := cell_of_cells?_one hl2; simpa [Addr.add] using this⟩
      · exact ⟨_, by have := cell_of_cells?_one hl2; simpa [Addr.add] using this⟩
    · obtain rfl : len = 0 := by omega
      obtain ⟨hr1, hr2⟩ := hsp rfl
      have hr := hr2 0 (by omega)
      obtain ⟨y, hy⟩ : ∃ y, rest[0]? = some y := ⟨_, List.getElem?_eq_getElem (by omega)⟩
      rw [hy, hc, Option.bind_eq_some_iff] at hr
      obtain ⟨l, hl2, htr⟩ := hr
      rcases DataW.trod_slice Tryd.underlying28 htr with ⟨rfl, -⟩ | ⟨_, _, _, _, _, _, -, rfl, -⟩
      · exact ⟨_, by have := cell_of_cells?_one hl2; simpa [Addr.add] using this⟩
      · exact ⟨_, by have := cell_of_cells?_one hl2; simpa [Addr.add] using this⟩
  have hl2 : ∃ (ρk : Rho) (Ak : AHeap) (L : List (Value × List Int)), ArgS ρk Ak W ∧ ArgLe ρ A ρk Ak ∧ L.length = len ∧ ∀ i p, L[i]? = some p → (∃ u, W.cell? (a.add i) = some u ∧ VRel ρk p.1 u) ∧ (∃ b m c, p.1 = .slice b m c ∧ Row Ak b m c (lets p.2) ∧ m ≤ 2 ^ 47) ∧ ∀ z ∈ p.2, 0 ≤ z ∧ z < 256 := by
    suffices hh : ∀ k, k ≤ len → ∃ (ρk : Rho) (Ak : AHeap) (L : List (Value × List Int)), ArgS ρk Ak W ∧ ArgLe ρ A ρk Ak ∧ L.length = k ∧ ∀ i p, L[i]? = some p → (∃ u, W.cell? (a.add i) = some u ∧ VRel ρk p.1 u) ∧ (∃ b m c, p.1 = .slice b m c ∧ Row Ak b m c (lets p.2) ∧ m ≤ 2 ^ 47) ∧ ∀ z ∈ p.2, 0 ≤ z ∧ z < 256 from hh len (Nat.le_refl _)
    intro k
    induction k with
    | zero => intro _; exact ⟨ρ, A, [], hA, ArgLe.refl _ _, rfl, by simp⟩
    | succ k ih =>
      intro hk
      obtain ⟨ρk, Ak, L, s1, s2, s3, s4⟩ := ih (by omega)
      have hE := hel' k (by omega)
      rw [hc, Nat.mul_one] at hE
      obtain ⟨y, hy⟩ : ∃ y, elems[k]? = some y := ⟨_, List.getElem?_eq_getElem (by omega)⟩
      rw [hy, Option.bind_eq_some_iff] at hE
      obtain ⟨l, hl2, htr⟩ := hE
      obtain ⟨ρ2, A2, b, m, c2, zs, v, rfl, t1, t2, t3, t4, t5, t6⟩ := arg_lets s1 htr (hL2 _ (List.mem_map_of_mem (List.mem_of_getElem? hy)))
      refine ⟨ρ2, A2, L ++ [(.slice b m c2, zs)], t1, s2.trans t2, by simp [s3], fun i p hp => ?_⟩
      by_cases hi : i < L.length
      · rw [List.getElem?_append_left hi] at hp
        obtain ⟨⟨u, u1, u2⟩, ⟨b', m', c', u3, u4, u5⟩, u6⟩ := s4 i p hp
        exact ⟨⟨u, u1, t2.rel _ _ u2⟩, ⟨b', m', c', u3, u4.ext s1.wf t2.ext, u5⟩, u6⟩
      · have hb := (List.getElem?_eq_some_iff.1 hp).1
        simp at hb
        obtain rfl : i = k := by omega
        rw [List.getElem?_append_right (by omega), s3, Nat.sub_self] at hp
        cases hp
        exact ⟨⟨v, cell_of_cells?_one hl2, t3⟩, ⟨b, m, c2, rfl, t4, t6⟩, t5⟩
  obtain ⟨ρk, Ak, L, s1, s2, s3, s4⟩ := hl2
  obtain ⟨ρ', A', k1, k2, k3, k4⟩ := arg_sl s1 (a := a) (len := len) (cap := cap) (cs := L.map (·.1)) hcap0 (fun e => by rw [List.eq_nil_of_length_eq_zero (by omega : L.length = 0)]; rfl) (fun j v hj => by
    rw [List.getElem?_map, Option.map_eq_some_iff] at hj
    obtain ⟨p, hp, rfl⟩ := hj
    exact (s4 j p hp).1)
  refine ⟨ρ', A', some ⟨Ak.next, 0, none⟩, len, cap, L.map (·.2), _, rfl, k1, s2.trans k2, k3, ⟨L.map (·.1), ?_, by simp, fun j w hw => ?_⟩, fun l hl z hz => ?_, ?_⟩
  · by_cases hn : L.map (·.1) = []
    · rw [hn]
      have : L = [] := by simpa using hn
      subst this
      exact ⟨s3.symm, hl, fun i x h => by simp at h⟩
    · exact Row.of_block (k4 hn) (by simp [s3]) hl (List.prefix_refl _)
  · rw [List.getElem?_map, Option.map_eq_some_iff] at hw
    obtain ⟨p, hp, rfl⟩ := hw
    obtain ⟨-, ⟨b, m, c, u3, u4, u5⟩, -⟩ := s4 j p hp
    exact ⟨b, m, c, p.2, u3, by rw [List.getElem?_map, hp]; rfl, u4.ext s1.wf k2.ext, u5⟩
  · obtain ⟨p, hp, rfl⟩ := List.mem_map.1 hl
    obtain ⟨i, hi⟩ := List.getElem?_of_mem hp
    exact (s4 i p hi).2.2 z hz
  · simp only [List.length_map] at hL1
    rw [hlen, show Tryd.prog.bytesOf 28 = 24 by kernel_rfl] at hL1
    have := reachBytes_lt; omega
theorem autStruct : ∃ f0 f1 f2 f3, Tryd.prog.underlying 26 = some (.struct #[f0, f1, f2, f3]) ∧ (f0.offset = 0 ∧ f1.offset = 1 ∧ f2.offset = 2 ∧ f3.offset = 3) ∧ f0.type = 3 ∧ f1.type = 22 ∧ f2.type = 23 ∧ f3.type = 24 :=
  ⟨_, _, _, _, Tryd.underlying26, ⟨rfl, rfl, rfl, rfl⟩, rfl, rfl, rfl, rfl⟩
theorem strStruct : ∃ f0 f1 f2 f3, Tryd.prog.underlying 30 = some (.struct #[f0, f1, f2, f3]) ∧ (f0.offset = 0 ∧ f1.offset = 1 ∧ f2.offset = 2 ∧ f3.offset = 3) ∧ f0.type = 4 ∧ f1.type = 23 ∧ f2.type = 27 ∧ f3.type = 28 :=
  ⟨_, _, _, _, Tryd.underlying30, ⟨rfl, rfl, rfl, rfl⟩, rfl, rfl, rfl, rfl⟩
theorem arg_auto {base : Nat} {v : Value} {d : DataW H} {ps : List MemPlace} (hA : ArgS ρ A W) (hv : Value.okWide Tryd.prog W .any base 26 v) (h : DataW.Trod enc Tryd.prog W 0 (fun _ => true) true 26 v d ps) (hL : Light Tryd.prog 26 d) :
    ∃ (ρ' : Rho) (A' : AHeap) (X : Aut) (a1 : Option Addr) (n1 c1 : Nat) (a2 : Option Addr) (n2 c2 : Nat) (a3 : Option Addr) (n3 c3 : Nat), ArgS ρ' A' W ∧ ArgLe ρ A ρ' A' ∧ VRel ρ' (autV X a1 n1 c1 a2 n2 c2 a3 n3 c3) v ∧ AutR A' X a1 n1 c1 a2 n2 c2 a3 n3 c3 ∧ n1 ≤ 2 ^ 47 ∧ n2 ≤ 2 ^ 47 ∧ n3 ≤ 2 ^ 47 := by
  obtain ⟨f0, f1, f2, f3, hs, ⟨o0, o1, o2, o3⟩, t0, t1, t2, t3⟩ := autStruct
  obtain ⟨vs, rfl, hsz⟩ := okWide_struct hs hv
  obtain ⟨fuel, hf⟩ := h
  obtain ⟨xs, n, -, hx, hl, hlen, hff⟩ := DataW.trod_struct hs hf
  obtain ⟨rfl, -⟩ : d = .agg (xs.map (·.1)) ∧ _ := by simpa using hx
  have c1 : Tryd.prog.cellsOf 3 = 1 := by kernel_rfl
  have c2 : Tryd.prog.cellsOf 22 = 1 := by kernel_rfl
  have c3 : Tryd.prog.cellsOf 23 = 1 := by kernel_rfl
  have c4 : Tryd.prog.cellsOf 24 = 1 := by kernel_rfl
  rw [show Tryd.prog.cellsOf 26 = 4 by kernel_rfl] at hsz
  obtain ⟨u0, u1, u2, u3, rfl⟩ : ∃ u0 u1 u2 u3, vs = #[u0, u1, u2, u3] := by
    obtain ⟨l⟩ := vs
    match l, hsz with
    | [u0, u1, u2, u3], _ => exact ⟨u0, u1, u2, u3, rfl⟩
  have g0 := hff 0 f0 rfl
  have g1 := hff 1 f1 rfl
  have g2 := hff 2 f2 rfl
  have g3 := hff 3 f3 rfl
  rw [t0, o0, c1, List.getElem?_eq_getElem (by rw [hlen]; show 0 < 4; decide)] at g0
  rw [t1, o1, c2, List.getElem?_eq_getElem (by rw [hlen]; show 1 < 4; decide)] at g1
  rw [t2, o2, c3, List.getElem?_eq_getElem (by rw [hlen]; show 2 < 4; decide)] at g2
  rw [t3, o3, c4, List.getElem?_eq_getElem (by rw [hlen]; show 3 < 4; decide)] at g3
  have L1 := hL.struct hs (j := 1) (f := f1) rfl (by rw [List.getElem?_map, List.getElem?_eq_getElem (by rw [hlen]; show 1 < 4; decide)]; rfl)
  have L2 := hL.struct hs (j := 2) (f := f2) rfl (by rw [List.getElem?_map, List.getElem?_eq_getElem (by rw [hlen]; show 2 < 4; decide)]; rfl)
  have L3 := hL.struct hs (j := 3) (f := f3) rfl (by rw [List.getElem?_map, List.getElem?_eq_getElem (by rw [hlen]; show 3 < 4; decide)]; rfl)
  rw [t1] at L1
  rw [t2] at L2
  rw [t3] at L3
  obtain ⟨p, hp, -⟩ := DataW.trod_int Tryd.underlying3 g0
  obtain ⟨ρ1, A1, a1, n1, k1, l1, w1, hw1, s1, e1, r1, w1', b1⟩ := arg_bools hA g1 L1
  obtain ⟨ρ2, A2, a2, n2, k2, l2, w2, hw2, s2, e2, r2, w2', b2⟩ := arg_ints s1 g2 L2
  obtain ⟨ρ3, A3, a3, n3, k3, l3, w3, hw3, s3, e3, r3, w3', b3⟩ := arg_nodes s2 g3 L3
  simp [Value.cells] at hp hw1 hw2 hw3
  subst hp hw1 hw2 hw3
  refine ⟨ρ3, A3, ⟨p, l1, l2, l3⟩, a1, n1, k1, a2, n2, k2, a3, n3, k3, s3, e1.trans (e2.trans e3), ?_, ⟨w1'.ext s1.wf (e2.trans e3).ext, w2'.ext s2.wf e3.ext, w3'⟩, b1, b2, b3⟩
  exact VRel.mkAgg (xs := [.int .i64 p, .slice a1 n1 k1, .slice a2 n2 k2, .slice a3 n3 k3]) (ys := [.int .i64 p, u1, u2, u3]) ⟨.int _ _, (e2.trans e3).rel _ _ r1, e3.rel _ _ r2, r3, trivial⟩
theorem arg_str {base : Nat} {v : Value} {d : DataW H} {ps : List MemPlace} (hA : ArgS ρ A W) (hv : Value.okWide Tryd.prog W .any base 30 v) (h : DataW.Trod enc Tryd.prog W 0 (fun _ => true) true 30 v d ps) (hL : Light Tryd.prog 30 d) :
    ∃ (ρ' : Rho) (A' : AHeap) (X : Str) (a1 : Option Addr) (n1 c1 : Nat) (a2 : Option Addr) (n2 c2 : Nat) (a3 : Option Addr) (n3 c3 : Nat), ArgS ρ' A' W ∧ ArgLe ρ A ρ' A' ∧ VRel ρ' (strV X a1 n1 c1 a2 n2 c2 a3 n3 c3) v ∧ StrR A' X a1 n1 c1 a2 n2 c2 a3 n3 c3 ∧ LetX X ∧ n1 ≤ 2 ^ 47 ∧ n2 ≤ 2 ^ 47 ∧ n3 ≤ 2 ^ 47 := by
  obtain ⟨f0, f1, f2, f3, hs, ⟨o0, o1, o2, o3⟩, t0, t1, t2, t3⟩ := strStruct
  obtain ⟨vs, rfl, hsz⟩ := okWide_struct hs hv
  obtain ⟨fuel, hf⟩ := h
  obtain ⟨xs, n, -, hx, hl, hlen, hff⟩ := DataW.trod_struct hs hf
  obtain ⟨rfl, -⟩ : d = .agg (xs.map (·.1)) ∧ _ := by simpa using hx
  have c1 : Tryd.prog.cellsOf 4 = 1 := by kernel_rfl
  have c2 : Tryd.prog.cellsOf 23 = 1 := by kernel_rfl
  have c3 : Tryd.prog.cellsOf 27 = 1 := by kernel_rfl
  have c4 : Tryd.prog.cellsOf 28 = 1 := by kernel_rfl
  rw [show Tryd.prog.cellsOf 30 = 4 by kernel_rfl] at hsz
  obtain ⟨u0, u1, u2, u3, rfl⟩ : ∃ u0 u1 u2 u3, vs = #[u0, u1, u2, u3] := by
    obtain ⟨l⟩ := vs
    match l, hsz with
    | [u0, u1, u2, u3], _ => exact ⟨u0, u1, u2, u3, rfl⟩
  have g0 := hff 0 f0 rfl
  have g1 := hff 1 f1 rfl
  have g2 := hff 2 f2 rfl
  have g3 := hff 3 f3 rfl
  rw [t0, o0, c1, List.getElem?_eq_getElem (by rw [hlen]; show 0 < 4; decide)] at g0
  rw [t1, o1, c2, List.getElem?_eq_getElem (by rw [hlen]; show 1 < 4; decide)] at g1
  rw [t2, o2, c3, List.getElem?_eq_getElem (by rw [hlen]; show 2 < 4; decide)] at g2
  rw [t3, o3, c4, List.getElem?_eq_getElem (by rw [hlen]; show 3 < 4; decide)] at g3
  have L1 := hL.struct hs (j := 1) (f := f1) rfl (by rw [List.getElem?_map, List.getElem?_eq_getElem (by rw [hlen]; show 1 < 4; decide)]; rfl)
  have L2 := hL.struct hs (j := 2) (f := f2) rfl (by rw [List.getElem?_map, List.getElem?_eq_getElem (by rw [hlen]; show 2 < 4; decide)]; rfl)
  have L3 := hL.struct hs (j := 3) (f := f3) rfl (by rw [List.getElem?_map, List.getElem?_eq_getElem (by rw [hlen]; show 3 < 4; decide)]; rfl)
  rw [t1] at L1
  rw [t2] at L2
  rw [t3] at L3
  obtain ⟨p, hp, -⟩ := DataW.trod_bool Tryd.underlying4 g0
  obtain ⟨ρ1, A1, a1, n1, k1, l1, w1, hw1, s1, e1, r1, w1', b1⟩ := arg_ints hA g1 L1
  obtain ⟨ρ2, A2, a2, n2, k2, l2, w2, hw2, s2, e2, r2, w2', z2, b2⟩ := arg_lists s1 g2 L2
  obtain ⟨ρ3, A3, a3, n3, k3, l3, w3, hw3, s3, e3, r3, w3', z3, b3⟩ := arg_lets s2 g3 L3
  simp [Value.cells] at hp hw1 hw2 hw3
  subst hp hw1 hw2 hw3
  refine ⟨ρ3, A3, ⟨p, l1, l2, l3⟩, a1, n1, k1, a2, n2, k2, a3, n3, k3, s3, e1.trans (e2.trans e3), ?_, ⟨w1'.ext s1.wf (e2.trans e3).ext, w2'.ext s2.wf e3.ext, w3'⟩, ⟨z3, z2⟩, b1, b2, b3⟩
  exact VRel.mkAgg (xs := [.bool p, .slice a1 n1 k1, .slice a2 n2 k2, .slice a3 n3 k3]) (ys := [.bool p, u1, u2, u3]) ⟨.bool _, (e2.trans e3).rel _ _ r1, e3.rel _ _ r2, r3, trivial⟩
end
end Go.AX.Tryd
