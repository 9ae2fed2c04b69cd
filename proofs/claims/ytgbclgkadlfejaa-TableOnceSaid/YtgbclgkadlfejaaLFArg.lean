/- A list of formulas as an argument: what a law over one walks on. -/
import Derived.Test.YtgbclgkadlfejaaLForms
import Derived.Test.YtgbclgkadlfejaaLOnce
namespace Go.AX.Lw
open Go Go.AX Go.RowKit Go.ChangeShapes Go.WideShapes
set_option linter.unusedVariables false
def pairs : List (Int × Int) → List Value
  | [] => []
  | z :: r => .int .u8 z.1 :: .int .u8 z.2 :: pairs r
theorem pairs_get : ∀ (l : List (Int × Int)) (j : Nat) (v : Value), (pairs l)[j]? = some v → ∃ i z, l[i]? = some z ∧ ((j = i * 2 ∧ v = .int .u8 z.1) ∨ (j = i * 2 + 1 ∧ v = .int .u8 z.2))
  | [], j, v, h => by simp [pairs] at h
  | z :: r, 0, v, h => by simp [pairs] at h; exact ⟨0, z, rfl, .inl ⟨rfl, h.symm⟩⟩
  | z :: r, 1, v, h => by simp [pairs] at h; exact ⟨0, z, rfl, .inr ⟨rfl, h.symm⟩⟩
  | z :: r, j + 2, v, h => by
    simp only [pairs, List.getElem?_cons_succ] at h
    obtain ⟨i, y, hi, h⟩ := pairs_get r j v h
    exact ⟨i + 1, y, by simpa using hi, by
      rcases h with ⟨h, hv⟩ | ⟨h, hv⟩
      · exact .inl ⟨by omega, hv⟩
      · exact .inr ⟨by omega, hv⟩⟩
theorem pairs_at : ∀ (l : List (Int × Int)) (i : Nat) (z : Int × Int), l[i]? = some z → (pairs l)[i * 2]? = some (.int .u8 z.1) ∧ (pairs l)[i * 2 + 1]? = some (.int .u8 z.2)
  | [], i, z, h => by simp at h
  | y :: r, 0, z, h => by simp at h; subst h; simp [pairs]
  | y :: r, i + 1, z, h => by
    have := pairs_at r i z (by simpa using h)
    rw [show (i + 1) * 2 = i * 2 + 2 by omega]
    simpa [pairs] using this
def innerV (i : Nat) : Value → Value
  | .slice (some _) n c => .slice (some ⟨i + 1, 0, none⟩) n c
  | v => v
def innerA (d : Nat × Nat) : Value → Option (Nat × Nat)
  | .slice (some a) _ c => if c = 0 then some d else some (a.block, a.off)
  | _ => none
theorem u8_nat {z : Int} (h : (Lit.int .u8 z).wf = true) : ∃ m : Nat, z = m := by
  have : IntKind.u8.min ≤ z ∧ z ≤ IntKind.u8.max := by simpa [Lit.wf] using h
  have h1 : IntKind.u8.min = 0 := by decide
  exact ⟨z.toNat, by omega⟩
theorem cell_lt {W : World} {a : Addr} {v : Value} (h : W.cell? a = some v) : a.block < W.heap.size := by
  by_cases hb : a.block < W.heap.size
  · exact hb
  · exfalso
    have : W.heap[a.block]? = none := Array.getElem?_eq_none (by omega)
    unfold World.cell? at h
    simp [this] at h
end Go.AX.Lw
namespace Go.AX.Try
open Go Go.AX Go.AX.Lw Go.Proofs Go.RowKit Go.ChangeShapes Go.WideShapes
set_option linter.unusedVariables false
def tkOf (z : Int × Int) : Tk := ⟨z.1.toNat, z.2.toNat⟩
theorem arg_forms {H : Type} {W : World} {v : Value} {o : Option (Nat × Nat)} {n c : Nat} {vs : List Value} {zss : List (List (Int × Int))} {ds : List (DataW H)} (hl : Lies W v o n c vs) (hz : zss.length = n) (hd : ds.length = n)
    (h : ∀ (i : Nat) (u : Value) (zs : List (Int × Int)) (y : DataW H), vs[i]? = some u → zss[i]? = some zs → ds[i]? = some y → FmOk W .u8 .u8 u zs y) :
    ∃ (ads : List (Option (Nat × Nat))) (bs : List (List Value)) (a : Option Addr), Sim (argRho ads) W.heap.size (argH bs) W ∧ ads.length ≤ bs.length ∧ VRel (argRho ads) (.slice a n c) v ∧ Forms (argH bs) a n c (zss.map fun zs => zs.map tkOf) := by
  have hn := hl.len
  have hfm : ∀ (i : Nat) u, vs[i]? = some u → ∃ zs y, zss[i]? = some zs ∧ FmOk (H := H) W .u8 .u8 u zs y := fun i u hu => by
    have hi := (List.getElem?_eq_some_iff.1 hu).1
    exact ⟨_, _, List.getElem?_eq_getElem (by omega), h i u _ _ hu (List.getElem?_eq_getElem (by omega)) (List.getElem?_eq_getElem (by omega))⟩
  refine ⟨o :: vs.map (innerA (o.getD (0, 0))), (vs.mapIdx innerV) :: zss.map pairs, o.map fun _ => ⟨0, 0, none⟩, ?_, by simp [hz, hn], ?_, ?_⟩
  · refine sim_args (fun c k hm => ?_) (fun i cs c k hb ha => ?_)
    · rw [List.mem_cons] at hm
      rcases hm with hm | hm
      · exact hl.lt _ hm.symm
      · obtain ⟨u, hu, he⟩ := List.mem_map.1 hm
        obtain ⟨i, hi⟩ := List.mem_iff_getElem?.1 hu
        obtain ⟨zs, y, hzs, hok⟩ := hfm i u hi
        rcases hok with ⟨rfl, -, -⟩ | ⟨a, ln, cp, r, rfl, g1, gm, g2, g3, g4, g5, g6⟩
        · cases he
        · simp only [innerA] at he
          split at he
          · simp only [Option.some.injEq] at he
            cases ho : o with
            | none => have := (hl.nil ho).1; have := (List.getElem?_eq_some_iff.1 hi).1; omega
            | some x => rw [ho] at he; simp only [Option.getD_some] at he; subst he; exact hl.lt _ ho
          · rename_i hcp
            obtain ⟨w, hw⟩ := g6 (by omega)
            cases he
            exact cell_lt hw
    · cases i with
      | zero =>
        simp only [List.getElem?_cons_zero, Option.some.injEq] at hb ha
        subst hb; subst ha
        intro j v' hv'
        rw [List.getElem?_mapIdx, Option.map_eq_some_iff] at hv'
        obtain ⟨u, hu, rfl⟩ := hv'
        refine ⟨u, hl.cell (c, k) j u rfl hu, ?_⟩
        obtain ⟨zs, y, hzs, hok⟩ := hfm j u hu
        rcases hok with ⟨rfl, -, -⟩ | ⟨a, ln, cp, r, rfl, g1, gm, g2, g3, g4, g5, g6⟩
        · exact .snil 0 0
        · refine .slice ?_
          unfold SRel
          by_cases hcp : cp = 0
          · rw [argRho_of (c := c) (k := k) (by simp [List.getElem?_map, hu, innerA, hcp])]
            exact ⟨.inl hcp, rfl⟩
          · rw [argRho_of (c := a.block) (k := a.off) (by simp [List.getElem?_map, hu, innerA, hcp])]
            obtain ⟨w, hw⟩ := g6 (by omega)
            have := World.cell?_spot hw
            obtain ⟨b, off, spot⟩ := a
            obtain rfl : spot = none := this
            exact ⟨.inr rfl, rfl⟩
      | succ i =>
        simp only [List.getElem?_cons_succ, List.getElem?_map, Option.map_eq_some_iff] at hb ha
        obtain ⟨zs, hzs, rfl⟩ := hb
        obtain ⟨u, hu, he⟩ := ha
        intro j v' hv'
        obtain ⟨q, z, hq, hv⟩ := pairs_get zs j v' hv'
        obtain ⟨zs', y, hzs', hok⟩ := hfm i u hu
        rw [hzs] at hzs'; cases hzs'
        rcases hok with ⟨rfl, rfl, -⟩ | ⟨a, ln, cp, r, rfl, g1, gm, g2, g3, g4, g5, g6⟩
        · simp at hq
        · have hc0 : cp ≠ 0 := by have := (List.getElem?_eq_some_iff.1 hq).1; omega
          simp only [innerA, hc0, if_false, Option.some.injEq, Prod.mk.injEq] at he
          obtain ⟨rfl, rfl⟩ := he
          obtain ⟨w, hw⟩ := g6 (by omega)
          have hs := World.cell?_spot hw
          obtain ⟨b, off, spot⟩ := a
          obtain rfl : spot = none := hs
          have := g5 q z hq
          rw [add_plain, add_plain] at this
          rcases hv with ⟨rfl, rfl⟩ | ⟨rfl, rfl⟩
          · exact ⟨_, this.1, .int _ _⟩
          · exact ⟨_, by rw [show off + (q * 2 + 1) = off + (q * 2 + 1) from rfl]; exact this.2, .int _ _⟩
  · rw [hl.val]
    cases o with
    | none => exact .snil n c
    | some x =>
      refine .slice ?_
      unfold SRel
      rw [argRho_of (c := x.1) (k := x.2) rfl]
      exact ⟨.inr rfl, rfl⟩
  · refine ⟨vs.mapIdx innerV, ?_, by simp [hz, hn], fun j w hw => ?_⟩
    · cases ho : o with
      | none =>
        have := hl.nil ho
        have hv0 : vs = [] := List.length_eq_zero_iff.1 (by omega)
        subst hv0
        exact ⟨this.1, hl.cap, fun i x hx => by simp at hx⟩
      | some x => exact Row.of_block (by rw [argH_get]; rfl) (by simp [hn]) hl.cap (List.prefix_refl _)
    · rw [List.getElem?_mapIdx, Option.map_eq_some_iff] at hw
      obtain ⟨u, hu, rfl⟩ := hw
      obtain ⟨zs, y, hzs, hok⟩ := hfm j u hu
      rcases hok with ⟨rfl, rfl, -⟩ | ⟨a, ln, cp, r, rfl, g1, gm, g2, g3, g4, g5, g6⟩
      · exact ⟨none, 0, 0, [], rfl, by rw [List.getElem?_map, hzs]; rfl, ⟨rfl, Nat.le_refl _, by simp, fun i x h => by simp at h⟩, by decide⟩
      · refine ⟨_, ln, cp, zs.map tkOf, rfl, by rw [List.getElem?_map, hzs]; rfl, ⟨by simp [g2], g1, (by intro x hx; obtain ⟨t, _, rfl⟩ := List.mem_map.1 hx; rfl), fun i x hx => ?_⟩, by omega⟩
        rw [List.map_map, List.getElem?_map, Option.map_eq_some_iff] at hx
        obtain ⟨z, hz1, rfl⟩ := hx
        obtain ⟨w1, w2⟩ := g4 z (List.mem_of_getElem? hz1)
        obtain ⟨p, hp⟩ := u8_nat w1
        obtain ⟨q, hq⟩ := u8_nat w2
        obtain ⟨z1, z2⟩ := z
        dsimp only at hp hq
        subst hp; subst hq
        refine ⟨j + 1, 0, none, rfl, ?_⟩
        have hg : (argH ((vs.mapIdx innerV) :: zss.map pairs)).get (j + 1) = some (.cells (pairs zs) 0 false) := by
          rw [argH_get, List.getElem?_cons_succ, List.getElem?_map, hzs]; rfl
        unfold cellsAt
        rw [hg]
        refine takeN_of 2 _ _ rfl fun m y hy => ?_
        rw [dropN_get]
        obtain ⟨k1, k2⟩ := pairs_at zs i _ hz1
        rw [Nat.zero_add]
        match m, hy with
        | 0, hy => simp [tkOf, Tk.cells] at hy; subst hy; exact k1
        | 1, hy => simp [tkOf, Tk.cells] at hy; subst hy; exact k2
        | m + 2, hy => simp [tkOf, Tk.cells] at hy
end Go.AX.Try
