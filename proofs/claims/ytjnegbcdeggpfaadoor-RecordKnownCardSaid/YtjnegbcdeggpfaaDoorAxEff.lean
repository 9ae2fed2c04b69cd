/- Operations that write memory. -/
import Derived.Test.YtjnegbcdeggpfaaDoorAxMem
namespace Go.AX
open Go Go.RowKit
set_option linter.unusedVariables false
set_option linter.unusedSimpArgs false

variable {P : Program}

theorem setCells_other (b : Nat) : ∀ (vs : List Value) (o : Nat) (w : World), (w.setCells b o vs).os = w.os ∧ (w.setCells b o vs).tape = w.tape ∧ (w.setCells b o vs).output = w.output ∧
    (w.setCells b o vs).heap.size = w.heap.size ∧ ∀ q, q ≠ b → (w.setCells b o vs).heap[q]? = w.heap[q]?
  | [], o, w => ⟨rfl, rfl, rfl, rfl, fun _ _ => rfl⟩
  | v :: r, o, w => by
    obtain ⟨h1, h2, h3, h4, h5⟩ := setCells_other b r (o + 1) (w.setCell ⟨b, o, none⟩ v)
    refine ⟨h1, h2, h3, h4.trans (by simp [World.setCell]), fun q hq => (h5 q hq).trans (Below.heap_setCell _ _ _ _ hq)⟩

/-- A store changes no row's type and length. -/
theorem setCells_type (b : Nat) {T : TypeId} : ∀ (vs : List Value) (o : Nat) (w : World) {cs : Array Value} {fr : Nat × Nat}, w.heap[b]? = some (.cells cs T fr) → ∃ cs', (w.setCells b o vs).heap[b]? = some (.cells cs' T fr) ∧ cs'.size = cs.size
  | [], o, w, cs, fr, h => ⟨cs, h, rfl⟩
  | v :: r, o, w, cs, fr, h => by
    have h1 : ∃ cs1, (w.setCell ⟨b, o, none⟩ v).heap[b]? = some (.cells cs1 T fr) ∧ cs1.size = cs.size := by
      simp [World.setCell, Array.getElem?_modify, h]
    obtain ⟨cs1, e1, e2⟩ := h1
    obtain ⟨cs2, e3, e4⟩ := setCells_type b r (o + 1) (w.setCell ⟨b, o, none⟩ v) e1
    exact ⟨cs2, e3, e4.trans e2⟩

/-- The relation hangs on the blocks alone. -/
theorem Sim.of_heap {ρ : Rho} {base : Nat} {H : AHeap} {w w' : World} (h : Sim ρ base H w) (e : w'.heap = w.heap) : Sim ρ base H w' where
  alive := h.alive
  bsz := by rw [e]; exact h.bsz
  inb b c k x hb := by rw [e]; exact h.inb b c k x hb
  obj b o hb := (h.obj b o hb).keep (Mono.refl 0 ρ) (by omega) fun _ _ _ _ => by rw [e]
  apart := h.apart

theorem cells_own {H : AHeap} {b esz : Nat} {cs : List Value} (h : H.get b = some (.cells cs esz true)) : ownB H b := by simp [ownB, h]

/-- A store into a row of one's own. -/
theorem store_own {ρ : Rho} {base : Nat} {H : AHeap} {w : World} (hs : Sim ρ base H w) {b c k x o esz : Nat} {cs cs' vs ws : List Value} (hg : H.get b = some (.cells cs esz true)) (hb : ρ b = .live c k x)
    (hp : putAt cs o vs = some cs') (hv : VsRel ρ vs ws) (h1 : ∀ v ∈ ws, v.oneCell' = true) :
    (storeCells ⟨c, k + o, none⟩ ws).run P w = .ok () (w.setCells c (k + o) ws) ∧ Sim ρ base (H.set b (.cells cs' esz true)) (w.setCells c (k + o) ws) ∧ Step ρ H w ρ (H.set b (.cells cs' esz true)) (w.setCells c (k + o) ws) := by
  have hob := hs.obj b _ hg
  simp only [ObjRel, hb] at hob
  obtain ⟨hcells, hown, hext, hx0⟩ := hob
  obtain ⟨q1, q2, q3⟩ := putAt_get _ _ _ _ hp
  have hlen := hv.length
  have hth : w.there c (k + o) ws.length := fun j hj => by
    have : vs ≠ [] := fun e => by rw [e] at hlen; simp at hlen; omega
    have := q2 this
    have := (hown trivial).2 (o + j) (by omega)
    rwa [← Nat.add_assoc] at this
  obtain ⟨g1, g2, g3, g4, g5⟩ := setCells_other c ws (k + o) w
  have hrun := run_storeCells_cells (P := P) c (k + o) ws 0 w (fun j hj => (hth j hj).1) (fun j hj => (hth j hj).2) h1
  refine ⟨by simpa using hrun, ?_⟩
  refine sim_set hs (cells_own hg) hb g1 g2 g3 g4 g5 ?_
  simp only [ObjRel, hb]
  refine ⟨fun i v hi => ?_, fun _ => ⟨(hown trivial).1, ?_⟩, fun h => ?_, hx0.1, fun h => ?_⟩
  · rw [q3] at hi
    split at hi
    · rename_i hr
      obtain ⟨v', hv', hr'⟩ := hv.get _ _ hi
      have hj : i - o < ws.length := (List.getElem?_eq_some_iff.1 hv').1
      have := World.cell?_setCells_in c ws (k + o) w (fun j hj => (hth j hj).1) (i - o) hj
      rw [show k + o + (i - o) = k + i by omega] at this
      refine ⟨v', ?_, hr'⟩
      rw [this, ← hv', List.getElem?_eq_getElem hj]
    · rename_i hr
      obtain ⟨v', hv', hr'⟩ := hcells i v hi
      refine ⟨v', ?_, hr'⟩
      rw [World.cell?_setCells_out c ws (k + o) w ⟨c, k + i, none⟩ (fun _ _ => by show k + i < k + o ∨ k + o + ws.length ≤ k + i; omega)]
      exact hv'
  · rw [q1]; exact World.there_setCells (hown trivial).2 _ _ _
  · rw [q1]; exact World.there_setCells (hext h) _ _ _
  · obtain ⟨ds, ty, fr, hd, hn0, hn1, hn⟩ := hx0.2 h
    obtain ⟨ds', hd', hn'⟩ := setCells_type c ws (k + o) w hd
    exact ⟨ds', ty, fr, hd', hn0, hn1, fun h0 => ⟨(hn h0).1, by rw [hn', (hn h0).2.1, q1], (hn h0).2.2⟩⟩

theorem allOne_rel {ρ : Rho} {vs ws : List Value} (h : allOne vs = true) (hv : VsRel ρ vs ws) : ∀ v ∈ ws, v.oneCell' = true := by
  intro v hm
  obtain ⟨i, hi⟩ := List.getElem?_of_mem hm
  have hl : i < ws.length := (List.getElem?_eq_some_iff.1 hi).1
  have hl' : i < vs.length := by rw [hv.length]; exact hl
  obtain ⟨v', h1, h2⟩ := hv.get i vs[i] (List.getElem?_eq_getElem hl')
  rw [hi] at h1; cases h1
  rw [← h2.one]
  exact (List.all_eq_true.1 h) _ (List.getElem_mem hl')

theorem live_of_cells {ρ : Rho} {base : Nat} {H : AHeap} {w : World} (hs : Sim ρ base H w) {b o : Nat} {ob : AObj} (hg : H.get b = some ob) (hd : ob ≠ .dead) {a : Addr} (hp : PRel ρ b o a) : ∃ c k x, ρ b = .live c k x ∧ a = ⟨c, k + o, none⟩ := by
  cases hr : ρ b with
  | no => simp [PRel, hr] at hp
  | gone x => rcases hs.alive b x hr with e | e <;> rw [hg] at e
              · cases e
              · cases e; exact (hd rfl).elim
  | live c k x => exact ⟨c, k, x, rfl, by simpa [PRel, hr] using hp⟩

/-- A store. -/
theorem astore_run {ρ : Rho} {base : Nat} {H : AHeap} {w : World} (hs : Sim ρ base H w) {t : TypeId} {x x' y y' v : Value} {H' : AHeap} {e : Ev} (h : aStore P H t x y = some (.val v H' e)) (hx : VRel ρ x x') (hy : VRel ρ y y') :
    e = .eff H H' ∧ v = undef ∧ ∃ w', (Instr.storeAt t x' y').run P w = .ok () w' ∧ Ok ρ base H w ρ H' w' := by
  unfold aStore at h
  split at h
  · rename_i b o n hn
    cases hx
    rename_i a' hp
    cases hc : Nat.beq y.cells.size n && allOne y.cells.toList with
    | false => simp [hc] at h
    | true =>
      simp only [hc, cond_true] at h
      rw [Bool.and_eq_true] at hc
      have hsz : y.cells.size = n := Nat.eq_of_beq_eq_true hc.1
      split at h
      · rename_i cs opn hg
        split at h
        · rename_i cs' hcs
          simp at h
          obtain ⟨rfl, rfl, rfl⟩ := h
          obtain ⟨c, k, x, hr, rfl⟩ := live_of_cells hs hg (by simp) hp
          obtain ⟨r1, r2, r3⟩ := store_own (P := P) hs hg hr hcs hy.cells (allOne_rel hc.2 hy.cells)
          refine ⟨rfl, rfl, _, ?_, ⟨Mono.refl _ _, r2, r3⟩⟩
          have hne : ¬ (y'.cells.size ≠ n) := by rw [← hy.size, hsz]; simp
          simp only [Instr.storeAt, Instr.sureAddr, storeVar, Sem.run_bind, Sem.run_pure, Result.andThen_ok, run_size hn]
          rw [if_neg hne]
          exact r1
        · cases h
      · cases h
  · cases h
end Go.AX
