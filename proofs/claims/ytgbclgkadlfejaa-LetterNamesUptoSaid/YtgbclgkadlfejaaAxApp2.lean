/- append, over the abstract memory. -/
import Derived.Test.YtgbclgkadlfejaaAxApp
namespace Go.AX
open Go Go.RowKit
set_option linter.unusedVariables false
set_option linter.unusedSimpArgs false

variable {P : Program}

theorem Sim.congr {ρ : Rho} {base : Nat} {H H' : AHeap} {w : World} (h : Sim ρ base H w) (e : ∀ b, H'.get b = H.get b) : Sim ρ base H' w where
  alive b x hb := by rw [e]; exact h.alive b x hb
  bsz := h.bsz
  inb := h.inb
  obj b o hb := h.obj b o (by rw [← e]; exact hb)
  apart b b' c k x k' x' ho := h.apart b b' c k x k' x' (by simpa [ownB, e] using ho)
theorem Step.congr {ρ ρ' : Rho} {H H' H1 : AHeap} {w w' : World} (h : Step ρ H w ρ' H' w') (e : ∀ b, H1.get b = H'.get b) : Step ρ H w ρ' H1 w' :=
  ⟨h.os, h.tape, h.output, h.size, h.block, fun b c k x ho => h.own b c k x (by simpa [ownB, e] using ho), fun b c k x h1 h2 => ⟨(h.keep b c k x h1 h2).1, fun h3 => (h.keep b c k x h1 h2).2 (by simpa [ownB, e] using h3)⟩, h.src⟩
theorem push_get (H : AHeap) (o : AObj) (b : Nat) : (H.push o).get b = (H.set H.next o).get b := by rw [AHeap.get_push, AHeap.get_set]

theorem Step.of_heap {ρ : Rho} {H : AHeap} {w w' : World} (e : w'.heap = w.heap) (h1 : w'.os = w.os) (h2 : w'.tape = w.tape) (h3 : w'.output = w.output) : Step ρ H w ρ H w' :=
  ⟨h1, h2, h3, by rw [e]; exact Nat.le_refl _, fun c _ _ => by rw [e], fun b c k x ho hl => .inr ⟨b, k, x, ho, hl⟩, fun _ _ _ _ h1 h2 => ⟨h1, h2⟩, fun _ _ _ _ h => .inl h⟩

/-- A block that an append has made: in a new row. -/
theorem grow_ok {ρ : Rho} {base : Nat} {H : AHeap} {w : World} (hs : Sim ρ base H w) {cs olds news : List Value} {z : Array Value} {size code need cap : Nat} {e : TypeId} (hf : ρ H.next = .no) (hv : VsRel ρ cs (olds ++ news))
    (hz : z.size = size) (hsz : size ≠ 0) (hcode : szOf code = size) (hct : 1073741824 ≤ code → e = tyOf code) (hcap : need ≤ cap) :
    VRel (upd ρ H.next (.live w.heap.size 0 (cap - need))) (.slice (some ⟨H.next, 0, some 0⟩) need need) (.slice (some ⟨w.heap.size, 0, none⟩) need cap) ∧
    Ok ρ base H w (upd ρ H.next (.live w.heap.size 0 (cap - need))) (H.push (.cells cs code true)) (w.drew.alloc (.cells (olds.toArray ++ news.toArray ++ Builtin.zeroCells z (cap - need)) e)) := by
  have hs' : Sim ρ base H w.drew := hs.of_heap rfl
  have hm : Mono H.next (H.next + 1) ρ (upd ρ H.next (.live w.heap.size 0 (cap - need))) := ⟨fun c hc => .inl (upd_ne _ _ (by omega)), fun c h1 h2 => (show c = H.next by omega) ▸ hf⟩
  have hob : ObjRel (upd ρ H.next (.live w.heap.size 0 (cap - need))) base (w.drew.alloc (.cells (olds.toArray ++ news.toArray ++ Builtin.zeroCells z (cap - need)) e)) H.next (.cells cs code true) := by
    refine obj_new (w := w.drew) (x := cap - need) (upd_same _ _ _) hs.bsz (ds := olds ++ news) (rest := repZ z.toList (cap - need)) ?_ (hv.mono hm) (fun h => absurd (hcode.symm.trans h) hsz) (fun _ => ?_) (fun h => ⟨hct h, fun h0 => absurd (hcode.symm.trans h0) hsz⟩)
    · rw [Array.toList_append, Array.toList_append, zeroCells_list]
    · rw [repZ_get, Array.length_toList, hz, hcode]; exact Nat.le_refl _
  obtain ⟨r1, r2⟩ := sim_new (O := .cells (olds.toArray ++ news.toArray ++ Builtin.zeroCells z (cap - need)) e) hs' hf hob
  refine ⟨.slice ?_, hm, r1.congr (push_get H _), ?_⟩
  · simp only [SRel, upd_same]; exact ⟨.inr (by simp), by omega⟩
  · have h0 : Step ρ H w ρ H w.drew := .of_heap rfl rfl rfl rfl
    exact (h0.trans r2).congr (push_get H _)

theorem there_split {w : World} {c k n m : Nat} (h1 : w.there c k n) (h2 : w.there c (k + n) m) : w.there c k (n + m) := fun j hj => by
  by_cases e : j < n
  · exact h1 j e
  · have := h2 (j - n) (by omega)
    rwa [show k + n + (j - n) = k + j by omega] at this
theorem there_sub {w : World} {c k n k' n' : Nat} (h : w.there c k n) (h1 : k ≤ k') (h2 : k' + n' ≤ k + n) : w.there c k' n' := fun j hj => by
  have := h (k' - k + j) (by omega)
  rwa [show k + (k' - k + j) = k' + j by omega] at this

/-- A block whose room was unknown, and turns out to be enough. -/
theorem place_ok {ρ : Rho} {base : Nat} {H : AHeap} {w : World} (hs : Sim ρ base H w) {b c k x o size code len cap n cap' : Nat} {cs old new news : List Value} (hf : ρ H.next = .no) (hg : H.get b = some (.cells cs code true)) (hb : ρ b = .live c k x)
    (hsz : size ≠ 0) (hcode : szOf code = size) (hcs : o + cap * size = cs.length) (hlc : len ≤ cap) (hold : takeN (len * size) (dropN o cs) = some old) (hnew : VsRel ρ new news) (hnl : new.length = n * size) (hneed : cap < len + n) (hcap : cap' = cap + x) (hroom : len + n ≤ cap') (h1 : ∀ v ∈ news, v.oneCell' = true) :
    ∃ ρ', (storeCells ⟨c, k + o + len * size, none⟩ news).run P w = .ok () (w.setCells c (k + o + len * size) news) ∧
    VRel ρ' (.slice (some ⟨H.next, 0, some 0⟩) (len + n) (len + n)) (.slice (some ⟨c, k + o, none⟩) (len + n) cap') ∧
    Ok ρ base H w ρ' ((H.set b .dead).push (.cells (old ++ new) code true)) (w.setCells c (k + o + len * size) news) := by
  have hob := hs.obj b _ hg
  simp only [ObjRel, hb] at hob
  obtain ⟨hcells, hown, hext, hx0⟩ := hob
  rw [hcode] at hext
  have hlen := hnew.length
  have e1 : (cap + x) * size = cap * size + x * size := Nat.add_mul _ _ _
  have e2 : (len + n) * size = len * size + n * size := Nat.add_mul _ _ _
  have e3 : (len + n) * size ≤ (cap + x) * size := Nat.mul_le_mul_right _ (by omega)
  have hlcs : len * size ≤ cap * size := Nat.mul_le_mul_right _ hlc
  have hall : w.there c k (cs.length + x * size) := there_split (hown trivial).2 (hext hsz)
  have hth : w.there c (k + o + len * size) news.length := there_sub hall (by omega) (by omega)
  obtain ⟨g1, g2, g3, g4, g5⟩ := setCells_other c news (k + o + len * size) w
  have hrun := run_storeCells_cells (P := P) c (k + o + len * size) news 0 w (fun j hj => (hth j hj).1) (fun j hj => (hth j hj).2) h1
  obtain ⟨ol, og⟩ := takeN_get hold
  -- the old block goes
  obtain ⟨s1, s2, s3⟩ := sim_kill hs (cells_own hg) hb
  have hnb : H.next ≠ b := fun e => by rw [e, hb] at hf; cases hf
  obtain ⟨ρ1, hρ1⟩ : ∃ ρ1, ρ1 = upd ρ b (.gone x) := ⟨_, rfl⟩
  rw [← hρ1] at s1 s2 s3
  have hf1 : ρ1 H.next = .no := by rw [hρ1, upd_ne _ _ hnb]; exact hf
  have hfree : ∀ d k1 x1, ρ1 d = .live c k1 x1 → False := fun d k1 x1 hd => by
    rw [hρ1] at hd
    by_cases e : d = b
    · subst e; rw [upd_same] at hd; cases hd
    · rw [upd_ne _ _ e] at hd
      exact e (hs.apart b d c k x k1 x1 (cells_own hg) hb hd).symm
  obtain ⟨ρ2, hρ2⟩ : ∃ ρ2, ρ2 = upd ρ1 H.next (.live c (k + o) (cap' - (len + n))) := ⟨_, rfl⟩
  have hm2 : Mono H.next (H.next + 1) ρ1 ρ2 := by rw [hρ2]; exact ⟨fun d hd => .inl (upd_ne _ _ (by omega)), fun d h1 h2 => (show d = H.next by omega) ▸ hf1⟩
  have hm : Mono H.next (H.next + 1) ρ ρ2 := s3.trans hm2 (Nat.le_refl _) (by omega)
  obtain ⟨w', hw'⟩ : ∃ w', w' = w.setCells c (k + o + len * size) news := ⟨_, rfl⟩
  rw [← hw'] at g1 g2 g3 g4 g5
  refine ⟨ρ2, by simpa using hrun, .slice ?_, ?_⟩
  · rw [hρ2]; simp only [SRel, upd_same]; exact ⟨.inr (by simp), by omega⟩
  rw [← hw']
  refine ⟨hm, ⟨?_, ?_, ?_, ?_, ?_⟩, ⟨g1, g2, g3, by rw [g4]; exact Nat.le_refl _, ?_, ?_, ?_, ?_⟩⟩
  · intro d y hd
    rw [AHeap.get_push]
    by_cases e : d = H.next
    · subst e; rw [hρ2, upd_same] at hd; cases hd
    · rw [if_neg (by simpa using e)]
      rw [hρ2, upd_ne _ _ e] at hd
      exact s1.alive d y hd
  · rw [g4]; exact hs.bsz
  · intro d q1 q2 q3 hd
    rw [g4]
    by_cases e : d = H.next
    · subst e; rw [hρ2, upd_same] at hd; cases hd; exact hs.inb b _ _ _ hb
    · rw [hρ2, upd_ne _ _ e] at hd; exact s1.inb d _ _ _ hd
  · intro d ob hd
    rw [AHeap.get_push] at hd
    split at hd
    · rename_i e
      have e' : d = H.next := by simpa using e
      cases hd
      subst e'
      have hl2 : ρ2 H.next = .live c (k + o) (cap' - (len + n)) := by rw [hρ2, upd_same]
      simp only [ObjRel, hl2]
      refine ⟨fun i v hi => ?_, fun _ => ⟨(hown trivial).1, ?_⟩, fun _ => ?_, fun h => absurd (hcode.symm.trans h) hsz, fun h => ?_⟩
      · by_cases hi2 : i < len * size
        · rw [List.getElem?_append_left (by omega), og i hi2, dropN_get] at hi
          obtain ⟨v', h3, h4⟩ := hcells (o + i) v hi
          refine ⟨v', ?_, (h4.mono hm)⟩
          rw [hw', World.cell?_setCells_out c news _ w ⟨c, k + o + i, none⟩ (fun _ _ => by left; show k + o + i < k + o + len * size; omega), Nat.add_assoc]
          exact h3
        · rw [List.getElem?_append_right (by omega), ol] at hi
          obtain ⟨v', h3, h4⟩ := hnew.get _ v hi
          have hj : i - len * size < news.length := (List.getElem?_eq_some_iff.1 h3).1
          have := World.cell?_setCells_in c news (k + o + len * size) w (fun j hj => (hth j hj).1) (i - len * size) hj
          rw [show k + o + len * size + (i - len * size) = k + o + i by omega] at this
          refine ⟨v', ?_, h4.mono hm⟩
          rw [hw', this, ← h3, List.getElem?_eq_getElem hj]
      · rw [hw']
        refine World.there_setCells (there_sub hall (by omega) ?_) _ _ _
        rw [List.length_append, ol, hnl]; omega
      · rw [hw']
        refine World.there_setCells (there_sub hall (by omega) ?_) _ _ _
        rw [List.length_append, ol, hnl, hcode, Nat.sub_mul, hcap]; omega
      · obtain ⟨ds, fr, hd, hn⟩ := hx0.2 h
        obtain ⟨ds', fr', hd', _⟩ := setCells_type c news (k + o + len * size) w hd
        exact ⟨ds', fr', by rw [hw']; exact hd', fun h0 => absurd (hcode.symm.trans h0) hsz⟩
    · rename_i e
      have e' : d ≠ H.next := by simpa using e
      refine (s1.obj d ob hd).keep hm2 (by omega) fun q k1 x1 hq => g5 q fun e => ?_
      subst e; exact hfree d k1 x1 hq
  · intro d d' q k1 y1 k2 y2 ho1 h1 h2
    by_cases e : d = H.next
    · by_cases e' : d' = H.next
      · rw [e, e']
      · subst e
        rw [hρ2, upd_same] at h1; rw [hρ2, upd_ne _ _ e'] at h2; cases h1
        exact (hfree d' _ _ h2).elim
    · rw [hρ2, upd_ne _ _ e] at h1
      have ho2 : ownB (H.set b .dead) d := by simpa [ownB, AHeap.get_push, e] using ho1
      by_cases e' : d' = H.next
      · subst e'; rw [hρ2, upd_same] at h2; cases h2
        exact (hfree d _ _ h1).elim
      · rw [hρ2, upd_ne _ _ e'] at h2; exact s1.apart d d' q k1 y1 k2 y2 ho2 h1 h2
  · intro q hq hn
    refine g5 q fun e => ?_
    subst e; exact hn b k x (cells_own hg) hb
  · intro d q k1 y1 ho1 h1
    by_cases e : d = H.next
    · subst e; rw [hρ2, upd_same] at h1; cases h1; exact .inr ⟨b, k, x, cells_own hg, hb⟩
    · rw [hρ2, upd_ne _ _ e] at h1
      have ho2 : ownB (H.set b .dead) d := by simpa [ownB, AHeap.get_push, e] using ho1
      exact s2.own d q k1 y1 ho2 h1
  · intro d q k1 y1 hl hn
    obtain ⟨h1, h2⟩ := s2.keep d q k1 y1 hl hn
    have e : d ≠ H.next := fun e => by rw [e, hf] at hl; cases hl
    exact ⟨by rw [hρ2, upd_ne _ _ e]; exact h1, fun h => h2 (by simpa [ownB, AHeap.get_push, e] using h)⟩
  · intro d q k1 y1 hl
    by_cases e : d = H.next
    · subst e; rw [hρ2, upd_same] at hl; cases hl; exact .inr (.inr ⟨b, k, x, cells_own hg, hb⟩)
    · rw [hρ2, upd_ne _ _ e] at hl; exact s2.src d q k1 y1 hl
end Go.AX
