/- append, whole; copy. -/
import Derived.Test.YtgbclgkadlfejaaAxApp2
namespace Go.AX
open Go Go.RowKit
set_option linter.unusedVariables false
set_option linter.unusedSimpArgs false

variable {P : Program}

theorem putAt_nil (cs : List Value) (o : Nat) : putAt cs o [] = some cs := by cases cs <;> rfl

theorem set_same {H : AHeap} {b : Nat} {o : AObj} (h : H.get b = some o) (d : Nat) : (H.set b o).get d = H.get d := by
  rw [AHeap.get_set]; split
  · rename_i e; rw [e, h]
  · rfl

/-- What append comes to, out of what the machine does with room and without. -/
theorem appTo_ok {ρ : Rho} {base0 : Nat} {H : AHeap} {w : World} (hs : Sim ρ base0 H w) {size code by_ len cap n : Nat} {base : Option Addr} {new news : List Value} {sv v : Value} {H' : AHeap} {ev : Ev} {z : Array Value} {e : TypeId}
    (h : aAppendTo H size code by_ base len cap n new = some (.val v H' ev)) (hx : VRel ρ (.slice base len cap) sv) (hnew : VsRel ρ new news) (hz : z.size = size) (hsz : size ≠ 0) (hcode : szOf code = size) (hct : 1073741824 ≤ code → e = tyOf code) (hby : by_ ≠ 0) (hf : ∀ b, H.next ≤ b → b < H'.next → ρ b = .no)
    (run : Value → Sem Value)
    (hR : ∀ (base' : Option Addr) (cap' : Nat) (w' : World), len + n ≤ cap' → (∀ a, base' = some a → (storeCells (a.add (len * size)) news).run P w = .ok () w') → (base' = none → w' = w) → (run (.slice base' len cap')).run P w = .ok (.slice base' (len + n) cap') w')
    (hG : ∀ (base' : Option Addr) (cap' : Nat) (olds : List Value), cap' < len + n → (∀ w2, w2.heap = w.heap → (Builtin.firstCells size len (.slice base' len cap')).run P w2 = .ok olds.toArray w2) → (len + n) * by_ ≤ 2 ^ 47 → len + n ≤ 2 ^ 47 →
      ∃ ncap, len + n ≤ ncap ∧ (run (.slice base' len cap')).run P w = .ok (.slice (some ⟨w.heap.size, 0, none⟩) (len + n) ncap) (w.drew.alloc (.cells (olds.toArray ++ news.toArray ++ Builtin.zeroCells z (ncap - (len + n))) e))) :
    ev = .eff H H' ∧ ∃ v' w' ρ', (run sv).run P w = .ok v' w' ∧ VRel ρ' v v' ∧ Ok ρ base0 H w ρ' H' w' := by
  unfold aAppendTo at h
  simp only at h
  cases hc : Nat.ble ((len + n) * by_) (2 ^ 47) && Nat.ble (len + n) (2 ^ 47) && Nat.beq new.length (n * size) && Nat.ble len cap && allOne new with
  | false => rw [hc] at h; simp at h
  | true =>
  rw [hc] at h
  simp only [cond_true] at h
  simp only [Bool.and_eq_true] at hc
  obtain ⟨⟨⟨⟨c1, c2⟩, c3⟩, c4⟩, c5⟩ := hc
  have hb47 : (len + n) * by_ ≤ 2 ^ 47 := Nat.le_of_ble_eq_true c1
  have hn47 : len + n ≤ 2 ^ 47 := Nat.le_of_ble_eq_true c2
  have hnl : new.length = n * size := Nat.eq_of_beq_eq_true c3
  have hlc : len ≤ cap := Nat.le_of_ble_eq_true c4
  have h1 := allOne_rel c5 hnew
  split at h
  · -- nil
    cases hx
    cases hz0 : Nat.beq (len + n) 0 with
    | true =>
      simp [hz0] at h
      obtain ⟨rfl, rfl, rfl⟩ := h
      have h0 : len + n = 0 := Nat.eq_of_beq_eq_true hz0
      refine ⟨rfl, .slice none (len + n) cap, w, ρ, hR none cap w (by omega) (fun a ha => by cases ha) (fun _ => rfl), ?_, Ok.refl hs⟩
      rw [h0]; exact .snil _ _
    | false =>
      simp only [hz0, cond_false] at h
      cases hz1 : Nat.beq cap 0 && Nat.beq len 0 with
      | false => simp [hz1] at h
      | true =>
        simp [hz1] at h
        obtain ⟨rfl, rfl, rfl⟩ := h
        rw [Bool.and_eq_true] at hz1
        have e1 : cap = 0 := Nat.eq_of_beq_eq_true hz1.1
        have e2 : len = 0 := Nat.eq_of_beq_eq_true hz1.2
        have e3 : len + n ≠ 0 := fun e => by rw [e] at hz0; simp [Nat.beq] at hz0
        obtain ⟨ncap, g1, g2⟩ := hG none cap [] (by omega) (fun w2 _ => rfl) hb47 hn47
        obtain ⟨r1, r2⟩ := grow_ok (cs := new) (olds := []) (e := e) (need := len + n) hs (hf H.next (Nat.le_refl _) (by simp)) (by simpa using hnew) hz hsz hcode hct g1
        exact ⟨rfl, _, _, _, g2, r1, r2⟩
  · rename_i b o s
    cases hx
    rename_i a' cap' hsr
    have hcc : cap ≤ cap' := by
      cases hr : ρ b with
      | no => simp [SRel, hr] at hsr
      | gone x => simp only [SRel, hr] at hsr; omega
      | live c k x => simp only [SRel, hr] at hsr; omega
    have hval : VRel ρ (.slice (some ⟨b, o, s⟩) (len + n) cap) (.slice (some a') (len + n) cap') := .slice hsr
    cases hle : Nat.ble (len + n) cap with
    | true =>
      simp only [hle, cond_true] at h
      have hroom : len + n ≤ cap := Nat.le_of_ble_eq_true hle
      have hstay : n = 0 → (run (.slice (some a') len cap')).run P w = .ok (.slice (some a') (len + n) cap') w := fun h0 => by
        have : news = [] := by
          have : news.length = 0 := by rw [← hnew.length, hnl, h0, Nat.zero_mul]
          exact List.eq_nil_of_length_eq_zero this
        refine hR _ _ _ (by omega) (fun a ha => ?_) (fun h => by cases h)
        rw [this]; rfl
      split at h
      · rename_i cs opn own hg
        cases hon : own || Nat.beq n 0 with
        | false => simp [hon] at h
        | true =>
          simp only [hon, cond_true] at h
          split at h
          · rename_i cs' hcs
            simp at h
            obtain ⟨rfl, rfl, rfl⟩ := h
            by_cases h0 : n = 0
            · have hnil : new = [] := List.eq_nil_of_length_eq_zero (by rw [hnl, h0, Nat.zero_mul])
              rw [hnil, putAt_nil] at hcs
              cases hcs
              have hsame := set_same hg
              exact ⟨rfl, _, w, ρ, hstay h0, hval, ⟨Mono.refl _ _, hs.congr hsame, (Step.refl _ _ _).congr hsame⟩⟩
            · have hown : own = true := by
                cases own with
                | true => rfl
                | false => simp at hon; exact (h0 hon).elim
              subst hown
              have hp := slice_addr hsr (by omega)
              obtain ⟨c, k, x, hr, rfl⟩ := live_of_cells hs hg (by simp) hp
              obtain ⟨r1, r2, r3⟩ := store_own (P := P) hs hg hr hcs hnew h1
              refine ⟨rfl, _, _, ρ, hR _ _ _ (by omega) (fun a ha => ?_) (fun h => by cases h), hval, ⟨Mono.refl _ _, r2, r3⟩⟩
              cases ha
              rw [Addr.add_mid, Nat.add_assoc]; exact r1
          · cases h
      · cases h0 : Nat.beq n 0 with
        | false => simp [h0] at h
        | true =>
          simp [h0] at h
          obtain ⟨rfl, rfl, rfl⟩ := h
          exact ⟨rfl, _, w, ρ, hstay (Nat.eq_of_beq_eq_true h0), hval, Ok.refl hs⟩
    | false =>
      simp only [hle, cond_false] at h
      have hgrow : cap < len + n := by
        rcases Nat.lt_or_ge cap (len + n) with e | e
        · exact e
        · rw [Nat.ble_eq_true_of_le e] at hle; cases hle
      split at h
      · -- a row whose room is known
        split at h
        · rename_i old hold
          simp at h
          obtain ⟨rfl, rfl, rfl⟩ := h
          have hce : cap' = cap := by
            cases hr : ρ b with
            | no => simp [SRel, hr] at hsr
            | gone x => simp only [SRel, hr] at hsr; omega
            | live c k x => simp only [SRel, hr] at hsr; omega
          have holds : ∃ olds, VsRel ρ old olds ∧ ∀ w2, w2.heap = w.heap → (Builtin.firstCells size len (.slice (some a') len cap')).run P w2 = .ok olds.toArray w2 := by
            cases hl0 : Nat.beq (len * size) 0 with
            | true =>
              simp [hl0] at hold; subst hold
              have h0 : len * size = 0 := Nat.eq_of_beq_eq_true hl0
              refine ⟨[], trivial, fun w2 _ => ?_⟩
              simp [Builtin.firstCells, h0, loadCells, loadCellsFrom]
            | false =>
              simp only [hl0, cond_false] at hold
              have hlen0 : len ≠ 0 := fun e => by rw [e, Nat.zero_mul] at hl0; simp [Nat.beq] at hl0
              obtain ⟨ds, c2, k, x, q1, q2, q3, q4⟩ := cells_there hs hold (slice_addr hsr (by omega))
              refine ⟨ds, q3, fun w2 e => run_firstCells_at q2 ?_ (range_of_heap e q4)⟩
              rw [← q3.length]; exact (cellsAt_get hold).choose_spec.choose_spec.choose_spec.2.1
          obtain ⟨olds, ho1, ho2⟩ := holds
          obtain ⟨ncap, g1, g2⟩ := hG (some a') cap' olds (by omega) ho2 hb47 hn47
          obtain ⟨r1, r2⟩ := grow_ok (cs := old ++ new) (olds := olds) (e := e) (need := len + n) hs (hf H.next (Nat.le_refl _) (by simp)) (LRel.append ho1 hnew) hz hsz hcode hct g1
          exact ⟨rfl, _, _, _, g2, r1, r2⟩
        · cases h
      · -- a row whose room is not known
        split at h
        · rename_i cs esz hg
          cases hcc2 : Nat.beq esz code && Nat.beq (o + cap * size) cs.length && Nat.ble len cap with
          | false => simp [hcc2] at h
          | true =>
            simp only [hcc2, cond_true] at h
            simp only [Bool.and_eq_true] at hcc2
            obtain ⟨⟨d1, d2⟩, _⟩ := hcc2
            have e1 : esz = code := Nat.eq_of_beq_eq_true d1
            have e2 : o + cap * size = cs.length := Nat.eq_of_beq_eq_true d2
            subst e1
            split at h
            · rename_i old hold
              simp at h
              obtain ⟨rfl, rfl, rfl⟩ := h
              have hfn := hf H.next (Nat.le_refl _) (by simp)
              cases hr : ρ b with
              | no => simp [SRel, hr] at hsr
              | gone x => rcases hs.alive b x hr with e | e <;> rw [hg] at e <;> cases e
              | live c k x =>
                have hsr' := hsr
                simp only [SRel, hr] at hsr'
                by_cases hroom : len + n ≤ cap'
                · have ha : a' = ⟨c, k + o, none⟩ := by
                    rcases hsr'.1 with e | e
                    · omega
                    · exact e
                  subst ha
                  obtain ⟨ρ', p1, p2, p3⟩ := place_ok (P := P) hs hfn hg hr hsz hcode e2 hlc hold hnew hnl hgrow hsr'.2 hroom h1
                  refine ⟨rfl, _, _, ρ', hR _ _ _ hroom (fun a ha => ?_) (fun h => by cases h), p2, p3⟩
                  cases ha
                  rw [Addr.add_mid]; exact p1
                · -- a new row
                  obtain ⟨s1, s2, s3⟩ := sim_kill hs (cells_own hg) hr
                  have hob := hs.obj b _ hg
                  simp only [ObjRel, hr] at hob
                  obtain ⟨ol, og⟩ := takeN_get hold
                  have hca : cellsAt H b o (len * size) = some old := by simp only [cellsAt, hg]; exact hold
                  have holds : ∃ olds, VsRel ρ old olds ∧ ∀ w2, w2.heap = w.heap → (Builtin.firstCells size len (.slice (some a') len cap')).run P w2 = .ok olds.toArray w2 := by
                    by_cases hl0 : len = 0
                    · have : old = [] := List.eq_nil_of_length_eq_zero (by rw [ol, hl0, Nat.zero_mul])
                      rw [this, hl0]
                      refine ⟨[], trivial, fun w2 _ => ?_⟩
                      simp [Builtin.firstCells, loadCells, loadCellsFrom]
                    · obtain ⟨ds, c2, k2, x2, q1, q2, q3, q4⟩ := cells_there hs hca (slice_addr hsr (by omega))
                      refine ⟨ds, q3, fun w2 e => run_firstCells_at q2 ?_ (range_of_heap e q4)⟩
                      rw [← q3.length, ol]
                  obtain ⟨olds, ho1, ho2⟩ := holds
                  obtain ⟨ncap, g1, g2⟩ := hG (some a') cap' olds (by omega) ho2 hb47 hn47
                  have hnb : H.next ≠ b := fun e => by rw [e, hr] at hfn; cases hfn
                  have hfn1 : upd ρ b (.gone x) H.next = .no := by rw [upd_ne _ _ hnb]; exact hfn
                  obtain ⟨r1, r2⟩ := grow_ok (H := H.set b .dead) (cs := old ++ new) (olds := olds) (e := e) (need := len + n) s1 hfn1 (VsRel.mono s3 (LRel.append ho1 hnew)) hz hsz hcode hct g1
                  refine ⟨rfl, _, _, _, g2, r1, ⟨s3.trans r2.mono (Nat.le_refl _) (by simp), r2.sim, s2.trans r2.step⟩⟩
            · cases h
        · cases h

theorem notInt_of {ts : Array TypeId} (h : (match ts[1]? with | some u => (match P.underlying u with | some d => some (isIntD d) | none => none) | none => some false) = some false) : NotInt P ts := by
  cases h1 : ts[1]? with
  | none => exact .inl h1
  | some u =>
    rw [h1] at h
    simp only at h
    cases h2 : P.underlying u with
    | none => rw [h2] at h; cases h
    | some d => rw [h2] at h; simp at h; exact .inr ⟨u, d, h1, h2, h⟩
theorem int_of {ts : Array TypeId} (h : (match ts[1]? with | some u => (match P.underlying u with | some d => some (isIntD d) | none => none) | none => some false) = some true) : ∃ u k, ts[1]? = some u ∧ P.underlying u = some (.int k) := by
  cases h1 : ts[1]? with
  | none => rw [h1] at h; cases h
  | some u =>
    rw [h1] at h
    simp only at h
    cases h2 : P.underlying u with
    | none => rw [h2] at h; cases h
    | some d => rw [h2] at h; simp at h; cases d <;> simp [isIntD] at h; exact ⟨u, _, rfl, h2⟩

theorem append_ok {ρ : Rho} {base0 : Nat} {H : AHeap} {w : World} (hs : Sim ρ base0 H w) {ts : Array TypeId} {args : List Value} {args' : Array Value} {ty : TypeId} {v : Value} {H' : AHeap} {ev : Ev}
    (h : aAppend P H ts args = some (.val v H' ev)) (ha : VsRel ρ args args'.toList) (hf : ∀ b, H.next ≤ b → b < H'.next → ρ b = .no) :
    ev = .eff H H' ∧ ∃ v' w' ρ', (Builtin.append_ ts ty args').run P w = .ok v' w' ∧ VRel ρ' v v' ∧ Ok ρ base0 H w ρ' H' w' := by
  unfold aAppend at h
  split at h
  · rename_i t base len cap x ht
    obtain ⟨sv, x', rfl, hsv, hxr⟩ : ∃ sv x', args' = #[sv, x'] ∧ VRel ρ (.slice base len cap) sv ∧ VRel ρ x x' := by
      obtain ⟨l⟩ := args'
      match l, ha with
      | [a, b], ha => exact ⟨a, b, rfl, ha.1, ha.2.1⟩
    split at h
    · rename_i e hu
      split at h
      · rename_i size by_ z hsize hby hz
        cases hb0 : Nat.beq by_ 0 || Nat.beq size 0 || !(Nat.beq z.cells.size size) || Nat.ble 1073741824 size with
        | true => simp [hb0] at h
        | false =>
          simp only [hb0, cond_false] at h
          rw [Bool.or_eq_false_iff, Bool.or_eq_false_iff, Bool.or_eq_false_iff, Bool.not_eq_false'] at hb0
          obtain ⟨⟨⟨hb1, hb2⟩, hb3⟩, hb4⟩ := hb0
          have hlt0 : size < 1073741824 := Nat.lt_of_not_le fun h => by rw [Nat.ble_eq_true_of_le h] at hb4; cases hb4
          have hby0 : by_ ≠ 0 := fun e => by rw [e] at hb1; simp [Nat.beq] at hb1
          have hsz0 : size ≠ 0 := fun e => by rw [e] at hb2; simp [Nat.beq] at hb2
          have hzs' : z.cells.size = size := Nat.eq_of_beq_eq_true hb3
          have hzr : VsRel ρ z.cells.toList z.cells.toList := (vrel_plain ρ 9 z (run_zero (P := P) hz default).2).cells
          split at h
          · rename_i hint
            obtain ⟨u, k, hu1, hu2⟩ := int_of hint
            split at h
            · rename_i k' l
              split at h
              · rename_i hl
                cases hxr
                refine appTo_ok (P := P) hs h hsv (repZ_rel hzr l.toNat) hzs' hsz0 (szOf_rowV hlt0) (fun _ => (tyOf_rowV hlt0).symm) hby0 hf (fun s => Builtin.append_ ts ty #[s, .int k' l]) ?_ ?_ (e := e)
                · intro base' cap' w' hroom h1 h2
                  exact app_room0 ht hu hsize hby hz hzs' hu1 hu2 hl.1 hl.2.1 hl.2.2 hroom h1 h2
                · intro base' cap' olds hgr hold hb hn
                  exact app_grow0 ht hu hsize hby hz hzs' hby0 hu1 hu2 hl.1 hl.2.1 hl.2.2 hgr hold hb hn
              · cases h
            · cases h
          · rename_i hint
            have hni := notInt_of hint
            split at h
            · rename_i n new hsrc
              obtain ⟨news, q1, q2, q3⟩ := src_run (P := P) hs hsrc hxr
              refine appTo_ok (P := P) hs h hsv q1 hzs' hsz0 (szOf_rowV hlt0) (fun _ => (tyOf_rowV hlt0).symm) hby0 hf (fun s => Builtin.append_ ts ty #[s, x']) ?_ ?_ (e := e)
              · intro base' cap' w' hroom h1 h2
                exact app_room ht hu hsize hni (q2 w) (q3 w rfl) hroom h1 h2
              · intro base' cap' olds hgr hold hb hn
                exact app_grow ht hu hsize hby hz hby0 hni (q2 w) q3 hgr hold hb
            · cases h
          · cases h
      · cases h
    · cases h
  · cases h
end Go.AX
