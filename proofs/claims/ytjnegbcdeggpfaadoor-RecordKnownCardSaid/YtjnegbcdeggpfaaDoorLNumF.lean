/- (*record.reader).number is known by its answer. -/
import Derived.Test.YtjnegbcdeggpfaaDoorLNumQ
import Derived.Test.YtjnegbcdeggpfaaDoorAxPrim
namespace Go.AX
open Go
set_option linter.unusedVariables false
set_option linter.unusedSimpArgs false
variable {P : Program}
theorem eqInts_eq : ∀ {l m : List Value}, eqInts l m = true → l = m
  | [], [], _ => rfl
  | [], _ :: _, h => by simp [eqInts] at h
  | x :: r, [], h => by cases x <;> simp [eqInts] at h
  | x :: r, y :: q, h => by
    cases x <;> cases y <;> try (simp [eqInts] at h; done)
    simp only [eqInts, Bool.and_eq_true, decide_eq_true_eq] at h
    obtain ⟨⟨rfl, rfl⟩, h2⟩ := h
    rw [eqInts_eq h2]
theorem errAt_spec {H : AHeap} {g : Nat} (h : errAt P H g = true) : ∃ n tp k e1 o1 x e2 o2 tS, H.get 0 = some (.globs n) ∧ g < n ∧ H.get (g + 1) = some (.cells [.iface tp (.pointer (some ⟨k, 0, none⟩))] e1 o1) ∧ tp = errTy ∧ P.underlying tp = some (.pointer tS) ∧ H.get k = some (.cells [x] e2 o2) ∧ e2 = 2147483647 := by
  unfold errAt at h
  split at h
  · rename_i n te k e1 o1 h0 h1
    rw [Bool.and_eq_true] at h
    obtain ⟨ha, hb⟩ := h
    split at hb
    · rename_i tS x e2 o2 q2 q3
      rw [Bool.and_eq_true] at hb
      exact ⟨n, _, k, e1, o1, x, e2, o2, tS, h0, Nat.le_of_ble_eq_true ha, h1, Nat.eq_of_beq_eq_true hb.1, q2, q3, Nat.eq_of_beq_eq_true hb.2⟩
    · cases hb
  · cases h
theorem tabAt_spec {H : AHeap} {g : Nat} (h : tabAt H g = true) : ∃ n e o, H.get 0 = some (.globs n) ∧ g < n ∧ H.get (g + 1) = some (.cells pow10V e o) ∧ 1073741824 ≤ e ∧ szOf e = 0 := by
  unfold tabAt at h
  split at h
  · rename_i n cs e o h0 h1
    simp only [Bool.and_eq_true] at h
    obtain ⟨⟨⟨ha, hb⟩, hc⟩, hd⟩ := h
    obtain rfl := eqInts_eq hd
    exact ⟨n, e, o, h0, Nat.le_of_ble_eq_true ha, h1, Nat.le_of_ble_eq_true hb, Nat.eq_of_beq_eq_true hc⟩
  · cases h
theorem numOk_spec {H : AHeap} (h : numOk P H = true) : errAt P H gSyn = true ∧ errAt P H gRng = true ∧ tabAt H gPow = true := by
  unfold numOk at h
  simp only [Bool.and_eq_true] at h
  exact ⟨h.1.1, h.1.2, h.2⟩
theorem primA_num {pt : TypeId} {args : List Value} {H H' : AHeap} {v : Value} (h : primA P (.num pt) args H = some (v, H')) :
    ∃ b s lo hi e x bad esz, args = [.pointer (some ⟨b, 0, none⟩), .string s, .int .i64 lo, .int .i64 hi] ∧ P.underlying pt = some (.pointer e) ∧ H.get b = some (.cells [x, .bool bad] esz true) ∧ s.size ≤ 1000000 ∧ -1000000000 < lo ∧ hi < 1000000000 ∧ numOk P H = true ∧
      ((∃ n, numZ s.data.toList = some n ∧ lo ≤ n ∧ n ≤ hi ∧ v = .int .i64 n ∧ H' = H) ∨ ((∀ n, numZ s.data.toList = some n → n < lo ∨ hi < n) ∧ v = .int .i64 lo ∧ H' = H.set b (.cells [x, .bool true] esz true))) := by
  unfold primA at h
  split at h
  case h_8 pt' b s lo hi heq =>
    cases heq
    split at h
    · rename_i e hu
      split at h
      · rename_i x bad esz hg
        cases hb : (Nat.ble s.size 1000000 && decide (-1000000000 < lo) && decide (hi < 1000000000) && numOk P H) with
        | false => rw [hb] at h; cases h
        | true =>
          rw [hb, cond_true] at h
          simp only [Bool.and_eq_true, decide_eq_true_eq] at hb
          obtain ⟨⟨⟨q2, q3⟩, q4⟩, q5⟩ := hb
          refine ⟨b, s, lo, hi, e, x, bad, esz, rfl, hu, hg, Nat.le_of_ble_eq_true q2, q3, q4, q5, ?_⟩
          split at h
          · rename_i n hn
            cases hc : (decide (lo ≤ n) && decide (n ≤ hi)) with
            | true =>
              rw [hc, cond_true] at h
              simp only [Bool.and_eq_true, decide_eq_true_eq] at hc
              simp only [Option.some.injEq, Prod.mk.injEq] at h
              exact .inl ⟨n, hn, hc.1, hc.2, h.1.symm, h.2.symm⟩
            | false =>
              rw [hc, cond_false] at h
              simp only [Option.some.injEq, Prod.mk.injEq] at h
              refine .inr ⟨fun m hm => ?_, h.1.symm, h.2.symm⟩
              rw [hn] at hm; cases hm
              simp only [Bool.and_eq_false_iff, decide_eq_false_iff_not] at hc
              omega
          · rename_i hn
            simp only [Option.some.injEq, Prod.mk.injEq] at h
            exact .inr ⟨fun m hm => (by rw [hn] at hm; cases hm), h.1.symm, h.2.symm⟩
      · cases h
    · cases h
  case h_9 => cases h
  all_goals (rename_i heq; cases heq)
/-- What lies where the memory's block lies. -/
theorem live_at {ρ : Rho} {base : Nat} {H : AHeap} {w : World} (hs : Sim ρ base H w) {b o e : Nat} {cs : List Value} {ow : Bool} (hg : H.get b = some (.cells cs e ow)) {a : Addr} (hp : PRel ρ b o a) : ∃ c k x, ρ b = .live c k x ∧ a = ⟨c, k + o, none⟩ ∧ c < w.heap.size ∧ CellsRel ρ w c k cs ∧ (ow = true → base ≤ c ∧ w.there c k cs.length) ∧ typedRel w c k cs.length e := by
  obtain ⟨c, k, x, hr, ha⟩ := live_of_cells hs hg (by simp) hp
  have ho := hs.obj b _ hg
  simp only [ObjRel, hr] at ho
  exact ⟨c, k, x, hr, ha, hs.inb _ _ _ _ hr, ho.1, ho.2.1, ho.2.2.2.2⟩
end Go.AX
namespace Go.Proofs.YtjnegbcdeggpfaaDoor
open Go Go.AX Go.AX.Lw Go.Proofs Go.RowKit Go.Shelf
set_option linter.unusedVariables false
set_option maxRecDepth 100000
theorem glob_rel {ρ : Rho} {base : Nat} {H : AHeap} {w : World} (hs : Sim ρ base H w) {n g : Nat} (h0 : H.get 0 = some (.globs n)) (hg : g < n) : PRel ρ (g + 1) 0 ⟨g, 0, none⟩ := hs.obj 0 _ h0 g hg
theorem err_world {ρ : Rho} {base : Nat} {H : AHeap} {w : World} (hs : Sim ρ base H w) {g : Nat} (h : errAt Tryd.prog H g = true) : ∃ a : Addr, g < w.heap.size ∧ w.cell? ⟨g, 0, none⟩ = some (.iface 139 (.pointer (some a))) ∧ a.block < w.heap.size ∧ ∃ cb tb, w.heap[a.block]? = some (.cells cb tb (0, 0)) := by
  obtain ⟨n, tp, k, e1, o1, x, e2, o2, tS, h0, hgn, h1, ht, hu, h2, rfl⟩ := errAt_spec h
  obtain rfl : tp = 139 := ht
  obtain ⟨c, k1, x1, hr, ha, hc, hcell, -, -⟩ := live_at hs h1 (glob_rel hs h0 hgn)
  obtain ⟨rfl, hk0⟩ : g = c ∧ 0 = k1 + 0 := by injection ha with e1 e2; exact ⟨e1, e2⟩
  obtain rfl : k1 = 0 := by omega
  obtain ⟨v', q1, q2⟩ := hcell 0 _ rfl
  cases q2 with
  | iface _ q3 =>
    cases q3 with
    | @ptr _ _ a q4 =>
      obtain ⟨c2, k2, x2, hr2, ha2, hc2, -, -, hty⟩ := live_at hs h2 q4
      subst ha2
      obtain ⟨cb, ty', fr, w1, -, w2, -⟩ := hty (by decide)
      obtain rfl := w2 (by decide)
      exact ⟨_, hc, by simpa using q1, hc2, cb, _, w1⟩
theorem num_for : AX.PrimFor Tryd.prog 33 (.num 62) := by
  intro args H v H' h hw ρ base w args' hs ha
  obtain ⟨b, s, lo, hi, e, x, bad, esz, rfl, hu, hg, hsz, hlo, hhi, hok, hcase⟩ := primA_num h
  obtain ⟨hS, hR, hT⟩ := numOk_spec hok
  obtain ⟨args'⟩ := args'
  match args', ha with
  | [y1, y2, y3, y4], ha =>
  obtain ⟨r1, r2, r3, r4, -⟩ := ha
  cases r2; cases r3; cases r4
  cases r1 with
  | @ptr _ _ a hp =>
  obtain ⟨c, k, xx, hr, ha, hc, hcell, hown, hty⟩ := live_at hs hg hp
  subst ha
  obtain ⟨aS, gS, cS, bS, cb1, tb1, hb1⟩ := err_world hs hS
  obtain ⟨aR, gR, cR, bR, cb2, tb2, hb2⟩ := err_world hs hR
  obtain ⟨n0, e0, o0, t0, tn, t1, t2, t3⟩ := tabAt_spec hT
  obtain ⟨c3, k3, x3, hr3, ha3, hc3, hcell3, -, hty3⟩ := live_at hs t1 (glob_rel hs t0 tn)
  obtain ⟨arr, ty3, fr3, w3, -, -, w4⟩ := hty3 t2
  obtain ⟨rfl, hsz3, -⟩ := w4 t3
  obtain rfl : 2 = c3 := by injection ha3
  have htab : Lib.TabIs Tryd.prog w "internal/strconv.uint64pow10" .u64 Lib.pow10Tab := by
    unfold Lib.TabIs World.var?
    rw [show Tryd.prog.globalNamed "internal/strconv.uint64pow10" = some 2 by kernel_rfl]
    simp only [Option.bind_some, w3]
    congr 1
    have hp10 : (Lib.pow10Tab.map fun z => Value.int .u64 z) = pow10V := by kernel_rfl
    rw [hp10]
    apply Array.ext
    · simpa using hsz3
    · intro i h1 h2
      have hi : i < pow10V.length := by simpa using h2
      obtain ⟨v', q1, q2⟩ := hcell3 i _ (List.getElem?_eq_getElem hi)
      rw [Nat.zero_add] at q1
      unfold World.cell? at q1
      rw [w3] at q1
      simp only [Array.getElem?_eq_getElem h1] at q1
      have hv' : pow10V[i] = v' := by
        have hin : ∃ z, pow10V[i] = .int .u64 z := by
          have : pow10V[i] ∈ pow10V := List.getElem_mem _
          unfold pow10V at this
          obtain ⟨z, -, hz⟩ := List.mem_map.1 this
          exact ⟨z, hz.symm⟩
        obtain ⟨z, hz⟩ := hin
        rw [hz] at q2 ⊢
        cases q2; rfl
      have q3 := Option.some.inj q1
      simp only [List.getElem_toArray]
      rw [hv']; exact q3
  obtain ⟨vb, qb1, qb2⟩ := hcell 1 (.bool bad) rfl
  cases qb2
  have hfz : w.frozen? ⟨c, k + 1, none⟩ = false := ((hown rfl).2 1 (by simp)).2
  have W : NumW w c k bad aS aR := {
    bad := fun w' hb => ⟨by rw [cell_of_heap (a := ⟨c, k + 1, none⟩) (hb.block c hc)]; exact qb1, by rw [frozen_of_heap (a := ⟨c, k + 1, none⟩) (hb.block c hc)]; exact hfz⟩
    es := fun w' hb => by rw [cell_of_heap (a := ⟨0, 0, none⟩) (hb.block 0 gS)]; exact cS
    er := fun w' hb => by rw [cell_of_heap (a := ⟨1, 0, none⟩) (hb.block 1 gR)]; exact cR
    hs := fun w' hb => ⟨cb1, tb1, by rw [hb.block _ bS]; exact hb1⟩
    hr := fun w' hb => ⟨cb2, tb2, by rw [hb.block _ bR]; exact hb2⟩
    tab := Lib.tabBelow_of_tabIs htab }
  rcases hcase with ⟨n, hn, hl1, hl2, rfl, rfl⟩ | ⟨hno, rfl, rfl⟩
  · obtain ⟨k1, k2, k3⟩ := numZ_some hn
    have hat : Lib.atoiAll s.data.toList = .ok n := by rw [← k1]; exact atoi_itoa k2 k3
    refine (num_good W s lo hi n hsz hat hl1 hl2 (by rw [k1]) ⟨k2, k3⟩).mono ?_
    rintro e w' ⟨rfl, hb⟩
    exact ⟨ρ, below_ok hs hb, .int _ _⟩
  · have hbad : Calls Tryd.prog 33 #[.pointer (some ⟨c, k, none⟩), .string s, .int .i64 lo, .int .i64 hi] w (NumBad w c k lo) := by
      cases hat : Lib.atoiAll s.data.toList with
      | range => exact num_range W s lo hi hsz hat
      | ok n =>
        by_cases hin : lo ≤ n ∧ n ≤ hi
        · refine num_other W s lo hi n hsz hat hin.1 hin.2 (fun e => ?_) (by omega)
          have hz : numZ s.data.toList = some n := by rw [← e]; exact numZ_itoa (by omega) (by omega)
          have := hno n hz
          omega
        · exact num_far W s lo hi n hsz hat (by omega)
      | _ => exact num_none W s lo hi hsz hat
    refine hbad.mono ?_
    rintro e w' ⟨rfl, w5, hb, rfl⟩
    have ok1 := below_ok hs hb
    obtain ⟨-, s2, s3⟩ := store_own (P := Tryd.prog) ok1.sim hg hr (o := 1) (vs := [.bool true]) (ws := [.bool true]) (cs' := [x, .bool true]) rfl ⟨.bool _, trivial⟩ (by simp [Value.oneCell'])
    exact ⟨ρ, ⟨Mono.refl _ _, s2, ok1.step.trans s3⟩, .int _ _⟩
end Go.Proofs.YtjnegbcdeggpfaaDoor
