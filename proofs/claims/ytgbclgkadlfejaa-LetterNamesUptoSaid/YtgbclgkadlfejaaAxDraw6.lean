/- Regions whose order is drawn: the end of the proof; the whole executor. -/
import Derived.Test.YtgbclgkadlfejaaAxDraw5
namespace Go.AX
open Go Go.RowKit
set_option linter.unusedVariables false
set_option linter.unusedSimpArgs false

variable {P : Program}

namespace Ctx
variable {call : FuncId → List Value → AHeap → Option (CRes × AHeap)} {ops : Array Oper} {tr : List (Nat × Ev)} {C : Ctx P call ops tr}
variable {L : Nat → Prop} {ρ0 ρ : Rho} {base : Nat} {w0 w : World} {a : Act} {g : Fr} {p j : Nat} {o : Oper}

theorem disjoint {i j : Nat} (hi : i < ops.size) (hj : j < ops.size) (hne : i ≠ j) : (C.T.hp (i + 1)).next ≤ (C.T.hp j).next ∨ (C.T.hp (j + 1)).next ≤ (C.T.hp i).next := by
  rcases Nat.lt_or_ge i j with h | h
  · exact .inl (C.next_mono (by omega) (by omega))
  · exact .inr (C.next_mono (by omega) (by omega))

/-- One operation, at whatever turn it comes up. -/
theorem one_step (I : C.Inv L ρ0 base w0 a w ρ g p) (ho : ops[j]? = some o) (hj : ¬ L j) (hr : ∀ e ∈ o.after, Region.binds .any e = true → L e.on) {K : Act → World → Prop} {Q : Exit → Act → World → Prop}
    (hK : ∀ a' w' ρ' g' p', C.Inv (fun i => L i ∨ i = j) ρ0 base w0 a' w' ρ' g' p' → K a' w') : wpOp P ops Q j K a w := by
  have hjn := lt_of ho
  have hag := reads_agree I ho hj hr
  have hw : Region.wanted o (yielded ops a.tmps) = wantedA ops o (C.T.fr j) := (wanted_rel I.frel ops o).trans (wanted_congr hag)
  have hgf : g.fix = (C.T.fr j).fix := I.gfix.trans (C.ffix j (by omega)).symm
  have hops : ∀ x ∈ o.op.operands.toList, evO g x = evO (C.T.fr j) x := evO_of_get (congrArg (fun p => p.2.2) hgf) fun t ht => hag t (by simp [readsOf, ht])
  have hgs : g.size = (C.T.fr j).size := congrArg (fun p => p.1) hgf
  obtain ⟨g', hg'⟩ := put_of_size (C.T.val j) (C.T.put j o (Nat.zero_le _) ho) hgs
  obtain ⟨n1, n2, n3⟩ := next_frame I ho hj hr hg'
  have hin : (C.T.hp 0).next ≤ (C.T.hp j).next ∧ (C.T.hp (j + 1)).next ≤ (C.T.hp ops.size).next := ⟨C.next_mono (by omega) (by omega), C.next_mono (by omega) (by omega)⟩
  unfold wpOp
  rw [ho]
  simp only
  cases hwt : wantedA ops o (C.T.fr j) with
  | false =>
    obtain ⟨e1, e2, e3⟩ := C.T.skip j o (Nat.zero_le _) ho hwt
    rw [if_neg (by rw [hw, hwt]; simp)]
    have hneff : ¬ C.EffAt j := fun h => by rw [show C.T.ev j = _ from h] at e1; cases e1
    refine hK _ _ ρ g' p ⟨I.frel.put hg' (by rw [e2]; exact VRel.undef ρ), n1, n2, I.hp, fun i hi he => ?_, I.sim, fun i hi hL => I.fresh i hi fun h => hL (.inl h), I.mono, I.step, n3⟩
    have hne : i ≠ j := fun e => hneff (e ▸ he)
    rw [← I.eff i hi he]; exact ⟨fun h => h.resolve_right hne, .inl⟩
  | true =>
    rw [if_pos (by rw [hw, hwt])]
    left
    rcases C.ev_cases ho hwt with ⟨h1, h2, h3⟩ | ⟨b, q, n, h1, hm, h2, h3, h4⟩ | ⟨ob, vf, h1, hm, h2, h3, h4⟩ | ⟨h1, hm, h2, h3⟩
    · -- what only computes
      have hneff : ¬ C.EffAt j := fun h => by rw [show C.T.ev j = _ from h] at h1; cases h1
      have hop : aOp P call g (C.F p) o.op = some (.val (C.T.val j) (C.F p) .quiet) := by rw [aOp_congr hops]; exact h3 _
      refine (op_val C.hcall C.hname hop).2 ρ base w a K Q (fun _ _ h => by cases h) I.sim I.frel (fun b q1 q2 => by omega) fun v' w' ρ' hv ok => ?_
      refine hK _ _ ρ' g' p ⟨(I.frel.mono ok.mono).put hg' hv, n1, n2, I.hp, fun i hi he => ?_, ok.sim, fun i hi hL => (I.fresh i hi fun h => hL (.inl h)).stay ok.mono (.inl rfl), I.mono.widen ok.mono (.inl rfl), I.step.trans ok.step, n3⟩
      have hne : i ≠ j := fun e => hneff (e ▸ he)
      rw [← I.eff i hi he]; exact ⟨fun h => h.resolve_right hne, .inl⟩
    · -- a look
      have hneff : ¬ C.EffAt j := fun h => by rw [show C.T.ev j = _ from h] at h1; cases h1
      have hop : aOp P call g (C.F p) o.op = some (.val (C.T.val j) (C.F p) (.look b q n)) := by rw [aOp_congr hops]; exact h4 _ (look_stable I ho hj hr hm h3)
      refine (op_val C.hcall C.hname hop).2 ρ base w a K Q (fun _ _ h => by cases h) I.sim I.frel (fun b q1 q2 => by omega) fun v' w' ρ' hv ok => ?_
      refine hK _ _ ρ' g' p ⟨(I.frel.mono ok.mono).put hg' hv, n1, n2, I.hp, fun i hi he => ?_, ok.sim, fun i hi hL => (I.fresh i hi fun h => hL (.inl h)).stay ok.mono (.inl rfl), I.mono.widen ok.mono (.inl rfl), I.step.trans ok.step, n3⟩
      have hne : i ≠ j := fun e => hneff (e ▸ he)
      rw [← I.eff i hi he]; exact ⟨fun h => h.resolve_right hne, .inl⟩
    · -- something is made
      have hneff : ¬ C.EffAt j := fun h => by rw [show C.T.ev j = _ from h] at h1; cases h1
      have hmk : aMake P g o.op = some (ob, vf) := by rw [aMake_congr hops]; exact h3
      have hnx : (C.T.hp (j + 1)).next = (C.T.hp j).next + 1 := by rw [h2]; rfl
      have hno : ρ (C.T.hp j).next = .no := I.fresh j hjn hj _ (Nat.le_refl _) (by omega)
      have hget := make_stable I ho hj hr h1 hm
      obtain ⟨v', O, q1, q2⟩ := make_run (P := P) I.frel hmk w base I.sim.bsz
      obtain ⟨q3, q4⟩ := q2 _ hno _ rfl
      obtain ⟨r1, r2⟩ := sim_new I.sim hno q4
      have hmono : Mono (C.T.hp j).next ((C.T.hp j).next + 1) ρ (upd ρ (C.T.hp j).next (.live w.heap.size 0 0)) := ⟨fun c hc => .inl (upd_ne _ _ (by omega)), fun c k1 k2 => (show c = (C.T.hp j).next by omega) ▸ hno⟩
      have hsame : ∀ b, (C.F p).get b = ((C.F p).set (C.T.hp j).next ob).get b := fun b => (set_same hget b).symm
      refine wp_of_value q1 (hK _ _ _ g' p ⟨(I.frel.mono hmono).put hg' (by rw [h4]; exact q3), n1, n2, I.hp, fun i hi he => ?_, r1.congr hsame, fun i hi hL => (I.fresh i hi fun h => hL (.inl h)).stay hmono (.inr ?_), I.mono.widen hmono (.inr ⟨hin.1, by omega⟩), (I.step.trans r2).congr hsame, n3⟩)
      · have hne : i ≠ j := fun e => hneff (e ▸ he)
        rw [← I.eff i hi he]; exact ⟨fun h => h.resolve_right hne, .inl⟩
      · have hne : i ≠ j := fun e => hL (.inr e)
        rcases disjoint (C := C) hi hjn hne with h | h
        · exact .inl h
        · exact .inr (by omega)
    · -- an effect
      have heff : C.EffAt j := h1
      have hbefore : ∀ i, i < j → C.EffAt i → L i := fun i hi he => by
        have hin : i < ops.size := by omega
        rcases C.pair (op_at hin) ho hi with q | ⟨q, _, _⟩
        · exact ahead I ho hr q
        · exact (q ⟨(C.eff_mem hin he).2, h2⟩).elim
      have hpj : p ≤ j := by
        rcases Nat.lt_or_ge j p with h | h
        · exact (hj ((I.eff j hjn heff).2 h)).elim
        · exact h
      have hFpj : ∀ b, (C.F p).get b = (C.F j).get b := fun b => C.chain2 (fun H => H.get b) I.hp (by omega) fun k hk hpos => by
        refine C.F_step hk (fun he => ?_) b
        rcases hpos with ⟨k1, k2⟩ | ⟨k1, k2⟩
        · have := (I.eff k hk he).1 (hbefore k k2 he); omega
        · omega
      have hsim : Sim ρ base (C.F j) w := I.sim.congr fun b => (hFpj b).symm
      have hold : ∀ b, b < (C.T.hp j).next → (C.F j).get b = (C.T.hp j).get b := fun b hb => C.F_old (by omega) hb
      have hop : aOp P call g (C.T.hp j) o.op = some (.val (C.T.val j) (C.T.hp (j + 1)) (.eff (C.T.hp j) (C.T.hp (j + 1)))) := by rw [aOp_congr hops]; exact h3
      refine (op_val C.hcall C.hname hop).2 ρ base w a K Q (fun _ _ _ => C.wf j (by omega)) (hsim.sub (C.wf j (by omega)) hold) I.frel (I.fresh j hjn hj) fun v' w' ρ' hv ok => ?_
      obtain ⟨s1, s2⟩ := frame_ok (G' := C.F (j + 1)) hsim (C.wf j (by omega)) (C.wf (j + 1) (by omega)) hold (C.step_next hjn) (fun b hb => C.F_old (by omega) hb)
        (fun b hb => (C.F_eff_get hjn heff (.inl (by rw [C.wf j (by omega) b (Nat.le_trans (C.step_next hjn) hb), C.wf (j + 1) (by omega) b hb]))).symm) ok
      refine hK _ _ ρ' g' (j + 1) ⟨(I.frel.mono ok.mono).put hg' hv, n1, n2, by omega, fun i hi he => ?_, s1, fun i hi hL => (I.fresh i hi fun h => hL (.inl h)).stay ok.mono (.inr ?_), I.mono.widen ok.mono (.inr hin), I.step.trans (s2.congr_left hFpj), n3⟩
      · constructor
        · rintro (h | h)
          · have := (I.eff i hi he).1 h; omega
          · omega
        · intro h
          rcases Nat.lt_or_ge i j with h' | h'
          · exact .inl (hbefore i h' he)
          · exact .inr (by omega)
      · have hne : i ≠ j := fun e => hL (.inr e)
        exact disjoint (C := C) hi hjn hne

/-- All are listed: the end. -/
theorem finish (I : C.Inv L ρ0 base w0 a w ρ g p) (hall : ∀ i, i < ops.size → L i) : FRel ρ (C.T.fr ops.size) a ∧ Ok ρ0 base (C.T.hp 0) w0 ρ (C.T.hp ops.size) w := by
  have hget : ∀ t, g.get t = (C.T.fr ops.size).get t := fun t => I.agree t ops.size (Nat.le_refl _) fun i oi hi _ => ⟨fun _ => lt_of hi, fun h => hall i h⟩
  have hFn : ∀ b, (C.T.hp ops.size).get b = (C.F p).get b := fun b => by
    have h1 : (C.F ops.size).get b = (C.T.hp ops.size).get b := by unfold F; rw [Nat.sub_self]; rfl
    rw [← h1]
    exact (C.chain2 (fun H => H.get b) I.hp (Nat.le_refl _) fun k hk hpos => C.F_step hk (fun he => by have := (I.eff k hk he).1 (hall k hk); omega) b).symm
  have hgf : g.fix = (C.T.fr ops.size).fix := I.gfix.trans (C.ffix ops.size (Nat.le_refl _)).symm
  have h1 : g.size = (C.T.fr ops.size).size := congrArg (fun p => p.1) hgf
  have h2 : g.defs = (C.T.fr ops.size).defs := congrArg (fun p => p.2.1) hgf
  have h3 : g.glob = (C.T.fr ops.size).glob := congrArg (fun p => p.2.2) hgf
  refine ⟨⟨fun t => by rw [← hget t]; exact I.frel.val t, by rw [← h1]; exact I.frel.size, by rw [← h2]; exact I.frel.defers, by rw [← h3]; exact I.frel.glob⟩, I.mono, I.sim.congr hFn, I.step.congr hFn⟩

theorem any_sound {Q : Exit → Act → World → Prop} (hQ : ∀ ρ' a' w', Ok ρ0 base (C.T.hp 0) w0 ρ' (C.T.hp ops.size) w' → FRel ρ' (C.T.fr ops.size) a' → Q .normal a' w') :
    ∀ (fuel : Nat) (listed : Array Bool) (a : Act) (w : World) (ρ : Rho) (g : Fr) (p : Nat), listed.size = ops.size → ((List.range ops.size).filter fun i => !(listed.getD i false)).length ≤ fuel →
      C.Inv (fun i => listed.getD i false = true) ρ0 base w0 a w ρ g p → wpAny P .any ops Q fuel listed a w := by
  have empty : ∀ (listed : Array Bool) (a : Act) (w : World) (ρ : Rho) (g : Fr) (p : Nat), listed.size = ops.size → C.Inv (fun i => listed.getD i false = true) ρ0 base w0 a w ρ g p →
      Region.ready .any ops listed = [] → ∀ i, i < ops.size → listed.getD i false = true := by
    intro listed a w ρ g p hsz I hr i
    induction i using Nat.strongRecOn with
    | _ i ih =>
      intro hi
      cases hli : listed.getD i false with
      | true => rfl
      | false =>
        exfalso
        have : i ∈ Region.ready .any ops listed := by
          rw [mem_ready]
          refine ⟨?_, ops[i], op_at hi, fun e he hb => ?_⟩
          · rw [Array.getD_eq_getD_getElem?] at hli ⊢
            rw [Array.getElem?_eq_getElem (by omega)] at hli ⊢; exact hli
          · have := C.back i _ (op_at hi) e he hb
            exact ih e.on this (by omega)
        rw [hr] at this; cases this
  intro fuel
  induction fuel with
  | zero =>
    intro listed a w ρ g p hsz hc I
    have hall : ∀ i, i < ops.size → listed.getD i false = true := fun i hi => by
      have h0 := List.eq_nil_of_length_eq_zero (Nat.le_zero.1 hc)
      have := List.filter_eq_nil_iff.1 h0 i (by simpa using hi)
      simpa using this
    refine ⟨?_, ?_⟩
    · cases hr : Region.ready .any ops listed with
      | nil => rfl
      | cons x xs =>
        exfalso
        have hx : x ∈ Region.ready .any ops listed := by rw [hr]; simp
        rw [mem_ready] at hx
        obtain ⟨h1, o, h2, -⟩ := hx
        have h3 := hall x (lt_of h2)
        rw [Array.getD_eq_getD_getElem?] at h1 h3
        rw [Array.getElem?_eq_getElem (by have := lt_of h2; omega)] at h1 h3
        simp at h1 h3
        rw [h1] at h3; cases h3
    · obtain ⟨f1, f2⟩ := finish I hall
      exact hQ ρ a w f2 f1
  | succ fuel ih =>
    intro listed a w ρ g p hsz hc I
    refine ⟨fun hr => ?_, fun j hj => ?_⟩
    · obtain ⟨f1, f2⟩ := finish I (empty listed a w ρ g p hsz I hr)
      exact hQ ρ a w f2 f1
    · rw [mem_ready] at hj
      obtain ⟨h1, o, h2, h3⟩ := hj
      have hjn := lt_of h2
      have hjf : listed.getD j false = false := by
        rw [Array.getD_eq_getD_getElem?] at h1 ⊢
        rw [Array.getElem?_eq_getElem (by omega)] at h1 ⊢; exact h1
      refine one_step I h2 (by rw [hjf]; simp) h3 fun a' w' ρ' g' p' I' => ?_
      have hset : ∀ i, (listed.setIfInBounds j true).getD i false = true ↔ (listed.getD i false = true ∨ i = j) := fun i => by
        by_cases e : i = j
        · subst e
          have hlt : i < listed.size := by omega
          simp [Array.getD_eq_getD_getElem?, Array.getElem?_setIfInBounds, hlt]
        · rw [getD_set_ne false (Ne.symm e)]; simp [e]
      refine ih _ a' w' ρ' g' p' (by simp [hsz]) ?_ ?_
      · have := filter_lt (p := fun i => !(listed.getD i false)) (q := fun i => !((listed.setIfInBounds j true).getD i false)) (l := List.range ops.size) (fun x _ hx => by
          simp only [Bool.not_eq_true'] at hx ⊢
          cases hxl : listed.getD x false with
          | false => rfl
          | true => rw [(hset x).2 (.inl hxl)] at hx; cases hx) j (by simpa using hjn) (by rw [hjf]; rfl) (by rw [(hset j).2 (.inr rfl)]; rfl)
        omega
      · have he : (fun i => (listed.setIfInBounds j true).getD i false = true) = (fun i => listed.getD i false = true ∨ i = j) := funext fun i => propext (hset i)
        rw [he]; exact I'
end Ctx

theorem draw_sound (hname : ∀ (g : FuncId) fn, P.funcs[g]? = some fn → fn.name ≠ "runtime.NumGoroutine") {call : FuncId → List Value → AHeap → Option (CRes × AHeap)} (hcall : CallOk P call) (hcw : CallWf call) {ops : Array Oper} (hreg : regOk P ops = true) {f f' : Fr} {H H' : AHeap} {tr : List (Nat × Ev)}
    (hrun : runOps P call ops ops.toList 0 f H [] = some (.done f' H' tr)) (hd : drawOk ops tr = true) (hw : Wf H) (ρ : Rho) (base : Nat) (w : World) (a : Act) (Q : Exit → Act → World → Prop) (hs : Sim ρ base H w) (hf : FRel ρ f a) (hfr : Fresh ρ H.next H'.next)
    (hk : ROk ρ base H w Q (.done f' H' tr)) : wpAny P .any ops Q ops.size (Array.replicate ops.size false) a w := by
  obtain ⟨-, T, t1, t2, t3, t4⟩ := trace_of (P := P) ops.toList 0 f H [] f' H' tr (fun j => by simp) hrun
  simp only [Nat.zero_add, Array.length_toList] at t3 t4
  let C : Ctx P call ops tr := ⟨hcall, hname, hcw, hreg, hd, T, by rw [t2]; exact hw⟩
  have I := C.start (ρ0 := ρ) (base := base) (w0 := w) (a := a) (by show Sim ρ base (T.hp 0) w; rw [t2]; exact hs) (by show FRel ρ (T.fr 0) a; rw [t1]; exact hf) (by show Fresh ρ (T.hp 0).next (T.hp ops.size).next; rw [t2, t4]; exact hfr)
  refine C.any_sound (ρ0 := ρ) (base := base) (w0 := w) (fun ρ' a' w' ok hf' => hk ρ' a' w' ?_ ?_) ops.size _ a w ρ (C.T.fr 0) 0 (by simp) ?_ ?_
  · have : Ok ρ base (T.hp 0) w ρ' (T.hp ops.size) w' := ok
    rwa [t2, t4] at this
  · have : FRel ρ' (T.fr ops.size) a' := hf'
    rwa [t3] at this
  · exact Nat.le_trans (List.length_filter_le _ _) (by simp)
  · have he : (fun i => (Array.replicate ops.size false).getD i false = true) = fun _ => False := by
      funext i
      simp only [Array.getD_eq_getD_getElem?, Array.getElem?_replicate]
      split <;> simp
    rw [he]; exact I
end Go.AX
