/- Regions whose order is drawn: every order. -/
import Derived.Test.YtgbclgkadlfejaaAxDraw4
namespace Go.AX
open Go Go.RowKit
set_option linter.unusedVariables false
set_option linter.unusedSimpArgs false

variable {P : Program}

theorem make_globs {f : Fr} {op : Op} {ob : AObj} {vf : Nat → Value} (h : aMake P f op = some (ob, vf)) (n : Nat) : ob ≠ .globs n := by
  intro e; subst e
  cases op <;> simp only [aMake, mkVar, mkTyped, mkSlice, aBuildSlice, aMakeSlice, Bool.cond_eq_ite] at h <;> (repeat' split at h) <;> simp at h
theorem later_globs2 {ev : Nat → Option Ev} {b n : Nat} : ∀ (c p : Nat) (F : AHeap), (∀ i b o, p ≤ i → i < p + c → ev i = some (.make b o) → ∀ n, o ≠ .globs n) → (later ev c p F).get b = some (.globs n) → F.get b = some (.globs n)
  | 0, _, _, _, h => h
  | c + 1, p, F, hm, h => by
    simp only [later] at h
    have := later_globs2 c (p + 1) _ (fun i b o h1 h2 => hm i b o (by omega) (by omega)) h
    split at this
    · rename_i b' o' he
      rw [AHeap.get_set] at this
      split at this
      · cases this; exact (hm p b' _ (Nat.le_refl _) (by omega) he n rfl).elim
      · exact this
    · exact this

theorem Sim.congr_live {ρ : Rho} {base : Nat} {H G : AHeap} {w : World} (h : Sim ρ base H w) (e : ∀ b, ρ b ≠ .no → G.get b = H.get b) (hg : ∀ b n, G.get b = some (.globs n) → H.get b = some (.globs n)) : Sim ρ base G w where
  alive b x hb := by rw [e b (by rw [hb]; simp)]; exact h.alive b x hb
  bsz := h.bsz
  inb := h.inb
  obj b o hb := by
    cases hr : ρ b with
    | no => cases o <;> first | (simp [ObjRel, hr]; done) | exact h.obj b _ (hg b _ hb)
    | gone x => cases o <;> first | (simp [ObjRel, hr]; done) | exact h.obj b _ (hg b _ hb)
    | live c k x => exact h.obj b o (by rw [← e b (by rw [hr]; simp)]; exact hb)
  apart b b' c k x k' x' ho h1 h2 := h.apart b b' c k x k' x' ((ownB_of (e b (by rw [h1]; simp))).1 ho) h1 h2
theorem Step.congr_live {ρ ρ' : Rho} {H H' G : AHeap} {w w' : World} (h : Step ρ H w ρ' H' w') (e : ∀ b, ρ' b ≠ .no → G.get b = H'.get b) : Step ρ H w ρ' G w' :=
  ⟨h.os, h.tape, h.output, h.size, h.block, fun b c k x ho hl => h.own b c k x ((ownB_of (e b (by rw [hl]; simp))).1 ho) hl,
   fun b c k x hl hn => ⟨(h.keep b c k x hl hn).1, fun ho => (h.keep b c k x hl hn).2 ((ownB_of (e b (by rw [(h.keep b c k x hl hn).1]; simp))).1 ho)⟩, h.src⟩
theorem Step.congr_left {ρ ρ' : Rho} {H H' G : AHeap} {w w' : World} (h : Step ρ H w ρ' H' w') (e : ∀ b, G.get b = H.get b) : Step ρ G w ρ' H' w' :=
  ⟨h.os, h.tape, h.output, h.size, fun c hc hn => h.block c hc fun b k x ho => hn b k x ((ownB_of (e b)).2 ho),
   fun b c k x ho hl => (h.own b c k x ho hl).imp id fun ⟨b0, k0, x0, q1, q2⟩ => ⟨b0, k0, x0, (ownB_of (e b0)).2 q1, q2⟩,
   fun b c k x hl hn => h.keep b c k x hl fun ho => hn ((ownB_of (e b)).2 ho),
   fun b c k x hl => (h.src b c k x hl).imp id fun h => h.imp id fun ⟨b0, k0, x0, q1, q2⟩ => ⟨b0, k0, x0, (ownB_of (e b0)).2 q1, q2⟩⟩
theorem Mono.widen {a b c d : Nat} {ρ0 ρ ρ' : Rho} (h : Mono a b ρ0 ρ) (h' : Mono c d ρ ρ') (hs : c = d ∨ (a ≤ c ∧ d ≤ b)) : Mono a b ρ0 ρ' where
  out q hq := by
    have hout : ¬ (c ≤ q ∧ q < d) := by omega
    rcases h.out q hq with e | ⟨c1, k1, x1, e1, e2⟩
    · rcases h'.out q hout with e' | ⟨c1, k1, x1, e1, e2⟩
      · exact .inl (e'.trans e)
      · exact .inr ⟨c1, k1, x1, e ▸ e1, e2⟩
    · rcases h'.out q hout with e' | ⟨c2, k2, x2, e3, e4⟩
      · exact .inr ⟨c1, k1, x1, e1, e'.trans e2⟩
      · rw [e2] at e3; cases e3
  new := h.new
theorem Fresh.stay {ρ ρ' : Rho} {n m c d : Nat} (h : Fresh ρ n m) (hm : Mono c d ρ ρ') (hd : c = d ∨ m ≤ c ∨ d ≤ n) : Fresh ρ' n m := fun b h1 h2 => by
  have h0 := h b h1 h2
  rcases hm.out b (by omega) with e | ⟨c1, k1, x1, e1, _⟩
  · rw [e]; exact h0
  · rw [h0] at e1; cases e1

theorem filter_lt {α : Type} {p q : α → Bool} : ∀ {l : List α}, (∀ x ∈ l, q x = true → p x = true) → ∀ x, x ∈ l → p x = true → q x = false → (l.filter q).length < (l.filter p).length
  | [], _, x, hx, _, _ => by simp at hx
  | y :: r, h, x, hx, h1, h2 => by
    have hle : ∀ {l : List α}, (∀ x ∈ l, q x = true → p x = true) → (l.filter q).length ≤ (l.filter p).length := by
      intro l
      induction l with
      | nil => intro _; simp
      | cons z l ih =>
        intro hz
        have := ih fun x hx => hz x (by simp [hx])
        simp only [List.filter_cons]
        cases hq : q z with
        | true => rw [hz z (by simp) hq]; simp; omega
        | false => cases p z <;> simp <;> omega
    simp only [List.mem_cons] at hx
    simp only [List.filter_cons]
    have hr := hle (l := r) fun z hz => h z (by simp [hz])
    rcases hx with rfl | hx
    · rw [h1, h2]; simp; omega
    · have := filter_lt (l := r) (fun z hz => h z (by simp [hz])) x hx h1 h2
      cases hq : q y with
      | true => rw [h y (by simp) hq]; simp; omega
      | false => cases p y <;> simp <;> omega

namespace Ctx
variable {call : FuncId → List Value → AHeap → Option (CRes × AHeap)} {ops : Array Oper} {tr : List (Nat × Ev)}

structure Inv (C : Ctx P call ops tr) (L : Nat → Prop) (ρ0 : Rho) (base : Nat) (w0 : World) (a : Act) (w : World) (ρ : Rho) (g : Fr) (p : Nat) : Prop where
  frel : FRel ρ g a
  gfix : g.fix = (C.T.fr 0).fix
  agree : ∀ t j, j ≤ ops.size → (∀ (i : Nat) o, ops[i]? = some o → o.dst = some t → (L i ↔ i < j)) → g.get t = (C.T.fr j).get t
  hp : p ≤ ops.size
  eff : ∀ i, i < ops.size → C.EffAt i → (L i ↔ i < p)
  sim : Sim ρ base (C.F p) w
  fresh : ∀ i, i < ops.size → ¬ L i → Fresh ρ (C.T.hp i).next (C.T.hp (i + 1)).next
  mono : Mono (C.T.hp 0).next (C.T.hp ops.size).next ρ0 ρ
  step : Step ρ0 (C.T.hp 0) w0 ρ (C.F p) w
  down : Down ops L

variable (C : Ctx P call ops tr)

theorem F_globs {p : Nat} (hp : p ≤ ops.size) (b n : Nat) (h : (C.F p).get b = some (.globs n)) : (C.T.hp p).get b = some (.globs n) := by
  refine later_globs2 (ops.size - p) p _ (fun i b' o' h1 h2 he n e => ?_) h
  have hi : i < ops.size := by omega
  have ho := op_at (ops := ops) hi
  cases hw : wantedA ops ops[i] (C.T.fr i) with
  | false => obtain ⟨h1, h2, h3⟩ := C.T.skip i _ (Nat.zero_le _) ho hw; rw [h1] at he; cases he
  | true =>
    rcases C.ev_cases ho hw with ⟨h1, -⟩ | ⟨_, _, _, h1, -⟩ | ⟨ob', vf, h1, _, _, h2, -⟩ | ⟨h1, -⟩ <;> rw [h1] at he <;> cases he
    exact make_globs h2 n e

theorem start {ρ0 : Rho} {base : Nat} {w0 : World} {a : Act} (hs : Sim ρ0 base (C.T.hp 0) w0) (hf : FRel ρ0 (C.T.fr 0) a) (hfr : Fresh ρ0 (C.T.hp 0).next (C.T.hp ops.size).next) :
    C.Inv (fun _ => False) ρ0 base w0 a w0 ρ0 (C.T.fr 0) 0 := by
  have hlive : ∀ b, ρ0 b ≠ .no → (C.F 0).get b = (C.T.hp 0).get b := fun b hb => by
    refine C.F_else (Nat.zero_le _) fun i o h1 h2 he => ?_
    obtain ⟨e1, e2⟩ := C.make_at h2 he
    have h3 := C.next_mono (i := 0) (j := i) (by omega) (by omega)
    have h4 := C.next_mono (i := i + 1) (j := ops.size) (by omega) (by omega)
    rw [e2] at h4; simp at h4
    exact hb (hfr b (by omega) (by omega))
  refine ⟨hf, rfl, ?_, Nat.zero_le _, fun i _ _ => by simp, hs.congr_live hlive (C.F_globs (Nat.zero_le _)), ?_, ⟨fun _ _ => .inl rfl, hfr⟩, (Step.refl _ _ _).congr_live hlive, fun i o _ h => h.elim⟩
  · intro t j hj hc
    have := C.fr_same t (j := 0) j (by omega) fun i o h1 h2 h3 h4 => ((hc i o h3 h4).2 (by omega))
    rw [Nat.zero_add] at this; exact this.symm
  · intro i hi _ b h1 h2
    have h3 := C.next_mono (i := 0) (j := i) (by omega) (by omega)
    have h4 := C.next_mono (i := i + 1) (j := ops.size) (by omega) (by omega)
    exact hfr b (by omega) (by omega)

variable {C}

section
variable {L : Nat → Prop} {ρ0 ρ : Rho} {base : Nat} {w0 w : World} {a : Act} {g : Fr} {p j : Nat} {o : Oper}

/-- What comes ahead of an operation that is ready is listed. -/
theorem ahead (I : C.Inv L ρ0 base w0 a w ρ g p) (ho : ops[j]? = some o) (hr : ∀ e ∈ o.after, Region.binds .any e = true → L e.on) {i : Nat} (h : ((Region.before ops).getD j 0).testBit i = true) : L i :=
  before_listed I.down C.back j j (Nat.le_refl _) o i ho hr h
/-- What waits for one that is not listed is not listed. -/
theorem behind (I : C.Inv L ρ0 base w0 a w ρ g p) {i : Nat} {oi : Oper} (hi : ops[i]? = some oi) (hj : ¬ L j) (h : ((Region.before ops).getD i 0).testBit j = true) : ¬ L i := fun hL =>
  hj (before_listed I.down C.back i i (Nat.le_refl _) oi j hi (I.down i oi hi hL) h)

theorem reads_agree (I : C.Inv L ρ0 base w0 a w ρ g p) (ho : ops[j]? = some o) (hj : ¬ L j) (hr : ∀ e ∈ o.after, Region.binds .any e = true → L e.on) : ∀ t ∈ readsOf ops o, g.get t = (C.T.fr j).get t := by
  intro t ht
  refine I.agree t j (by have := lt_of ho; omega) fun i oi hi hd => ?_
  rcases Nat.lt_trichotomy i j with h | h | h
  · refine ⟨fun _ => h, fun _ => ?_⟩
    rcases C.pair hi ho h with q | ⟨_, q, _⟩
    · exact ahead I ho hr q
    · exact ((q t hd).1 ht).elim
  · subst h; exact ⟨fun h => (hj h).elim, fun h => by omega⟩
  · refine ⟨fun hL => ?_, fun h' => by omega⟩
    rcases C.pair ho hi h with q | ⟨_, _, q⟩
    · exact (behind I hi hj q hL).elim
    · exact (q t hd ht).elim

/-- The frame's part of a step. -/
theorem next_frame (I : C.Inv L ρ0 base w0 a w ρ g p) (ho : ops[j]? = some o) (hj : ¬ L j) (hr : ∀ e ∈ o.after, Region.binds .any e = true → L e.on) {g' : Fr} (hg : g.put o.dst (C.T.val j) = some g') :
    g'.fix = (C.T.fr 0).fix ∧ (∀ t k, k ≤ ops.size → (∀ (i : Nat) o', ops[i]? = some o' → o'.dst = some t → ((L i ∨ i = j) ↔ i < k)) → g'.get t = (C.T.fr k).get t) ∧ Down ops (fun i => L i ∨ i = j) := by
  refine ⟨(fr_fix hg).trans I.gfix, fun t k hk hc => ?_, fun i oi hi hL e he hb => ?_⟩
  · rw [Fr.get_put hg]
    by_cases hd : o.dst = some t
    · rw [if_pos hd]
      have hjk : j < k := (hc j o ho hd).1 (.inr rfl)
      have h1 := C.fr_same t (j := j + 1) (k - (j + 1)) (by omega) fun i oi q1 q2 q3 q4 => by
        have hL := (hc i oi q3 q4).2 (by omega)
        rcases hL with hL | hL
        · rcases C.pair ho q3 (by omega) with q | ⟨_, q, _⟩
          · exact behind I q3 hj q hL
          · exact (q t hd).2 q4
        · omega
      rw [show j + 1 + (k - (j + 1)) = k by omega] at h1
      rw [h1, Fr.get_put (C.T.put j o (Nat.zero_le _) ho), if_pos hd]
    · rw [if_neg hd]
      refine I.agree t k hk fun i oi hi hdi => ?_
      have hij : i ≠ j := fun e => by subst e; rw [ho] at hi; cases hi; exact hd hdi
      rw [← hc i oi hi hdi]
      exact ⟨fun h => .inl h, fun h => h.resolve_right hij⟩
  · rcases hL with hL | hL
    · exact .inl (I.down i oi hi hL e he hb)
    · subst hL; rw [ho] at hi; cases hi; exact .inl (hr e he hb)

/-- What is looked at is as it was in the order of the text. -/
theorem look_stable (I : C.Inv L ρ0 base w0 a w ρ g p) (ho : ops[j]? = some o) (hj : ¬ L j) (hr : ∀ e ∈ o.after, Region.binds .any e = true → L e.on) {b q n : Nat} (hm : (j, Ev.look b q n) ∈ tr) (hs : (cellsAt (C.T.hp j) b q n).isSome = true) :
    cellsAt (C.F p) b q n = cellsAt (C.T.hp j) b q n := by
  have hjn := lt_of ho
  have hb : b < (C.T.hp j).next := by
    obtain ⟨l, hl⟩ := Option.isSome_iff_exists.1 hs
    obtain ⟨cs, esz, own, hg, -⟩ := cellsAt_get hl
    exact (C.wf j (by omega)).lt hg
  rw [C.chain2 (fun H => cellsAt H b q n) I.hp (j := j) (by omega) ?_, cellsAt_congr (C.F_old (by omega) hb)]
  intro k hk hpos
  by_cases he : C.EffAt k
  · by_cases hmk : ∃ i o', k < i ∧ i < ops.size ∧ C.T.ev i = some (.make b o')
    · exact cellsAt_congr (C.F_eff_get hk he (.inr hmk)) q n
    · rcases C.look_ok hm (C.eff_mem hk he).1 with h | h
      · have e1 := C.F_else (p := k) (b := b) (by omega) fun i o' h1 h2 h3 => by
          by_cases e : i = k
          · subst e; rw [show C.T.ev i = some (.eff (C.T.hp i) (C.T.hp (i + 1))) from he] at h3; cases h3
          · exact hmk ⟨i, o', by omega, h2, h3⟩
        have e2 := C.F_else (p := k + 1) (b := b) (by omega) fun i o' h1 h2 h3 => hmk ⟨i, o', by omega, h2, h3⟩
        show cellsAt (C.F k) b q n = cellsAt (C.F (k + 1)) b q n
        rw [cellsAt_congr e1, cellsAt_congr e2]; exact h
      · exfalso
        have hL := I.eff k hk he
        unfold orderedB at h
        rcases hpos with ⟨h1, h2⟩ | ⟨h1, h2⟩
        · have : Nat.blt j k = false := by
            cases hb : Nat.blt j k with
            | false => rfl
            | true => rw [Nat.blt_eq] at hb; omega
          rw [this] at h
          have := hL.1 (ahead I ho hr h)
          omega
        · have hne : j ≠ k := fun e => by
            subst e
            exact hj (hL.2 h2)
          have : Nat.blt j k = true := by rw [Nat.blt_eq]; omega
          rw [this] at h
          exact behind I (op_at hk) hj h (hL.2 h2)
  · exact cellsAt_congr (C.F_step hk he b) q n

/-- What is to be made is booked as it will be. -/
theorem make_stable (I : C.Inv L ρ0 base w0 a w ρ g p) (ho : ops[j]? = some o) (hj : ¬ L j) (hr : ∀ e ∈ o.after, Region.binds .any e = true → L e.on) {b : Nat} {ob : AObj} (he0 : C.T.ev j = some (.make b ob)) (hm : (j, Ev.make b ob) ∈ tr) :
    (C.F p).get b = some ob := by
  have hjn := lt_of ho
  have hu : ∀ i o', j < i → i < ops.size → C.T.ev i ≠ some (.make b o') := fun i o' h1 h2 h3 => C.make_unique h2 h1 he0 h3
  rw [C.chain2 (fun H => H.get b) I.hp (j := j) (by omega) ?_, C.F_make (Nat.le_refl _) hjn he0 hu]
  intro k hk hpos
  by_cases he : C.EffAt k
  · refine C.F_eff_get hk he ?_
    have hne : k ≠ j := fun e => by
      subst e
      rw [show C.T.ev k = some (.eff (C.T.hp k) (C.T.hp (k + 1))) from he] at he0; cases he0
    rcases hpos with ⟨h1, h2⟩ | ⟨h1, h2⟩
    · exact .inr ⟨j, ob, h2, hjn, he0⟩
    · rcases C.keep_ok hm (C.eff_mem hk he).1 (by omega) with h | h
      · exact .inl h
      · exfalso
        have hL := I.eff k hk he
        unfold orderedB at h
        have : Nat.blt j k = true := by rw [Nat.blt_eq]; omega
        rw [this] at h
        exact behind I (op_at hk) hj h (hL.2 h2)
  · exact C.F_step hk he b
end
end Ctx
end Go.AX
