/- Regions whose order is drawn: the proof. -/
import Derived.Test.YtgbclgkadlfejaaAxDraw3
namespace Go.AX
open Go Go.RowKit
set_option linter.unusedVariables false
set_option linter.unusedSimpArgs false

variable {P : Program}

theorem fr_size {f f' : Fr} {d : Option Tmp} {v : Value} (h : f.put d v = some f') : f'.size = f.size := by
  unfold Fr.put at h
  cases d with
  | none => simp at h; subst h; rfl
  | some d => cases hb : Nat.blt d f.size <;> simp [hb] at h; subst h; rfl
def Fr.fix (f : Fr) : Nat × List (FuncId × List Value) × Nat := (f.size, f.defs, f.glob)
theorem fr_fix {f f' : Fr} {d : Option Tmp} {v : Value} (h : f.put d v = some f') : f'.fix = f.fix := by
  unfold Fr.fix; rw [fr_size h, (Fr.put_fix h).1, (Fr.put_fix h).2]
theorem put_of_size {f g f' : Fr} {d : Option Tmp} {v : Value} (u : Value) (h : f.put d v = some f') (hs : g.size = f.size) : ∃ g', g.put d u = some g' := by
  cases d with
  | none => exact ⟨_, rfl⟩
  | some d =>
    simp only [Fr.put] at h ⊢
    rw [hs]
    cases hb : Nat.blt d f.size with
    | false => simp [hb] at h
    | true => exact ⟨_, rfl⟩

/-- What is fixed of a region while its order is drawn. -/
structure Ctx (P : Program) (call : FuncId → List Value → AHeap → Option (CRes × AHeap)) (ops : Array Oper) (tr : List (Nat × Ev)) where
  hcall : CallOk P call
  hname : ∀ (g : FuncId) fn, P.funcs[g]? = some fn → fn.name ≠ "runtime.NumGoroutine"
  hcw : CallWf call
  hreg : regOk P ops = true
  hdraw : drawOk ops tr = true
  T : Trace P call ops tr 0
  wf0 : Wf (T.hp 0)

namespace Ctx
variable {call : FuncId → List Value → AHeap → Option (CRes × AHeap)} {ops : Array Oper} {tr : List (Nat × Ev)} (C : Ctx P call ops tr)

theorem op_at {i : Nat} (h : i < ops.size) : ops[i]? = some (ops[i]) := Array.getElem?_eq_getElem h
theorem lt_of {i : Nat} {o : Oper} (h : ops[i]? = some o) : i < ops.size := (Array.getElem?_eq_some_iff.1 h).1

theorem step_next {i : Nat} (h : i < ops.size) : (C.T.hp i).next ≤ (C.T.hp (i + 1)).next := by
  have ho := op_at h
  cases hw : wantedA ops ops[i] (C.T.fr i) with
  | true => obtain ⟨e, h1, h2, h3⟩ := C.T.want i _ (Nat.zero_le _) ho hw; exact (op_val C.hcall C.hname h2).1
  | false => obtain ⟨h1, h2, h3⟩ := C.T.skip i _ (Nat.zero_le _) ho hw; rw [h3]; exact Nat.le_refl _
theorem step_wf {i : Nat} (h : i < ops.size) (hw0 : Wf (C.T.hp i)) : Wf (C.T.hp (i + 1)) := by
  have ho := op_at h
  cases hw : wantedA ops ops[i] (C.T.fr i) with
  | true => obtain ⟨e, h1, h2, h3⟩ := C.T.want i _ (Nat.zero_le _) ho hw; exact op_wf C.hcw h2 hw0
  | false => obtain ⟨h1, h2, h3⟩ := C.T.skip i _ (Nat.zero_le _) ho hw; rw [h3]; exact hw0
theorem wf (i : Nat) (h : i ≤ ops.size) : Wf (C.T.hp i) := by
  induction i with
  | zero => exact C.wf0
  | succ i ih => exact C.step_wf (by omega) (ih (by omega))
theorem next_le {i : Nat} (d : Nat) (h : i + d ≤ ops.size) : (C.T.hp i).next ≤ (C.T.hp (i + d)).next := by
  induction d with
  | zero => exact Nat.le_refl _
  | succ d ih => exact Nat.le_trans (ih (by omega)) (C.step_next (i := i + d) (by omega))
theorem next_mono {i j : Nat} (h : i ≤ j) (hj : j ≤ ops.size) : (C.T.hp i).next ≤ (C.T.hp j).next := by
  have := C.next_le (i := i) (j - i) (by omega)
  rwa [show i + (j - i) = j by omega] at this
theorem fsize (i : Nat) (h : i ≤ ops.size) : (C.T.fr i).size = (C.T.fr 0).size := by
  induction i with
  | zero => rfl
  | succ i ih => exact (fr_size (C.T.put i _ (Nat.zero_le _) (op_at (by omega)))).trans (ih (by omega))
theorem ffix (i : Nat) (h : i ≤ ops.size) : (C.T.fr i).fix = (C.T.fr 0).fix := by
  induction i with
  | zero => rfl
  | succ i ih => exact (fr_fix (C.T.put i _ (Nat.zero_le _) (op_at (by omega)))).trans (ih (by omega))

/-- No write, no change. -/
theorem fr_same (t : Nat) {j : Nat} (d : Nat) (h : j + d ≤ ops.size) (hn : ∀ i o, j ≤ i → i < j + d → ops[i]? = some o → o.dst ≠ some t) : (C.T.fr (j + d)).get t = (C.T.fr j).get t := by
  induction d with
  | zero => rfl
  | succ d ih =>
    have ho := op_at (ops := ops) (i := j + d) (by omega)
    rw [show j + (d + 1) = j + d + 1 by omega, Fr.get_put (C.T.put (j + d) _ (Nat.zero_le _) ho), if_neg (hn (j + d) _ (by omega) (by omega) ho)]
    exact ih (by omega) fun i o h1 h2 h3 => hn i o h1 (by omega) h3

/-- What an operation that is wanted did. -/
theorem ev_cases {i : Nat} {o : Oper} (ho : ops[i]? = some o) (hw : wantedA ops o (C.T.fr i) = true) :
    (C.T.ev i = some .quiet ∧ C.T.hp (i + 1) = C.T.hp i ∧ ∀ F, aOp P call (C.T.fr i) F o.op = some (.val (C.T.val i) F .quiet)) ∨
    (∃ b q n, C.T.ev i = some (.look b q n) ∧ (i, .look b q n) ∈ tr ∧ C.T.hp (i + 1) = C.T.hp i ∧ (cellsAt (C.T.hp i) b q n).isSome = true ∧ ∀ F, cellsAt F b q n = cellsAt (C.T.hp i) b q n → aOp P call (C.T.fr i) F o.op = some (.val (C.T.val i) F (.look b q n))) ∨
    (∃ ob vf, C.T.ev i = some (.make (C.T.hp i).next ob) ∧ (i, .make (C.T.hp i).next ob) ∈ tr ∧ C.T.hp (i + 1) = (C.T.hp i).push ob ∧ aMake P (C.T.fr i) o.op = some (ob, vf) ∧ C.T.val i = vf (C.T.hp i).next) ∨
    (C.T.ev i = some (.eff (C.T.hp i) (C.T.hp (i + 1))) ∧ (i, .eff (C.T.hp i) (C.T.hp (i + 1))) ∈ tr ∧ isEff P o.op = true ∧ aOp P call (C.T.fr i) (C.T.hp i) o.op = some (.val (C.T.val i) (C.T.hp (i + 1)) (.eff (C.T.hp i) (C.T.hp (i + 1))))) := by
  obtain ⟨e, h1, h2, h3⟩ := C.T.want i o (Nat.zero_le _) ho hw
  rcases op_ev h2 with ⟨rfl, q1, q2⟩ | ⟨b, q, n, rfl, q1, q2, q3⟩ | ⟨ob, vf, rfl, q1, q2, q3⟩ | ⟨rfl, q1⟩
  · exact .inl ⟨h1, q1, q2⟩
  · exact .inr (.inl ⟨b, q, n, h1, h3, q1, q2, q3⟩)
  · exact .inr (.inr (.inl ⟨ob, vf, h1, h3, q1, q2, q3⟩))
  · exact .inr (.inr (.inr ⟨h1, h3, q1, h2⟩))

def EffAt (i : Nat) : Prop := C.T.ev i = some (.eff (C.T.hp i) (C.T.hp (i + 1)))
/-- The memory behind the first p, with all that is made later. -/
noncomputable def F (p : Nat) : AHeap := later C.T.ev (ops.size - p) p (C.T.hp p)

theorem make_at {i b : Nat} {ob : AObj} (h : i < ops.size) (he : C.T.ev i = some (.make b ob)) : b = (C.T.hp i).next ∧ C.T.hp (i + 1) = (C.T.hp i).push ob := by
  have ho := op_at h
  cases hw : wantedA ops ops[i] (C.T.fr i) with
  | false => obtain ⟨h1, h2, h3⟩ := C.T.skip i _ (Nat.zero_le _) ho hw; rw [h1] at he; cases he
  | true =>
    rcases C.ev_cases ho hw with ⟨h1, -⟩ | ⟨_, _, _, h1, -⟩ | ⟨ob', vf, h1, _, h2, -⟩ | ⟨h1, -⟩ <;> rw [h1] at he <;> cases he
    exact ⟨rfl, h2⟩
theorem make_unique {i j b : Nat} {o o' : AObj} (hj : j < ops.size) (hij : i < j) (h1 : C.T.ev i = some (.make b o)) (h2 : C.T.ev j = some (.make b o')) : False := by
  obtain ⟨e1, e2⟩ := C.make_at (by omega) h1
  obtain ⟨e3, -⟩ := C.make_at hj h2
  have := C.next_mono (i := i + 1) (j := j) (by omega) (by omega)
  rw [e2] at this; simp at this; omega
theorem ev_out {i : Nat} (h : ops.size ≤ i) : True := trivial

theorem F_make {p i b : Nat} {ob : AObj} (h1 : p ≤ i) (h2 : i < ops.size) (he : C.T.ev i = some (.make b ob)) (hn : ∀ j o', i < j → j < ops.size → C.T.ev j ≠ some (.make b o')) : (C.F p).get b = some ob := by
  unfold F
  -- beyond the region nothing counts: the chain stops at its end
  have key : ∀ (c p : Nat) (G : AHeap), p ≤ i → i < p + c → p + c ≤ ops.size → (later C.T.ev c p G).get b = some ob := by
    intro c
    induction c with
    | zero => intro p G q1 q2; omega
    | succ c ih =>
      intro p G q1 q2 q3
      simp only [later]
      by_cases e : i = p
      · subst e
        rw [he]
        simp only
        rw [later_else C.T.ev c (i + 1) _ fun j r1 r2 o' => hn j o' (by omega) (by omega), AHeap.get_set, if_pos rfl]
      · exact ih (p + 1) _ (by omega) (by omega) (by omega)
  exact key _ _ _ h1 (by omega) (by omega)
theorem F_else {p b : Nat} (hp : p ≤ ops.size) (h : ∀ i o, p ≤ i → i < ops.size → C.T.ev i ≠ some (.make b o)) : (C.F p).get b = (C.T.hp p).get b :=
  later_else _ _ _ _ fun i h1 h2 o => h i o h1 (by omega)
theorem F_old {p b : Nat} (hp : p ≤ ops.size) (h : b < (C.T.hp p).next) : (C.F p).get b = (C.T.hp p).get b :=
  C.F_else hp fun i o h1 h2 he => by
    obtain ⟨e, -⟩ := C.make_at h2 he
    have := C.next_mono h1 (by omega)
    omega
theorem F_succ {p : Nat} (hp : p < ops.size) : C.F p = later C.T.ev (ops.size - (p + 1)) (p + 1) (match C.T.ev p with | some (.make b o) => (C.T.hp p).set b o | _ => C.T.hp p) := by
  unfold F
  rw [show ops.size - p = (ops.size - (p + 1)) + 1 by omega]; rfl
theorem F_step {p : Nat} (hp : p < ops.size) (hn : ¬ C.EffAt p) (b : Nat) : (C.F p).get b = (C.F (p + 1)).get b := by
  rw [C.F_succ hp]
  refine later_congr _ _ _ _ _ (fun d => ?_) b
  have ho := op_at hp
  cases hw : wantedA ops ops[p] (C.T.fr p) with
  | false => obtain ⟨h1, h2, h3⟩ := C.T.skip p _ (Nat.zero_le _) ho hw; rw [h1, h3]
  | true =>
    rcases C.ev_cases ho hw with ⟨h1, h2, -⟩ | ⟨_, _, _, h1, _, h2, -⟩ | ⟨ob', vf, h1, _, h2, -⟩ | ⟨h1, -⟩
    · rw [h1, h2]
    · rw [h1, h2]
    · rw [h1, h2]; simp only; rw [AHeap.get_push, AHeap.get_set]
    · exact (hn h1).elim
theorem F_eff {p : Nat} (hp : p < ops.size) (he : C.EffAt p) : C.F p = later C.T.ev (ops.size - (p + 1)) (p + 1) (C.T.hp p) := by
  rw [C.F_succ hp]
  have : C.T.ev p = some (.eff (C.T.hp p) (C.T.hp (p + 1))) := he
  rw [this]
/-- What is made later stands on both sides of an effect. -/
theorem F_eff_get {p b : Nat} (hp : p < ops.size) (he : C.EffAt p) (h : (C.T.hp p).get b = (C.T.hp (p + 1)).get b ∨ ∃ i o, p < i ∧ i < ops.size ∧ C.T.ev i = some (.make b o)) : (C.F p).get b = (C.F (p + 1)).get b := by
  by_cases hm : ∃ i o, p < i ∧ i < ops.size ∧ C.T.ev i = some (.make b o)
  · obtain ⟨i, o, h1, h2, h3⟩ := hm
    have hu : ∀ j o', i < j → j < ops.size → C.T.ev j ≠ some (.make b o') := fun j o' q1 q2 q3 => C.make_unique q2 q1 h3 q3
    rw [C.F_make (p := p) (by omega) h2 h3 hu, C.F_make (p := p + 1) (by omega) h2 h3 hu]
  · have hx := h.resolve_right hm
    have hp1 : C.T.ev p = some (.eff (C.T.hp p) (C.T.hp (p + 1))) := he
    rw [C.F_else (p := p) (by omega) fun i o q1 q2 q3 => ?_, C.F_else (p := p + 1) (by omega) fun i o q1 q2 q3 => hm ⟨i, o, by omega, q2, q3⟩, hx]
    by_cases e : i = p
    · subst e; rw [hp1] at q3; cases q3
    · exact hm ⟨i, o, by omega, q2, q3⟩

/-- A look at the memories one behind the other. -/
theorem chain {α : Type} (X : AHeap → α) (d p : Nat) (h : p + d ≤ ops.size) (hx : ∀ q, p ≤ q → q < p + d → X (C.F q) = X (C.F (q + 1))) : X (C.F p) = X (C.F (p + d)) := by
  induction d with
  | zero => rfl
  | succ d ih =>
    rw [ih (by omega) fun q h1 h2 => hx q h1 (by omega), hx (p + d) (by omega) (by omega)]; rfl
theorem chain2 {α : Type} (X : AHeap → α) {p j : Nat} (hp : p ≤ ops.size) (hj : j ≤ ops.size) (hx : ∀ q, q < ops.size → (p ≤ q ∧ q < j ∨ j ≤ q ∧ q < p) → X (C.F q) = X (C.F (q + 1))) : X (C.F p) = X (C.F j) := by
  rcases Nat.le_total p j with h | h
  · have := C.chain X (j - p) p (by omega) fun q h1 h2 => hx q (by omega) (.inl ⟨h1, by omega⟩)
    rwa [show p + (j - p) = j by omega] at this
  · have := C.chain X (p - j) j (by omega) fun q h1 h2 => hx q (by omega) (.inr ⟨h1, by omega⟩)
    rw [show j + (p - j) = p by omega] at this; exact this.symm

theorem back (C : Ctx P call ops tr) : ∀ (j : Nat) o, ops[j]? = some o → ∀ e ∈ o.after, Region.binds .any e = true → e.on < j := fun j o ho e he hb => by
  have := (rowsOk_get (b := Region.before ops) C.hreg j o (by simpa using ho)).2 e he hb
  simpa using this
theorem pair (C : Ctx P call ops tr) {i j : Nat} {oi oj : Oper} (hi : ops[i]? = some oi) (hj : ops[j]? = some oj) (hij : i < j) : ((Region.before ops).getD j 0).testBit i = true ∨
    (¬ (isEff P oi.op = true ∧ isEff P oj.op = true) ∧ (∀ d, oi.dst = some d → d ∉ readsOf ops oj ∧ oj.dst ≠ some d) ∧ ∀ d, oj.dst = some d → d ∉ readsOf ops oi) := by
  have h1 := (rowsOk_get (b := Region.before ops) C.hreg j oj (by simpa using hj)).1
  have h2 := rowOk_get h1 i oi (by simpa using hi) (by omega)
  simp only [Nat.zero_add, pairOk, Bool.or_eq_true, Bool.and_eq_true] at h2
  rcases h2 with h2 | ⟨⟨h2, h3⟩, h4⟩
  · exact .inl h2
  · refine .inr ⟨fun h => by simp [h.1, h.2] at h2, fun d hd => ?_, fun d hd => ?_⟩
    · rw [hd] at h3
      simp only [Bool.and_eq_true, Bool.not_eq_true', List.contains_eq_mem, decide_eq_false_iff_not, beq_eq_false_iff_ne] at h3
      exact h3
    · rw [hd] at h4
      simpa using h4

theorem look_ok {j q b o n : Nat} (h1 : (j, Ev.look b o n) ∈ tr) (h2 : (q, Ev.eff (C.T.hp q) (C.T.hp (q + 1))) ∈ tr) : cellsAt (C.T.hp q) b o n = cellsAt (C.T.hp (q + 1)) b o n ∨ orderedB ops j q = true := by
  have h := C.hdraw
  unfold drawOk at h
  have h3 := List.all_eq_true.1 (List.all_eq_true.1 h _ h1) _ h2
  simp only [evOk, lookOk, Bool.or_eq_true, decide_eq_true_eq] at h3
  rcases h3 with (h3 | h3) | h3
  · exact .inr h3
  · exact .inl (sameO_sound h3)
  · exact .inl h3
theorem keep_ok {j q b : Nat} {ob : AObj} (h1 : (j, Ev.make b ob) ∈ tr) (h2 : (q, Ev.eff (C.T.hp q) (C.T.hp (q + 1))) ∈ tr) (hjq : j < q) : (C.T.hp q).get b = (C.T.hp (q + 1)).get b ∨ orderedB ops j q = true := by
  have h := C.hdraw
  unfold drawOk at h
  have h3 := List.all_eq_true.1 (List.all_eq_true.1 h _ h1) _ h2
  have hb : Nat.blt j q = true := by simpa [Nat.blt_eq] using hjq
  simp only [evOk, hb, cond_true, keepOk, Bool.or_eq_true, decide_eq_true_eq] at h3
  rcases h3 with (h3 | h3) | h3
  · exact .inr h3
  · exact .inl (sameObj_sound h3)
  · exact .inl h3
theorem eff_mem {q : Nat} (hq : q < ops.size) (he : C.EffAt q) : (q, Ev.eff (C.T.hp q) (C.T.hp (q + 1))) ∈ tr ∧ isEff P ops[q].op = true := by
  have ho := op_at hq
  have he' : C.T.ev q = some (.eff (C.T.hp q) (C.T.hp (q + 1))) := he
  cases hw : wantedA ops ops[q] (C.T.fr q) with
  | false => obtain ⟨h1, h2, h3⟩ := C.T.skip q _ (Nat.zero_le _) ho hw; rw [h1] at he'; cases he'
  | true =>
    rcases C.ev_cases ho hw with ⟨h1, -⟩ | ⟨_, _, _, h1, -⟩ | ⟨ob', vf, h1, -⟩ | ⟨h1, h2, h3, -⟩
    · rw [h1] at he'; cases he'
    · rw [h1] at he'; cases he'
    · rw [h1] at he'; cases he'
    · exact ⟨h2, h3⟩
end Ctx
end Go.AX
