/- What a law owes: a closed call, by the abstract executor. -/
import Derived.Test.YtjnegbcdeggpfaaDoorAxExec
namespace Go.AX
open Go Go.RowKit
set_option linter.unusedVariables false

variable {P : Program}

theorem progOk_name (h : progOk P = true) : ∀ (g : FuncId) fn, P.funcs[g]? = some fn → fn.name ≠ "runtime.NumGoroutine" := fun g fn hf => by
  have := List.all_eq_true.1 h fn (by simpa using Array.mem_of_getElem? hf)
  simp only [Bool.and_eq_true, Bool.not_eq_true', beq_eq_false_iff_ne] at this
  exact this.2
theorem progOk_code (h : progOk P = true) : ∀ (g : FuncId) fn c, P.funcs[g]? = some fn → bodyOf fn = some c → codeOk P c = true := fun g fn c hf hb => by
  have := List.all_eq_true.1 h fn (by simpa using Array.mem_of_getElem? hf)
  simp only [Bool.and_eq_true, hb] at this
  exact this.1

/-- The executor tells the truth of calls. -/
theorem callOk (hp : progOk P = true) (hmix : P.follows .mixedOrders = true) (hprim : PrimOk P) (k : Nat) : CallOk P (callA P k) :=
  callX_sound (progOk_name hp) (progOk_code hp) hprim (exec_sound hmix (progOk_name hp) (progOk_code hp) hprim k).1 (exec_wf k)

def noRho : Rho := fun _ => .no
theorem sim_none (w : World) : Sim noRho w.heap.size H0 w where
  alive b x h := by cases h
  bsz := Nat.le_refl _
  inb b c k x h := by cases h
  obj b o h := by simp [H0, AHeap.get, Tr.get_nil] at h
  apart b b' c k x k' x' _ h := by cases h

/-- A closed call that the executor brings to true. -/
theorem closed_true (hp : progOk P = true) (hmix : P.follows .mixedOrders = true) (hprim : PrimOk P) {k : Nat} {g : FuncId} (h : isTrue (callA P k g [] H0) = true) (w : World) :
    Calls P g #[] w fun e w' => e = .returned (.bool true) ∧ Below w.heap.size w w' := by
  have hc := callOk hp hmix hprim k
  cases hr : callA P k g [] H0 with
  | none => rw [hr] at h; cases h
  | some x =>
    obtain ⟨r, H'⟩ := x
    rw [hr] at h
    obtain ⟨-, ⟨-, h3⟩ | ⟨-, v0, hv0, hv1, -⟩⟩ := hc g [] H0 r H' hr
    case inr =>
      subst hv0
      cases v0 <;> simp only [isTrue, Bool.false_eq_true] at h
      exact absurd rfl (hv1 _)
    refine (h3 (fun b _ => Tr.get_nil _) noRho w.heap.size w #[] (sim_none w) trivial (fun _ _ _ => rfl)).mono fun e w' he => ?_
    obtain ⟨ρ', ok, hm⟩ := he
    have hb : Below w.heap.size w w' := ⟨ok.step.os, ok.step.tape, ok.step.output, ok.step.size, fun k hk => ok.step.block k hk fun b c x _ hl => by cases hl⟩
    cases r with
    | ret v =>
      cases v <;> simp only [isTrue, Bool.false_eq_true] at h
      subst h
      cases e with
      | returned v' => cases hm; exact ⟨rfl, hb⟩
      | panicked c => exact hm.elim
      | outgrown => exact hm.elim
    | panic v => simp [isTrue] at h
/-! ### laws: hidden arguments, laid variables -/
noncomputable def laidH (n : Nat) : List (Nat × List Value) → AHeap
  | [] => ⟨Tr.nil.set 0 (.globs n), n + 1⟩
  | t :: r => (laidH n r).set (t.1 + 1) (.cells t.2 0 false)

theorem laidH_next (n : Nat) : ∀ ts, (laidH n ts).next = n + 1
  | [] => rfl
  | t :: r => laidH_next n r
theorem laidH_get {n : Nat} : ∀ {ts : List (Nat × List Value)} {b : Nat} {o : AObj}, (laidH n ts).get b = some o → (b = 0 ∧ o = .globs n) ∨ ∃ t ∈ ts, b = t.1 + 1 ∧ o = .cells t.2 0 false
  | [], b, o, h => by
    have : (Tr.nil.set 0 (AObj.globs n)).get b = some o := h
    rw [Tr.get_set] at this
    split at this
    · cases this; exact .inl ⟨by assumption, rfl⟩
    · rw [Tr.get_nil] at this; cases this
  | t :: r, b, o, h => by
    simp only [laidH, AHeap.get_set] at h
    split at h
    · cases h; exact .inr ⟨t, by simp, by assumption, rfl⟩
    · rcases laidH_get h with h | ⟨t', h1, h2⟩
      · exact .inl h
      · exact .inr ⟨t', by simp [h1], h2⟩

def laidRho (n : Nat) : Rho := fun b => if 0 < b ∧ b ≤ n then .live (b - 1) 0 0 else .no
theorem laidRho_live {n b c k x : Nat} (h : laidRho n b = .live c k x) : 0 < b ∧ b ≤ n ∧ c = b - 1 ∧ k = 0 ∧ x = 0 := by
  unfold laidRho at h
  split at h
  · rename_i hb; cases h; exact ⟨hb.1, hb.2, rfl, rfl, rfl⟩
  · cases h

theorem sim_laid {w : World} {n : Nat} {ts : List (Nat × List Value)} (hn : n ≤ w.heap.size) (hlt : ∀ t ∈ ts, t.1 < n) (hc : ∀ t ∈ ts, ∀ i v, t.2[i]? = some v → w.cell? ⟨t.1, i, none⟩ = some v ∧ plainV 9 v = true) :
    Sim (laidRho n) w.heap.size (laidH n ts) w where
  alive b x h := by unfold laidRho at h; split at h <;> cases h
  bsz := Nat.le_refl _
  inb b c k x h := by obtain ⟨h1, h2, rfl, -, -⟩ := laidRho_live h; omega
  obj b o h := by
    rcases laidH_get h with ⟨rfl, rfl⟩ | ⟨t, ht, rfl, rfl⟩
    · intro g hg
      have : laidRho n (g + 1) = .live g 0 0 := by unfold laidRho; rw [if_pos (by omega)]; simp
      simp [PRel, this]
    · have h1 := hlt t ht
      have : laidRho n (t.1 + 1) = .live t.1 0 0 := by unfold laidRho; rw [if_pos (by omega)]; simp
      simp only [ObjRel, this]
      refine ⟨fun i v hv => ?_, ⟨(fun h => by cases h), (fun h => absurd rfl h), fun _ => trivial, .none (by decide)⟩⟩
      obtain ⟨h2, h3⟩ := hc t ht i v hv
      exact ⟨v, by simpa using h2, vrel_plain _ 9 v h3⟩
  apart b b' c k x k' x' ho := by
    unfold ownB at ho
    cases hg : (laidH n ts).get b with
    | none => rw [hg] at ho; exact ho.elim
    | some o => rcases laidH_get hg with ⟨rfl, rfl⟩ | ⟨t, ht, rfl, rfl⟩ <;> rw [hg] at ho <;> exact ho.elim

/-- A law: nobody looks at its arguments; the listed variables hold what is told. -/
theorem law_true (hp : progOk P = true) (hmix : P.follows .mixedOrders = true) (hprim : PrimOk P) {k na n : Nat} {ts : List (Nat × List Value)} {g : FuncId} (h : isTrue (callA P k g (List.replicate na (.chan none)) (laidH n ts)) = true)
    (args' : Array Value) (hna : args'.size = na) (h1 : ∀ v ∈ args'.toList, v.oneCell' = true ∧ ∀ b, v ≠ .bool b) (w : World)
    (hn : n ≤ w.heap.size) (hlt : ∀ t ∈ ts, t.1 < n) (hcell : ∀ t ∈ ts, ∀ i v, t.2[i]? = some v → w.cell? ⟨t.1, i, none⟩ = some v ∧ plainV 9 v = true) :
    Calls P g args' w fun e w' => e = .returned (.bool true) ∧ Below w.heap.size w w' := by
  have hc := callOk hp hmix hprim k
  have hrel : ∀ l : List Value, (∀ v ∈ l, v.oneCell' = true ∧ ∀ b, v ≠ .bool b) → VsRel (laidRho n) (List.replicate l.length (.chan none)) l := by
    intro l
    induction l with
    | nil => intro _; trivial
    | cons v r ih => intro hl; exact ⟨.hid (hl v (by simp)).1 (hl v (by simp)).2, ih fun u hu => hl u (by simp [hu])⟩
  have hr0 : VsRel (laidRho n) (List.replicate na (.chan none)) args'.toList := by
    have := hrel args'.toList h1
    rwa [Array.length_toList, hna] at this
  have hno : ∀ b, ¬ ownB (laidH n ts) b := fun b ho => by
    unfold ownB at ho
    cases hg : (laidH n ts).get b with
    | none => rw [hg] at ho; exact ho.elim
    | some o => rcases laidH_get hg with ⟨rfl, rfl⟩ | ⟨t, ht, rfl, rfl⟩ <;> rw [hg] at ho <;> exact ho.elim
  have hwf : Wf (laidH n ts) := fun b hb => by
    rw [laidH_next] at hb
    cases hg : (laidH n ts).get b with
    | none => rfl
    | some o =>
      rcases laidH_get hg with ⟨rfl, rfl⟩ | ⟨t, ht, rfl, rfl⟩
      · omega
      · have := hlt t ht; omega
  cases hr : callA P k g (List.replicate na (.chan none)) (laidH n ts) with
  | none => rw [hr] at h; cases h
  | some x =>
    obtain ⟨r, H'⟩ := x
    rw [hr] at h
    obtain ⟨-, ⟨-, h3⟩ | ⟨-, v0, hv0, hv1, -⟩⟩ := hc g _ (laidH n ts) r H' hr
    case inr =>
      subst hv0
      cases v0 <;> simp only [isTrue, Bool.false_eq_true] at h
      exact absurd rfl (hv1 _)
    refine (h3 hwf (laidRho n) w.heap.size w args' (sim_laid hn hlt hcell) hr0 (fun b hb _ => by unfold laidRho; rw [laidH_next] at hb; rw [if_neg (by omega)])).mono fun e w' he => ?_
    obtain ⟨ρ', ok, hm⟩ := he
    have hb : Below w.heap.size w w' := ⟨ok.step.os, ok.step.tape, ok.step.output, ok.step.size, fun k hk => ok.step.block k hk fun b c x ho hl => hno b ho⟩
    cases r with
    | ret v =>
      cases v <;> simp only [isTrue, Bool.false_eq_true] at h
      subst h
      cases e with
      | returned v' => cases hm; exact ⟨rfl, hb⟩
      | panicked c => exact hm.elim
      | outgrown => exact hm.elim
    | panic v => simp [isTrue] at h

/-- A call whose arguments nobody looks at. -/
theorem hidden_true (hp : progOk P = true) (hmix : P.follows .mixedOrders = true) (hprim : PrimOk P) {k n : Nat} {g : FuncId} (h : isTrue (callA P k g (List.replicate n (.chan none)) H0) = true) (args' : Array Value) (hn : args'.size = n) (h1 : ∀ v ∈ args'.toList, v.oneCell' = true ∧ ∀ b, v ≠ .bool b) (w : World) :
    Calls P g args' w fun e w' => e = .returned (.bool true) ∧ Below w.heap.size w w' := by
  have hc := callOk hp hmix hprim k
  have hrel : ∀ l : List Value, (∀ v ∈ l, v.oneCell' = true ∧ ∀ b, v ≠ .bool b) → VsRel noRho (List.replicate l.length (.chan none)) l := by
    intro l
    induction l with
    | nil => intro _; trivial
    | cons v r ih => intro hl; exact ⟨.hid (hl v (by simp)).1 (hl v (by simp)).2, ih fun u hu => hl u (by simp [hu])⟩
  have hr0 : VsRel noRho (List.replicate n (.chan none)) args'.toList := by
    have := hrel args'.toList h1
    rwa [Array.length_toList, hn] at this
  cases hr : callA P k g (List.replicate n (.chan none)) H0 with
  | none => rw [hr] at h; cases h
  | some x =>
    obtain ⟨r, H'⟩ := x
    rw [hr] at h
    obtain ⟨-, ⟨-, h3⟩ | ⟨-, v0, hv0, hv1, -⟩⟩ := hc g _ H0 r H' hr
    case inr =>
      subst hv0
      cases v0 <;> simp only [isTrue, Bool.false_eq_true] at h
      exact absurd rfl (hv1 _)
    refine (h3 (fun b _ => Tr.get_nil _) noRho w.heap.size w args' (sim_none w) hr0 (fun _ _ _ => rfl)).mono fun e w' he => ?_
    obtain ⟨ρ', ok, hm⟩ := he
    have hb : Below w.heap.size w w' := ⟨ok.step.os, ok.step.tape, ok.step.output, ok.step.size, fun k hk => ok.step.block k hk fun b c x _ hl => by cases hl⟩
    cases r with
    | ret v =>
      cases v <;> simp only [isTrue, Bool.false_eq_true] at h
      subst h
      cases e with
      | returned v' =>
        cases hm
        exact ⟨rfl, hb⟩
      | panicked c => exact hm.elim
      | outgrown => exact hm.elim
    | panic v => simp [isTrue] at h
end Go.AX
