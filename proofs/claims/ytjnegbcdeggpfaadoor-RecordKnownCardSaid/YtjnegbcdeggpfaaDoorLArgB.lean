/- A memory of what was handed in. -/
import Derived.Test.YtjnegbcdeggpfaaDoorLRow
import Derived.Test.YtjnegbcdeggpfaaDoorAxArg
import Derived.Test.YtjnegbcdeggpfaaDoorAxLaw
import Derived.RowKit
import Derived.DataReads
import Derived.ChangeSame
import Derived.ChangeArms
import Derived.SizedLaws
namespace Go.AX.Lw
open Go Go.AX Go.RowKit Go.ChangeShapes Go.WideShapes
set_option linter.unusedVariables false
set_option linter.unusedSimpArgs false
variable {P : Program} {O : Orc}
/-- A memory of what was handed in: nobody writes it. -/
structure ArgS (ρ : Rho) (H : AHeap) (w : World) : Prop where
  sim : Sim ρ w.heap.size H w
  wf : Wf H
  no : ∀ b, ¬ ownB H b
  fresh : ∀ b, H.next ≤ b → ρ b = .no
structure ArgLe (ρ : Rho) (H : AHeap) (ρ' : Rho) (H' : AHeap) : Prop where
  ext : Ext H H'
  rel : ∀ v v', VRel ρ v v' → VRel ρ' v v'
theorem ArgLe.refl (ρ : Rho) (H : AHeap) : ArgLe ρ H ρ H := ⟨Ext.refl _, fun _ _ h => h⟩
theorem ArgLe.trans {ρ ρ' ρ'' : Rho} {H H' H'' : AHeap} (h : ArgLe ρ H ρ' H') (h' : ArgLe ρ' H' ρ'' H'') : ArgLe ρ H ρ'' H'' := ⟨h.ext.trans h'.ext, fun v v' q => h'.rel v v' (h.rel v v' q)⟩
theorem arg_new {ρ : Rho} {H : AHeap} {w : World} (h : ArgS ρ H w) (o : AObj) (s : BS) (hs : (∃ c k, s = .live c k 0 ∧ c < w.heap.size) ∨ (s = .gone 0 ∧ o = .dead)) (ho : ObjRel (upd ρ H.next s) w.heap.size w H.next o)
    (hn : o = .dead ∨ ∃ cs e, o = .cells cs e false) : ArgS (upd ρ H.next s) (H.push o) w ∧ ArgLe ρ H (upd ρ H.next s) (H.push o) := by
  have hm : Mono H.next (H.next + 1) ρ (upd ρ H.next s) := ⟨fun c hc => .inl (upd_ne _ _ (by omega)), fun c h1 h2 => h.fresh c h1⟩
  have hno : ∀ b, ¬ ownB (H.push o) b := fun b hb => by
    have hb' := hb
    unfold ownB at hb
    rw [AHeap.get_push] at hb
    by_cases e : b = H.next
    · rw [if_pos e] at hb
      rcases hn with rfl | ⟨cs, e, rfl⟩ <;> exact hb
    · rw [if_neg e] at hb; exact h.no b hb
  refine ⟨⟨⟨?_, ?_, ?_, ?_, fun b b' c k x k' x' ho => absurd ho (hno b)⟩, h.wf.push _, hno, fun b hb => ?_⟩, ⟨Ext.push _ _, fun v v' q => q.mono hm⟩⟩
  · intro b x hb
    rw [AHeap.get_push]
    by_cases e : b = H.next
    · subst e; rw [upd_same] at hb
      rcases hs with ⟨c, k, rfl, -⟩ | ⟨-, rfl⟩
      · cases hb
      · rw [if_pos rfl]; exact .inr rfl
    · rw [upd_ne _ _ e] at hb; rw [if_neg e]; exact h.sim.alive b x hb
  · exact h.sim.bsz
  · intro b c k x hb
    by_cases e : b = H.next
    · subst e; rw [upd_same] at hb
      rcases hs with ⟨c', k', rfl, hc⟩ | ⟨rfl, -⟩
      · cases hb; exact hc
      · cases hb
    · rw [upd_ne _ _ e] at hb; exact h.sim.inb b c k x hb
  · intro b o' hb
    rw [AHeap.get_push] at hb
    split at hb
    · rename_i e; subst e; cases hb; exact ho
    · exact (h.sim.obj b o' hb).keep hm (by omega) fun q k y hq => rfl
  · rw [AHeap.next_push] at hb
    rw [upd_ne _ _ (by omega)]; exact h.fresh b (by omega)
/-- A block that lies somewhere is told. -/
theorem arg_fill {ρ : Rho} {H : AHeap} {w : World} (h : ArgS ρ H w) {b c k e : Nat} (hb : b < H.next) (cs : List Value) (hr : ρ b = .live c k 0) (ho : ObjRel ρ w.heap.size w b (.cells cs e false)) : ArgS ρ (H.set b (.cells cs e false)) w := by
  have hno : ∀ d, ¬ ownB (H.set b (.cells cs e false)) d := fun d hd => by
    by_cases e : d = b
    · subst e
      unfold ownB at hd
      rw [AHeap.get_set, if_pos rfl] at hd
      exact hd
    · refine h.no d ?_
      unfold ownB at hd ⊢
      rw [AHeap.get_set, if_neg e] at hd
      exact hd
  refine ⟨⟨?_, h.sim.bsz, h.sim.inb, ?_, fun d d' c k x k' x' ho => absurd ho (hno d)⟩, ?_, hno, fun d hd => h.fresh d hd⟩
  · intro d x hd
    rw [AHeap.get_set]
    by_cases e : d = b
    · subst e; rw [hr] at hd; cases hd
    · rw [if_neg e]; exact h.sim.alive d x hd
  · intro d o hd
    rw [AHeap.get_set] at hd
    split at hd
    · rename_i e; subst e; cases hd; exact ho
    · exact h.sim.obj d o hd
  · intro d hd
    rw [AHeap.get_set, if_neg (by have : H.next ≤ d := hd; omega)]
    exact h.wf d hd
theorem cell_lt' {W : World} {a : Addr} {v : Value} (h : W.cell? a = some v) : a.block < W.heap.size := by
  by_cases hb : a.block < W.heap.size
  · exact hb
  · exfalso
    have : W.heap[a.block]? = none := Array.getElem?_eq_none (by omega)
    unfold World.cell? at h
    simp [this] at h
/-- A call over such a memory that comes to true. -/
theorem does_args (hp : progOk P = true) (hmix : P.follows .mixedOrders = true) (hO : CallOk P O) (hOw : CallWf O) {ρ : Rho} {A : AHeap} {w : World} (hA : ArgS ρ A w) {args : List Value} {g : FuncId} (h : Does P O g args A fun r _ => r = .ret (.bool true))
    (args' : Array Value) (hargs : VsRel ρ args args'.toList) :
    Calls P g args' w fun e w' => e = .returned (.bool true) ∧ Below w.heap.size w w' := by
  obtain ⟨k, r, H', hr, rfl⟩ := h.ends
  obtain ⟨-, ⟨-, h3⟩ | ⟨-, v0, hv0, hv1, -⟩⟩ := callAO_ok hp hmix hO hOw k g args A _ H' hr
  case inr => cases hv0; exact absurd rfl (hv1 _)
  refine (h3 hA.wf ρ w.heap.size w args' hA.sim hargs (fun b hb _ => hA.fresh b hb)).mono fun e w' he => ?_
  obtain ⟨ρ', ok, hm⟩ := he
  have hb : Below w.heap.size w w' := ⟨ok.step.os, ok.step.tape, ok.step.output, ok.step.size, fun k hk => ok.step.block k hk fun b c x ho hl => hA.no b ho⟩
  cases e with
  | returned v' => cases hm; exact ⟨rfl, hb⟩
  | panicked c => exact hm.elim
  | outgrown => exact hm.elim
/-- A closed call that the plain executor brings to true. -/
theorem args_true (hp : progOk P = true) (hmix : P.follows .mixedOrders = true) (hprim : PrimOk P) {ρ : Rho} {A : AHeap} {w : World} (hA : ArgS ρ A w) {k : Nat} {g : FuncId} (h : isTrue (callA P k g [] A) = true) :
    Calls P g #[] w fun e w' => e = .returned (.bool true) ∧ Below w.heap.size w w' := by
  have hc := callOk hp hmix hprim k
  cases hr : callA P k g [] A with
  | none => rw [hr] at h; cases h
  | some x =>
    obtain ⟨r, H'⟩ := x
    rw [hr] at h
    obtain ⟨-, ⟨-, h3⟩ | ⟨-, v0, hv0, hv1, -⟩⟩ := hc g [] A r H' hr
    case inr =>
      subst hv0
      cases v0 <;> simp only [isTrue, Bool.false_eq_true] at h
      exact absurd rfl (hv1 _)
    refine (h3 hA.wf ρ w.heap.size w #[] hA.sim trivial (fun b hb _ => hA.fresh b hb)).mono fun e w' he => ?_
    obtain ⟨ρ', ok, hm⟩ := he
    have hb : Below w.heap.size w w' := ⟨ok.step.os, ok.step.tape, ok.step.output, ok.step.size, fun k hk => ok.step.block k hk fun b c x ho hl => hA.no b ho⟩
    cases r with
    | ret v =>
      cases v with
      | bool b =>
        simp only [isTrue] at h
        subst h
        cases e with
        | returned v' => cases hm; exact ⟨rfl, hb⟩
        | panicked c => exact hm.elim
        | outgrown => exact hm.elim
      | _ => simp [isTrue] at h
    | panic v => simp [isTrue] at h
/-- No variable is laid. -/
theorem args_none (w : World) : ArgS (argRho []) H0 w := ⟨(sim_args (by simp) (by simp) : Sim (argRho []) _ (argH []) w), argH_wf [], argNo (bs := []), fun b _ => rfl⟩
/-- The laid variables. -/
theorem args_laid {w : World} {n : Nat} {ts : List (Nat × List Value)} (hn : n ≤ w.heap.size) (hlt : ∀ t ∈ ts, t.1 < n) (hc : ∀ t ∈ ts, ∀ i v, t.2[i]? = some v → w.cell? ⟨t.1, i, none⟩ = some v ∧ plainV 9 v = true) : ArgS (laidRho n) (laidH n ts) w where
  sim := sim_laid hn hlt hc
  wf b hb := by
    rw [laidH_next] at hb
    cases hg : (laidH n ts).get b with
    | none => rfl
    | some o =>
      rcases laidH_get hg with ⟨rfl, rfl⟩ | ⟨t, ht, rfl, rfl⟩
      · omega
      · have := hlt t ht; omega
  no b ho := by
    unfold ownB at ho
    cases hg : (laidH n ts).get b with
    | none => rw [hg] at ho; exact ho.elim
    | some o => rcases laidH_get hg with ⟨rfl, rfl⟩ | ⟨t, ht, rfl, rfl⟩ <;> rw [hg] at ho <;> exact ho.elim
  fresh b hb := by rw [laidH_next] at hb; unfold laidRho; rw [if_neg (by omega)]
end Go.AX.Lw
