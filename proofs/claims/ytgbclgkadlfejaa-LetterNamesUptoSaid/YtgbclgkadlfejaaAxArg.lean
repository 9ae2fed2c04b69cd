/- A law whose arguments are read: rows of cells that nobody writes. -/
import Derived.Test.YtgbclgkadlfejaaAxLaw
import Derived.Test.YtgbclgkadlfejaaAxVc4
namespace Go.AX
open Go Go.RowKit
set_option linter.unusedVariables false
variable {P : Program}

/-- A memory of rows that nobody writes. -/
noncomputable def argH (bs : List (List Value)) : AHeap := bs.foldl (fun H cs => H.push (.cells cs 0 false)) H0
theorem argH_snoc (bs : List (List Value)) (cs : List Value) : argH (bs ++ [cs]) = (argH bs).push (.cells cs 0 false) := by simp [argH, List.foldl_append]
theorem list_snoc_ind {α : Type} {R : List α → Prop} (h0 : R []) (h1 : ∀ l x, R l → R (l ++ [x])) : ∀ l, R l := by
  intro l
  have : ∀ (l : List α), R l.reverse := by
    intro l
    induction l with
    | nil => exact h0
    | cons x r ih => rw [List.reverse_cons]; exact h1 _ _ ih
  have := this l.reverse
  rwa [List.reverse_reverse] at this
theorem argH_next (bs : List (List Value)) : (argH bs).next = bs.length := by
  induction bs using list_snoc_ind with
  | h0 => rfl
  | h1 l x ih => rw [argH_snoc]; simp [ih]
theorem argH_get (bs : List (List Value)) : ∀ b, (argH bs).get b = (bs[b]?).map fun cs => .cells cs 0 false := by
  induction bs using list_snoc_ind with
  | h0 => intro b; simp [argH, H0, AHeap.get, Tr.get_nil]
  | h1 l x ih =>
    intro b
    rw [argH_snoc, AHeap.get_push, argH_next]
    by_cases h : b = l.length
    · subst h; rw [if_pos rfl]; simp
    · rw [if_neg h, ih]
      by_cases h2 : b < l.length
      · rw [List.getElem?_append_left h2]
      · rw [List.getElem?_eq_none (by omega), List.getElem?_eq_none (by simp; omega)]
theorem argH_wf (bs : List (List Value)) : Wf (argH bs) := fun b hb => by
  rw [argH_next] at hb
  rw [argH_get, List.getElem?_eq_none hb]; rfl
def argRho (as : List (Option (Nat × Nat))) : Rho := fun b => match as[b]? with
  | some (some (c, k)) => .live c k 0
  | _ => .no
theorem argRho_live {as : List (Option (Nat × Nat))} {b c k x : Nat} (h : argRho as b = .live c k x) : as[b]? = some (some (c, k)) ∧ x = 0 := by
  unfold argRho at h
  split at h
  · rename_i c' k' hg; cases h; exact ⟨hg, rfl⟩
  · cases h
theorem argRho_of {as : List (Option (Nat × Nat))} {b c k : Nat} (h : as[b]? = some (some (c, k))) : argRho as b = .live c k 0 := by
  unfold argRho; rw [h]
theorem argNo {bs : List (List Value)} : ∀ b, ¬ ownB (argH bs) b := fun b ho => by
  unfold ownB at ho
  cases hg : (argH bs).get b with
  | none => rw [hg] at ho; exact ho.elim
  | some o =>
    rw [argH_get] at hg
    cases hb : bs[b]? with
    | none => rw [hb] at hg; cases hg
    | some cs => rw [hb] at hg; cases hg; rw [argH_get, hb] at ho; exact ho.elim
theorem sim_args {w : World} {bs : List (List Value)} {as : List (Option (Nat × Nat))} (hin : ∀ c k, some (c, k) ∈ as → c < w.heap.size)
    (hc : ∀ (i : Nat) cs c k, bs[i]? = some cs → as[i]? = some (some (c, k)) → ∀ (j : Nat) v, cs[j]? = some v → ∃ v', w.cell? ⟨c, k + j, none⟩ = some v' ∧ VRel (argRho as) v v') : Sim (argRho as) w.heap.size (argH bs) w where
  alive b x h := by unfold argRho at h; split at h <;> cases h
  bsz := Nat.le_refl _
  inb b c k x h := hin c k (List.mem_of_getElem? (argRho_live h).1)
  obj b o h := by
    rw [argH_get] at h
    cases hb : bs[b]? with
    | none => rw [hb] at h; cases h
    | some cs =>
      rw [hb] at h; cases h
      simp only [ObjRel]
      split
      · rename_i c k x hr
        obtain ⟨ha, rfl⟩ := argRho_live hr
        exact ⟨fun j v hj => hc b cs c k hb ha j v hj, ⟨(fun h => by cases h), (fun h => absurd rfl h), fun _ => rfl, .none (by decide)⟩⟩
      · trivial
  apart b b' c k x k' x' ho := (argNo b ho).elim

/-- A call over such a memory that comes to true. -/
theorem does_true (hp : progOk P = true) (hmix : P.follows .mixedOrders = true) (hprim : PrimOk P) {bs : List (List Value)} {as : List (Option (Nat × Nat))} {args : List Value} {g : FuncId} (h : Does P g args (argH bs) fun r _ => r = .ret (.bool true))
    {w : World} (hs : Sim (argRho as) w.heap.size (argH bs) w) (hlen : as.length ≤ bs.length) (args' : Array Value) (hargs : VsRel (argRho as) args args'.toList) :
    Calls P g args' w fun e w' => e = .returned (.bool true) ∧ Below w.heap.size w w' := by
  obtain ⟨k, r, H', hr, rfl⟩ := h.ends
  obtain ⟨-, -, h3⟩ := callOk hp hmix hprim k g args (argH bs) _ H' hr
  refine (h3 (argH_wf bs) (argRho as) w.heap.size w args' hs hargs (fun b hb _ => by
    unfold argRho
    rw [argH_next] at hb
    rw [List.getElem?_eq_none (by omega)])).mono fun e w' he => ?_
  obtain ⟨ρ', ok, hm⟩ := he
  have hb : Below w.heap.size w w' := ⟨ok.step.os, ok.step.tape, ok.step.output, ok.step.size, fun k hk => ok.step.block k hk fun b c x ho hl => argNo b ho⟩
  cases e with
  | returned v' => cases hm; exact ⟨rfl, hb⟩
  | panicked c => exact hm.elim
  | outgrown => exact hm.elim
end Go.AX
