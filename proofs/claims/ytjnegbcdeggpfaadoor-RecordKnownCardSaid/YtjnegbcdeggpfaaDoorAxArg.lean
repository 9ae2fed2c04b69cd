/- A law whose arguments are read: rows of cells that nobody writes. -/
import Derived.Test.YtjnegbcdeggpfaaDoorAxLaw
import Derived.Test.YtjnegbcdeggpfaaDoorAxVc
namespace Go.AX
open Go Go.RowKit
set_option linter.unusedVariables false
variable {P : Program} {O : Orc}

theorem callAO_ok (hp : progOk P = true) (hmix : P.follows .mixedOrders = true) (hO : CallOk P O) (hOw : CallWf O) (k : Nat) : CallOk P (callAO P O k) :=
  callO_sound hO (progOk_name hp) (progOk_code hp) (execO_sound hOw hO hmix (progOk_name hp) (progOk_code hp) k).1 (execO_wf hOw k)
/-- No oracle. -/
def noOrc : Orc := fun _ _ _ => none
theorem noOrc_ok : CallOk P noOrc := fun _ _ _ _ _ h => by cases h
theorem noOrc_wf : CallWf noOrc := fun _ _ _ _ _ h => by cases h
/-- A memory of rows that nobody writes. -/
noncomputable def argH (bs : List (List Value)) : AHeap := bs.foldl (fun H cs => H.push (.cells cs 0 false)) H0
theorem argH_snoc (bs : List (List Value)) (cs : List Value) : argH (bs ++ [cs]) = (argH bs).push (.cells cs 0 false) := by simp [argH, List.foldl_append]
theorem list_snoc_ind {α : Type} {R : List α → Prop} (h0 : R []) (h1 : ∀ l x, R l → R (l ++ [x])) : ∀ l, R l := by
  intro l
  have : ∀ (l : List α), R l.reverse := by
    intro l
    induction l with
    | nil => exact h0
    | cons x r ih => rw [List.reverse_cons]; exact h1 _ _ ih
  have := this l.reverse
  rwa [List.reverse_reverse] at this
theorem argH_next (bs : List (List Value)) : (argH bs).next = bs.length := by
  induction bs using list_snoc_ind with
  | h0 => rfl
  | h1 l x ih => rw [argH_snoc]; simp [ih]
theorem argH_get (bs : List (List Value)) : ∀ b, (argH bs).get b = (bs[b]?).map fun cs => .cells cs 0 false := by
  induction bs using list_snoc_ind with
  | h0 => intro b; simp [argH, H0, AHeap.get, Tr.get_nil]
  | h1 l x ih =>
    intro b
    rw [argH_snoc, AHeap.get_push, argH_next]
    by_cases h : b = l.length
    · subst h; rw [if_pos rfl]; simp
    · rw [if_neg h, ih]
      by_cases h2 : b < l.length
      · rw [List.getElem?_append_left h2]
      · rw [List.getElem?_eq_none (by omega), List.getElem?_eq_none (by simp; omega)]
theorem argH_wf (bs : List (List Value)) : Wf (argH bs) := fun b hb => by
  rw [argH_next] at hb
  rw [argH_get, List.getElem?_eq_none hb]; rfl
def argRho (as : List (Option (Nat × Nat))) : Rho := fun b => match as[b]? with
  | some (some (c, k)) => .live c k 0
  | _ => .no
theorem argRho_live {as : List (Option (Nat × Nat))} {b c k x : Nat} (h : argRho as b = .live c k x) : as[b]? = some (some (c, k)) ∧ x = 0 := by
  unfold argRho at h
  split at h
  · rename_i c' k' hg; cases h; exact ⟨hg, rfl⟩
  · cases h
theorem argRho_of {as : List (Option (Nat × Nat))} {b c k : Nat} (h : as[b]? = some (some (c, k))) : argRho as b = .live c k 0 := by
  unfold argRho; rw [h]
theorem argNo {bs : List (List Value)} : ∀ b, ¬ ownB (argH bs) b := fun b ho => by
  unfold ownB at ho
  cases hg : (argH bs).get b with
  | none => rw [hg] at ho; exact ho.elim
  | some o =>
    rw [argH_get] at hg
    cases hb : bs[b]? with
    | none => rw [hb] at hg; cases hg
    | some cs => rw [hb] at hg; cases hg; rw [argH_get, hb] at ho; exact ho.elim
theorem sim_args {w : World} {bs : List (List Value)} {as : List (Option (Nat × Nat))} (hin : ∀ c k, some (c, k) ∈ as → c < w.heap.size)
    (hc : ∀ (i : Nat) cs c k, bs[i]? = some cs → as[i]? = some (some (c, k)) → ∀ (j : Nat) v, cs[j]? = some v → ∃ v', w.cell? ⟨c, k + j, none⟩ = some v' ∧ VRel (argRho as) v v') : Sim (argRho as) w.heap.size (argH bs) w where
  alive b x h := by unfold argRho at h; split at h <;> cases h
  bsz := Nat.le_refl _
  inb b c k x h := hin c k (List.mem_of_getElem? (argRho_live h).1)
  obj b o h := by
    rw [argH_get] at h
    cases hb : bs[b]? with
    | none => rw [hb] at h; cases h
    | some cs =>
      rw [hb] at h; cases h
      simp only [ObjRel]
      split
      · rename_i c k x hr
        obtain ⟨ha, rfl⟩ := argRho_live hr
        exact ⟨fun j v hj => hc b cs c k hb ha j v hj, ⟨(fun h => by cases h), (fun h => absurd rfl h), fun _ => rfl, .none (by decide)⟩⟩
      · trivial
  apart b b' c k x k' x' ho := (argNo b ho).elim

/-- A call over such a memory that comes to true. -/
theorem does_true (hp : progOk P = true) (hmix : P.follows .mixedOrders = true) (hO : CallOk P O) (hOw : CallWf O) {bs : List (List Value)} {as : List (Option (Nat × Nat))} {args : List Value} {g : FuncId} (h : Does P O g args (argH bs) fun r _ => r = .ret (.bool true))
    {w : World} (hs : Sim (argRho as) w.heap.size (argH bs) w) (hlen : as.length ≤ bs.length) (args' : Array Value) (hargs : VsRel (argRho as) args args'.toList) :
    Calls P g args' w fun e w' => e = .returned (.bool true) ∧ Below w.heap.size w w' := by
  obtain ⟨k, r, H', hr, rfl⟩ := h.ends
  obtain ⟨-, ⟨-, h3⟩ | ⟨-, v0, hv0, hv1, -⟩⟩ := callAO_ok hp hmix hO hOw k g args (argH bs) _ H' hr
  case inr => cases hv0; exact absurd rfl (hv1 _)
  refine (h3 (argH_wf bs) (argRho as) w.heap.size w args' hs hargs (fun b hb _ => by
    unfold argRho
    rw [argH_next] at hb
    rw [List.getElem?_eq_none (by omega)])).mono fun e w' he => ?_
  obtain ⟨ρ', ok, hm⟩ := he
  have hb : Below w.heap.size w w' := ⟨ok.step.os, ok.step.tape, ok.step.output, ok.step.size, fun k hk => ok.step.block k hk fun b c x ho hl => argNo b ho⟩
  cases e with
  | returned v' => cases hm; exact ⟨rfl, hb⟩
  | panicked c => exact hm.elim
  | outgrown => exact hm.elim
/-- A closed call that the plain executor brings to true may be known to the oracle. -/
theorem yes_call (hp : progOk P = true) (hmix : P.follows .mixedOrders = true) (hprim : PrimOk P) {k : Nat} {g : FuncId} (h : isTrue (callA P k g [] H0) = true) (H : AHeap) :
    H.next ≤ H.next ∧ CallHow P g [] H (.ret (.bool true)) H := by
  refine ⟨Nat.le_refl _, .inl ⟨?_, fun _ ρ base w args' hs ha _ => ?_⟩⟩
  · have hc := callOk hp hmix hprim k
    cases hr : callA P k g [] H0 with
    | none => rw [hr] at h; cases h
    | some x =>
      rcases (hc g [] H0 x.1 x.2 hr).2 with q | ⟨-, v0, hv0, hv1, -⟩
      · exact q.1
      · obtain ⟨r, H'⟩ := x
        rw [hr] at h
        dsimp only at hv0
        subst hv0
        cases v0 <;> simp only [isTrue, Bool.false_eq_true] at h
        exact absurd rfl (hv1 _)
  · obtain rfl : args' = #[] := by
      obtain ⟨l⟩ := args'
      cases l with
      | nil => rfl
      | cons _ _ => exact ha.elim
    refine (closed_true hp hmix hprim h w).mono ?_
    rintro e w' ⟨rfl, hb⟩
    exact ⟨ρ, below_ok hs hb, .bool true⟩
/-- A closed call over laid variables that the plain executor brings to true may be known to the oracle where these variables lie. -/
theorem laid_call (hp : progOk P = true) (hmix : P.follows .mixedOrders = true) (hprim : PrimOk P) {k n : Nat} {ts : List (Nat × List Value)} {g : FuncId} (h : isTrue (callA P k g [] (laidH n ts)) = true)
    (hlt : ∀ t ∈ ts, t.1 < n) (hint : ∀ t ∈ ts, ∀ v ∈ t.2, ∃ kk z, v = .int kk z) {t0 : Nat × List Value} {v0 : Value} (ht0 : t0 ∈ ts) (hn : n = t0.1 + 1) (hv0 : t0.2[0]? = some v0)
    {H : AHeap} (h0 : H.get 0 = some (.globs n)) (ht : ∀ t ∈ ts, H.get (t.1 + 1) = some (.cells t.2 0 false)) : CallHow P g [] H (.ret (.bool true)) H := by
  refine .inl ⟨?_, fun _ ρ base w args' hs ha _ => ?_⟩
  · have hc := callOk hp hmix hprim k
    cases hr : callA P k g [] (laidH n ts) with
    | none => rw [hr] at h; cases h
    | some x =>
      rcases (hc g [] _ x.1 x.2 hr).2 with q | ⟨-, v1, hv1, hv2, -⟩
      · exact q.1
      · obtain ⟨r, H'⟩ := x
        rw [hr] at h
        dsimp only at hv1
        subst hv1
        cases v1 <;> simp only [isTrue, Bool.false_eq_true] at h
        exact absurd rfl (hv2 _)
  · obtain rfl : args' = #[] := by
      obtain ⟨l⟩ := args'
      cases l with
      | nil => rfl
      | cons _ _ => exact ha.elim
    have hcell : ∀ t ∈ ts, ∀ (i : Nat) v, t.2[i]? = some v → w.cell? ⟨t.1, i, none⟩ = some v ∧ plainV 9 v = true := fun t hm i v hv => by
      have hg := hs.obj 0 _ h0
      have hp1 : PRel ρ (t.1 + 1) 0 ⟨t.1, 0, none⟩ := hg t.1 (hlt t hm)
      have ho := hs.obj _ _ (ht t hm)
      obtain ⟨kk, z, rfl⟩ := hint t hm v (List.mem_of_getElem? hv)
      cases hr : ρ (t.1 + 1) with
      | no => simp [PRel, hr] at hp1
      | gone x => rcases hs.alive _ x hr with e | e <;> rw [ht t hm] at e <;> cases e
      | live c k1 x =>
        simp only [PRel, hr, Nat.add_zero] at hp1
        simp only [ObjRel, hr] at ho
        obtain ⟨v', q1, q2⟩ := ho.1 i _ hv
        cases q2
        obtain ⟨rfl, rfl⟩ : t.1 = c ∧ 0 = k1 := by injection hp1 with e1 e2; exact ⟨e1, e2⟩
        rw [Nat.zero_add] at q1
        exact ⟨q1, rfl⟩
    have hsz : n ≤ w.heap.size := by
      have := (hcell t0 ht0 0 v0 hv0).1
      unfold World.cell? at this
      cases hg : w.heap[t0.1]? with
      | none => simp only [hg] at this; cases this
      | some o => have := (Array.getElem?_eq_some_iff.1 hg).1; omega
    refine (law_true hp hmix hprim (na := 0) h #[] rfl (by simp) w hsz hlt hcell).mono ?_
    rintro e w' ⟨rfl, hb⟩
    exact ⟨ρ, below_ok hs hb, .bool true⟩
/-- A call over laid variables that comes to true. -/
theorem does_laid (hp : progOk P = true) (hmix : P.follows .mixedOrders = true) (hO : CallOk P O) (hOw : CallWf O) {n : Nat} {ts : List (Nat × List Value)} {args : List Value} {g : FuncId} (h : Does P O g args (laidH n ts) fun r _ => r = .ret (.bool true))
    (args' : Array Value) (hargs : VsRel (laidRho n) args args'.toList) (w : World)
    (hn : n ≤ w.heap.size) (hlt : ∀ t ∈ ts, t.1 < n) (hcell : ∀ t ∈ ts, ∀ i v, t.2[i]? = some v → w.cell? ⟨t.1, i, none⟩ = some v ∧ plainV 9 v = true) :
    Calls P g args' w fun e w' => e = .returned (.bool true) ∧ Below w.heap.size w w' := by
  have hno : ∀ b, ¬ ownB (laidH n ts) b := fun b ho => by
    unfold ownB at ho
    cases hg : (laidH n ts).get b with
    | none => rw [hg] at ho; exact ho.elim
    | some o => rcases laidH_get hg with ⟨rfl, rfl⟩ | ⟨t, ht, rfl, rfl⟩ <;> rw [hg] at ho <;> exact ho.elim
  have hwf : Wf (laidH n ts) := fun b hb => by
    rw [laidH_next] at hb
    cases hg : (laidH n ts).get b with
    | none => rfl
    | some o =>
      rcases laidH_get hg with ⟨rfl, rfl⟩ | ⟨t, ht, rfl, rfl⟩
      · omega
      · have := hlt t ht; omega
  obtain ⟨k, r, H', hr, rfl⟩ := h.ends
  obtain ⟨-, ⟨-, h3⟩ | ⟨-, v0, hv0, hv1, -⟩⟩ := callAO_ok hp hmix hO hOw k g args (laidH n ts) _ H' hr
  case inr => cases hv0; exact absurd rfl (hv1 _)
  refine (h3 hwf (laidRho n) w.heap.size w args' (sim_laid hn hlt hcell) hargs (fun b hb _ => by unfold laidRho; rw [laidH_next] at hb; rw [if_neg (by omega)])).mono fun e w' he => ?_
  obtain ⟨ρ', ok, hm⟩ := he
  have hb : Below w.heap.size w w' := ⟨ok.step.os, ok.step.tape, ok.step.output, ok.step.size, fun k hk => ok.step.block k hk fun b c x ho hl => hno b ho⟩
  cases e with
  | returned v' => cases hm; exact ⟨rfl, hb⟩
  | panicked c => exact hm.elim
  | outgrown => exact hm.elim
end Go.AX
