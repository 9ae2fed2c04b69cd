/- Drawn regions: what their effects leave as it was. -/
import Derived.Test.YtkngijdjkcdcjaaDoorLStk
namespace Go.AX.Lw
open Go Go.AX
set_option linter.unusedVariables false
/-- All looks lie below N. -/
def lookOld (N : Nat) : List (Nat × Ev) → Prop
  | [] => True
  | (_, .look b _ _) :: r => b < N ∧ lookOld N r
  | _ :: r => lookOld N r
/-- What is made is made ahead of the effects in order, or behind them. -/
def makeOk (ops : Array Oper) (j : Nat) : List (Nat × Ev) → Bool
  | [] => true
  | (i, .make _ _) :: r => (!(Nat.blt i j) || orderedB ops i j) && makeOk ops j r
  | _ :: r => makeOk ops j r
def makesOk (ops : Array Oper) (tr : List (Nat × Ev)) : List (Nat × Ev) → Bool
  | [] => true
  | (j, .eff _ _) :: r => makeOk ops j tr && makesOk ops tr r
  | _ :: r => makesOk ops tr r
theorem lookMix_old {ops : Array Oper} {N j : Nat} {H H' : AHeap} (h : ∀ b, b < N → H'.get b = H.get b) : ∀ {tr : List (Nat × Ev)}, lookOld N tr → makeOk ops j tr = true → lookMix ops j H H' tr
  | [], _, _ => True.intro
  | (i, e) :: r, hl, hm => by
    cases e with
    | look b o n => exact ⟨.inr (by unfold cellsAt; rw [h b hl.1]), lookMix_old h hl.2 hm⟩
    | make b o =>
      simp only [makeOk, Bool.and_eq_true, Bool.or_eq_true, Bool.not_eq_true'] at hm
      refine ⟨?_, lookMix_old h hl hm.2⟩
      rcases hm.1 with h1 | h1
      · exact .inl h1
      · exact .inr (.inl h1)
    | _ => exact lookMix_old (tr := r) h hl hm
theorem makesOk_mem {ops : Array Oper} {tr : List (Nat × Ev)} : ∀ {l : List (Nat × Ev)}, makesOk ops tr l = true → ∀ j H H', (j, Ev.eff H H') ∈ l → makeOk ops j tr = true
  | [], _, _, _, _, h => by cases h
  | (i, e) :: r, h, j, H, H', hm => by
    cases e with
    | eff _ _ =>
      simp only [makesOk, Bool.and_eq_true] at h
      rcases List.mem_cons.1 hm with he | hm
      · cases he; exact h.1
      · exact makesOk_mem h.2 j H H' hm
    | _ =>
      rcases List.mem_cons.1 hm with he | hm
      · cases he
      · exact makesOk_mem (l := r) h j H H' hm
theorem look_ext {H H' : AHeap} (e : Ext H H') {b o n : Nat} (hb : b < H.next) : cellsAt H b o n = cellsAt H' b o n := by
  unfold cellsAt; rw [e.get b hb]
/-- Every effect leaves the blocks below N as they are. -/
def effKeep (N : Nat) : List (Nat × Ev) → Prop
  | [] => True
  | (_, .eff H H') :: r => (∀ b, b < N → H'.get b = H.get b) ∧ effKeep N r
  | _ :: r => effKeep N r
theorem effKeep_mem {N : Nat} : ∀ {l : List (Nat × Ev)}, effKeep N l → ∀ j H H', (j, Ev.eff H H') ∈ l → ∀ b, b < N → H'.get b = H.get b
  | [], _, _, _, _, h => by cases h
  | (i, e) :: r, h, j, H, H', hm => by
    cases e with
    | eff _ _ =>
      rcases List.mem_cons.1 hm with he | hm
      · cases he; exact h.1
      · exact effKeep_mem h.2 j H H' hm
    | _ =>
      rcases List.mem_cons.1 hm with he | hm
      · cases he
      · exact effKeep_mem (l := r) h j H H' hm
/-- A drawn region whose effects keep all that is looked at. -/
theorem draw_keep {ops : Array Oper} {tr : List (Nat × Ev)} {N : Nat} (h : effKeep N tr) (hl : lookOld N tr) (hm : makesOk ops tr tr = true) : DrawP ops tr := by
  refine draw_mix ?_
  have : ∀ l : List (Nat × Ev), (∀ x ∈ l, x ∈ tr) → effMix ops tr l := by
    intro l
    induction l with
    | nil => intro _; exact True.intro
    | cons x r ih =>
      intro hx
      have hr := ih fun y hy => hx y (by simp [hy])
      obtain ⟨j, e⟩ := x
      cases e with
      | eff H H' => exact ⟨lookMix_old (effKeep_mem h j H H' (hx _ (by simp))) hl (makesOk_mem hm j H H' (hx _ (by simp))), hr⟩
      | _ => exact hr
  exact this tr fun _ h => h
end Go.AX.Lw
