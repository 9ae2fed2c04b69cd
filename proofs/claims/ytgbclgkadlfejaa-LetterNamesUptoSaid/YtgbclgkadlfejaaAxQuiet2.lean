/- Operations that only compute, the rest. -/
import Derived.Test.YtgbclgkadlfejaaAxQuiet
namespace Go.AX
open Go Go.RowKit
set_option linter.unusedVariables false
set_option linter.unusedSimpArgs false

variable {P : Program}

theorem int_run {op : BinOp} {k : IntKind} {x y : Int} {v : Value} (hs : isShift op = false) (h : aInt op k x y = some v) (t : TypeId) (w : World) :
    (binOp op t (.int k x) (.int k y)).run P w = .ok v w ∧ ∀ ρ, VRel ρ v v := by
  cases op <;> simp [isShift] at hs <;> simp only [aInt] at h
  case quo => split at h <;> simp at h; rename_i hy; subst h; exact ⟨by simp [binOp, Op.intDiv, hy], fun ρ => .int _ _⟩
  case rem => split at h <;> simp at h; rename_i hy; subst h; exact ⟨by simp [binOp, Op.intDiv, hy], fun ρ => .int _ _⟩
  all_goals (cases h; first
    | (refine ⟨?_, fun ρ => .int _ _⟩; simp [binOp, Op.intArith]; done)
    | (refine ⟨?_, fun ρ => .int _ _⟩; simp only [binOp, ne_eq, not_true_eq_false, if_false]; rfl)
    | (refine ⟨?_, fun ρ => .bool _⟩; simp [binOp, Op.intCmp]; done))
theorem shift_run {op : BinOp} {k k' : IntKind} {x y : Int} {v : Value} (hs : isShift op = true) (h : aShift op k x y = some v) (t : TypeId) (w : World) :
    (binOp op t (.int k x) (.int k' y)).run P w = .ok v w ∧ ∀ ρ, VRel ρ v v := by
  unfold aShift at h
  split at h
  · cases h
  · rename_i hy
    cases op <;> simp [isShift] at hs <;> simp at h <;> subst h
    · exact ⟨by simp [binOp, Op.shift, hy], fun ρ => .int _ _⟩
    · exact ⟨by simp [binOp, Op.shift, hy], fun ρ => .int _ _⟩
theorem toList_loop (x : ByteArray) : ∀ (n i : Nat) (r : List UInt8), x.size - i = n → ByteArray.toList.loop x i r = r.reverse ++ x.data.toList.drop i := by
  intro n
  induction n with
  | zero =>
    intro i r h
    rw [ByteArray.toList.loop, if_neg (by omega), List.drop_eq_nil_of_le (by have : x.size = x.data.toList.length := by rw [Array.length_toList]; rfl
                                                                             omega)]
    simp
  | succ n ih =>
    intro i r h
    have hi : i < x.data.toList.length := by have : x.size = x.data.toList.length := by rw [Array.length_toList]; rfl
                                             omega
    rw [ByteArray.toList.loop, if_pos (by omega), ih (i + 1) _ (by omega), List.drop_eq_getElem_cons hi]
    have : x.get! i = x.data.toList[i] := by
      have hi' : i < x.data.size := by simpa using hi
      simp only [ByteArray.get!, Array.getElem_toList]; exact getElem!_pos x.data i hi'
    simp [this]
theorem toList_data (x : ByteArray) : x.toList = x.data.toList := by
  unfold ByteArray.toList
  rw [toList_loop x _ 0 [] rfl]; simp
theorem str_run {op : BinOp} {x y : ByteArray} {v : Value} (h : aStr op x y = some v) (t : TypeId) (w : World) :
    (binOp op t (.string x) (.string y)).run P w = .ok v w ∧ ∀ ρ, VRel ρ v v := by
  unfold aStr at h
  cases op <;> simp only [] at h <;> try (cases h; done)
  case add =>
    split at h
    · cases h
    · rename_i hn
      cases h
      exact ⟨by simp only [binOp, Op.stringOp]; rw [if_neg hn]; rfl, fun ρ => .string _⟩
  all_goals (cases h; exact ⟨by simp only [binOp, Op.stringOp, toList_data]; rfl, fun ρ => .bool _⟩)

theorem aEq_bool {t : TypeId} {x y : Value} {op : BinOp} {v : Value} (h : (match op with
      | .eql => (aEqIn P 50 t x y).map .bool
      | .neq => (aEqIn P 50 t x y).map fun b => .bool (!b)
      | _ => none) = some v) : ∃ b, aEqIn P 50 t x y = some b ∧ ((op = .eql ∧ v = .bool b) ∨ (op = .neq ∧ v = .bool (!b))) := by
  cases op <;> simp only [] at h <;> try (cases h; done)
  all_goals (cases hb : aEqIn P 50 t x y with
    | none => simp [hb] at h
    | some b => simp [hb] at h; subst h; exact ⟨b, rfl, by simp⟩)

theorem binEq {t : TypeId} {x y : Value} (h1 : ∀ k a k' b, x = .int k a → y = .int k' b → False) (h2 : ∀ a b, x = .string a → y = .string b → False) (h3 : ∀ k a, x ≠ .float k a) (h4 : ∀ k a b, x ≠ .complex k a b) :
    binOp .eql t x y = (do pure (.bool (← Op.equal t x y))) ∧ binOp .neq t x y = (do pure (.bool (!(← Op.equal t x y)))) := by
  constructor <;> (unfold binOp; split <;> first | rfl | exact (h1 _ _ _ _ rfl rfl).elim | exact (h2 _ _ rfl rfl).elim | exact (h3 _ _ rfl).elim | exact (h4 _ _ _ rfl).elim | (simp_all; done))

theorem isConst_eq (x : Operand) : isConst x = (x matches .const _) := by cases x <;> rfl

theorem guard_nil {op : BinOp} {t : TypeId} {ox oy : Operand} (h : (isConst ox || isConst oy) = true) (w : World) : (eqGuard op t ox oy .nilIface .nilIface).run P w = .ok () w := by
  cases op <;> cases ox <;> cases oy <;> first | rfl | (simp [isConst] at h; done)

theorem aEq_hid1 (n : Nat) (t : TypeId) (y : Value) : aEqIn P n t (.chan none) y = none := by
  cases n with
  | zero => rfl
  | succ n => unfold aEqIn; split <;> first | rfl | (simp_all; done)
theorem aEq_hid2 (n : Nat) (t : TypeId) (x : Value) : aEqIn P n t x (.chan none) = none := by
  cases n with
  | zero => rfl
  | succ n => unfold aEqIn; split <;> first | rfl | (simp_all; done)

/-- An operator on two values. -/
theorem bin_run {op : BinOp} {t : TypeId} {ox oy : Operand} {x y x' y' v : Value} {ρ : Rho} (h : aBin P op t (isConst ox) (isConst oy) x y = some v) (hx : VRel ρ x x') (hy : VRel ρ y y') (w : World) :
    ((do eqGuard op t ox oy x' y'; binOp op t x' y') : Sem Value).run P w = .ok v w ∧ VRel ρ v v := by
  unfold aBin at h
  split at h
  · -- two numbers
    cases hx; cases hy
    rename_i k a k' b
    have hg : ∀ w, (eqGuard op t ox oy (.int k a) (.int k' b)).run P w = .ok () w := by intro w; unfold eqGuard; split <;> rfl
    simp only [Sem.run_bind, hg, Result.andThen_ok]
    cases hs : isShift op with
    | true => simp [hs] at h; have := shift_run (P := P) (k' := k') hs h t w; exact ⟨this.1, this.2 ρ⟩
    | false =>
      simp only [hs, cond_false] at h
      split at h
      · rename_i e; subst e; have := int_run (P := P) hs h t w; exact ⟨this.1, this.2 ρ⟩
      · cases h
  · cases hx; cases hy
    rename_i a b
    have hg : ∀ w, (eqGuard op t ox oy (.string a) (.string b)).run P w = .ok () w := by intro w; unfold eqGuard; split <;> rfl
    simp only [Sem.run_bind, hg, Result.andThen_ok]
    have := str_run (P := P) h t w
    exact ⟨this.1, this.2 ρ⟩
  · cases h
  · cases h
  · rename_i n1 n2 n3 n4
    have fin : ∀ {b : Bool}, aEqIn P 50 t x y = some b → ((op = .eql ∧ v = .bool b) ∨ (op = .neq ∧ v = .bool (!b))) → (∀ w, (eqGuard op t ox oy x' y').run P w = .ok () w) →
        ((do eqGuard op t ox oy x' y'; binOp op t x' y') : Sem Value).run P w = .ok v w ∧ VRel ρ v v := by
      intro b hb hv hg
      have z1 : x ≠ .chan none := fun e => by rw [e, aEq_hid1] at hb; cases hb
      have z2 : y ≠ .chan none := fun e => by rw [e, aEq_hid2] at hb; cases hb
      have hr := eq_run (P := P) 50 10000 t x y x' y' ρ b (by omega) hb hx hy w
      have hr' : (Op.equal t x' y').run P w = .ok b w := hr
      have he := binEq (t := t) (x := x') (y := y')
        (fun k a k' b e1 e2 => by
          subst e1; subst e2
          cases hx with
          | hid => exact z1 rfl
          | int => cases hy with
            | hid => exact z2 rfl
            | int => exact n3 _ _ _ _ rfl rfl)
        (fun a b e1 e2 => by
          subst e1; subst e2
          cases hx with
          | hid => exact z1 rfl
          | string => cases hy with
            | hid => exact z2 rfl
            | string => exact n4 _ _ rfl rfl)
        (fun k a e => by
          subst e
          cases hx with
          | hid => exact z1 rfl) (fun k a b e => by
          subst e
          cases hx with
          | hid => exact z1 rfl)
      simp only [Sem.run_bind, hg, Result.andThen_ok]
      rcases hv with ⟨rfl, rfl⟩ | ⟨rfl, rfl⟩
      · rw [he.1]; exact ⟨by simp [hr'], .bool _⟩
      · rw [he.2]; exact ⟨by simp [hr'], .bool _⟩
    split at h
    · cases hx; cases hy
      cases hc : (isConst ox || isConst oy) with
      | false => simp [hc] at h
      | true =>
        simp only [hc, cond_true] at h
        obtain ⟨b, hb, hv⟩ := aEq_bool h
        refine fin hb hv fun w => ?_
        exact guard_nil hc w
    · cases hx; cases hy
      rename_i cs ds _ _ _ _ _ _
      cases hc : P.eqGuardType P.depth t with
      | true => simp [hc] at h
      | false =>
        simp only [hc, Bool.not_false, cond_true] at h
        obtain ⟨b, hb, hv⟩ := aEq_bool h
        refine fin hb hv fun w => ?_
        rcases hv with ⟨rfl, _⟩ | ⟨rfl, _⟩ <;> simp [eqGuard, hc]
    · simp at h
    · simp at h
    · simp at h
    · rename_i m1 m2 m3 m4 m5
      simp only [cond_true] at h
      obtain ⟨b, hb, hv⟩ := aEq_bool h
      have z1 : x ≠ .chan none := fun e => by rw [e, aEq_hid1] at hb; cases hb
      have z2 : y ≠ .chan none := fun e => by rw [e, aEq_hid2] at hb; cases hb
      refine fin hb hv fun w => ?_
      rcases hv with ⟨rfl, _⟩ | ⟨rfl, _⟩ <;> (simp only [eqGuard, Bool.not_true, Bool.false_eq_true, if_false]; split <;> first | rfl | (cases hx <;> cases hy <;> exfalso <;> first | exact z1 rfl | exact z2 rfl | (simp_all; done)))
end Go.AX
