/- The conditions along the code are enough. -/
import Derived.Test.YtgbclgkadlfejaaAxVc
namespace Go.AX
open Go
set_option linter.unusedVariables false
set_option linter.unusedSimpArgs false

variable {P : Program} {N ng : Nat}

theorem lk_ok {env : Env} {f : Fr} (hf : FOk env N ng f) {n : Nat} {v : Value} (h : lk n env = some v) : f.get n = v := hf.sub n v h
theorem optK_sound {o : Option Value} {K : Value → Prop} (h : optK o K) : ∃ v, o = some v ∧ K v := by
  unfold optK at h
  cases o with
  | none => exact h.elim
  | some v => exact ⟨v, rfl, h⟩
theorem Br_sound {t : Bool} {A B : Prop} (h : Br t A B) : (t = true ∧ A) ∨ (t = false ∧ B) := by
  unfold Br at h
  cases t
  · exact .inr ⟨rfl, h⟩
  · exact .inl ⟨rfl, h⟩
theorem oE_sound {env : Env} {f : Fr} (hf : FOk env N ng f) {x : Operand} {K : Value → Prop} (h : oE ng env x K) : ∃ v, evO f x = some v ∧ K v := by
  unfold oE at h; unfold evO
  cases x with
  | tmp t => obtain ⟨v, hv, hk⟩ := optK_sound h; exact ⟨v, by simp only [lk_ok hf hv], hk⟩
  | const v => dsimp only at h ⊢; cases hb : plainV 9 v with
    | false => rw [hb] at h; exact h.elim
    | true => rw [hb] at h; exact ⟨v, rfl, h⟩
  | global g => dsimp only at h ⊢; rw [hf.glob]; cases hb : Nat.blt g ng with
    | false => rw [hb] at h; exact h.elim
    | true => rw [hb] at h; exact ⟨_, rfl, h⟩
  | func g => exact ⟨_, rfl, h⟩
theorem oM_sound {env : Env} {f : Fr} (hf : FOk env N ng f) {x : Option Operand} {K : Option Value → Prop} (h : oM ng env x K) : ∃ v, evM f x = some v ∧ K v := by
  unfold oM at h; unfold evM
  cases x with
  | none => exact ⟨_, rfl, h⟩
  | some x => obtain ⟨v, hv, hk⟩ := oE_sound hf h; exact ⟨some v, by simp only [hv], hk⟩
theorem oL_sound {env : Env} {f : Fr} (hf : FOk env N ng f) : ∀ {l : List Operand} {K : List Value → Prop}, oL ng env l K → ∃ vs, evL f l = some vs ∧ K vs
  | [], K, h => ⟨[], rfl, h⟩
  | x :: r, K, h => by
    obtain ⟨v, hv, hk⟩ := oE_sound hf h
    obtain ⟨vs, hvs, hk⟩ := oL_sound hf hk
    exact ⟨v :: vs, by simp only [evL, hv, hvs], hk⟩
theorem pL_sound {env : Env} {f : Fr} (hf : FOk env N ng f) : ∀ {l : List (Nat × Operand)} {K : List (Nat × Value) → Prop}, pL ng env l K → ∃ vs, partsL f l = some vs ∧ K vs
  | [], K, h => ⟨[], rfl, h⟩
  | (i, x) :: r, K, h => by
    obtain ⟨v, hv, hk⟩ := oE_sound hf h
    obtain ⟨vs, hvs, hk⟩ := pL_sound hf hk
    exact ⟨(i, v) :: vs, by simp only [partsL, hv, hvs], hk⟩

theorem tst_sound {p : Prop} [d : Decidable p] {K : Value → Prop} (h : tst p K) : K (.bool (decide p)) := by
  by_cases hp : p
  · simpa [hp] using h.yes hp
  · simpa [hp] using h.no hp
theorem wrap_i64 {x : Int} (h : -9223372036854775808 ≤ x ∧ x ≤ 9223372036854775807) : IntKind.i64.wrap x = x := by
  have := h.1; have := h.2
  simp [IntKind.wrap, IntKind.bits, IntKind.signed, Int.bmod]
  omega
theorem intK_sound {op : BinOp} {k : IntKind} {x y : Int} {K : Value → Prop} (h : intK op k x y K) : ∃ v, aInt op k x y = some v ∧ K v := by
  cases op
  case eql => exact ⟨_, rfl, by have := tst_sound h; simpa [BEq.beq] using this⟩
  case neq => exact ⟨_, rfl, by have := tst_sound h; simpa [bne, BEq.beq] using this⟩
  case lss => exact ⟨_, rfl, tst_sound h⟩
  case leq => exact ⟨_, rfl, tst_sound h⟩
  case gtr => exact ⟨_, rfl, tst_sound h⟩
  case geq => exact ⟨_, rfl, tst_sound h⟩
  case add =>
    cases k
    case i64 => exact ⟨_, rfl, by rw [wrap_i64 (Need.cond h)]; exact Need.rest h⟩
    all_goals exact ⟨_, rfl, h⟩
  case sub =>
    cases k
    case i64 => exact ⟨_, rfl, by rw [wrap_i64 (Need.cond h)]; exact Need.rest h⟩
    all_goals exact ⟨_, rfl, h⟩
  case quo => exact (Need.rest h).ends
  case rem => exact (Need.rest h).ends
  all_goals exact Gives.ends h
theorem beq_dec (x y : List UInt8) : (x == y) = decide (x = y) := by
  by_cases h : x = y
  · subst h; simp
  · simp [h]
theorem strK_sound {op : BinOp} {x y : ByteArray} {K : Value → Prop} (h : strK op x y K) : ∃ v, aStr op x y = some v ∧ K v := by
  cases op
  case eql => exact ⟨_, rfl, by have := tst_sound h; rwa [beq_dec]⟩
  case neq => exact ⟨_, rfl, by have := tst_sound h; rw [beq_dec]; simpa using this⟩
  all_goals exact Gives.ends h
theorem binK_sound {op : BinOp} {t : TypeId} {cx cy : Bool} {x y : Value} {K : Value → Prop} (h : binK P op t cx cy x y K) : ∃ v, aBin P op t cx cy x y = some v ∧ K v := by
  unfold binK at h
  split at h
  · rename_i k a k' b
    cases hs : isShift op with
    | true => rw [hs] at h; simp only [aBin, hs]; exact (Need.rest h).ends
    | false =>
      rw [hs] at h
      simp only [cond_false] at h
      by_cases hk : k = k'
      case neg => rw [if_neg hk] at h; exact h.elim
      subst hk
      rw [if_pos rfl] at h
      simp only [aBin, hs, cond_false, if_true]
      exact intK_sound h
  · simp only [aBin]; exact strK_sound h
  · exact h.ends

/-- The operation ends so, with all fuel from some on. -/
def OpEnd (P : Program) (f : Fr) (H : AHeap) (op : Op) (v : Value) (H' : AHeap) (e : Ev) : Prop := ∃ k0, ∀ k, k0 ≤ k → aOp P (callA P k) f H op = some (.val v H' e)
theorem OpEnd.of {f : Fr} {H : AHeap} {op : Op} {v : Value} {H' : AHeap} {e : Ev} (h : ∀ k, aOp P (callA P k) f H op = some (.val v H' e)) : OpEnd P f H op v H' e := ⟨0, fun k _ => h k⟩
theorem undK_sound {ts : Array TypeId} {K : TypeDesc → Prop} (h : undK P ts K) : ∃ t d, ts[0]? = some t ∧ P.underlying t = some d ∧ K d := by
  unfold undK at h
  cases ht : ts[0]? with
  | none => simp only [ht] at h
  | some t =>
    simp only [ht] at h
    cases hd : P.underlying t with
    | none => simp only [hd] at h
    | some d => simp only [hd] at h; exact ⟨t, d, rfl, hd, h⟩
theorem lenK_sound {H : AHeap} {ts : Array TypeId} {l : List Value} {K : Value → AHeap → Ev → Prop} (h : lenK P H ts l K) : ∃ v H' e, aLen P H ts l = some (.val v H' e) ∧ K v H' e := by
  unfold lenK at h
  split at h
  · obtain ⟨t, d, ht, hd, hk⟩ := undK_sound h
    cases d <;> try exact hk.elim
    exact ⟨_, _, _, by simp only [aLen, ht, aLenCap, hd, cond_true, Option.map_some], hk⟩
  · obtain ⟨t, d, ht, hd, hk⟩ := undK_sound h
    cases d <;> try exact hk.elim
    exact ⟨_, _, _, by simp only [aLen, ht, aLenCap, hd, cond_true, Option.map_some], hk⟩
  · exact h.ends
theorem numK_sound {n : Nat} {K : Nat → Prop} (h : numK n K) : K n := by
  unfold numK at h
  split at h <;> exact h
theorem place_sound {o : Nat} {i : Int} {n : Nat} {K : Nat → Prop} (h : place o i n K) : K (o + i.toNat * n) := by
  unfold place at h
  split at h
  · simpa using h
  · exact numK_sound (K := fun n => K (o + i.toNat * n)) h
theorem indexAddrK_sound {t : TypeId} {x ix : Value} {K : Value → Prop} (h : indexAddrK P t x ix K) : ∃ v, aIndexAddr P t x ix = some v ∧ K v := by
  unfold indexAddrK at h
  split at h
  · split at h
    · rename_i i len e b o hd
      split at h
      · rename_i n hn; exact ⟨_, by simp only [aIndexAddr, hd, hn, if_pos h.cond], place_sound h.rest⟩
      · exact h.elim
    · rename_i i e b o s len cap hd
      split at h
      · rename_i n hn; exact ⟨_, by simp only [aIndexAddr, hd, hn, if_pos h.cond], place_sound h.rest⟩
      · exact h.elim
    · exact h.elim
  · exact h.elim
theorem indexK_sound {t : TypeId} {x ix : Value} {K : Value → Prop} (h : indexK P t x ix K) : ∃ v, aIndex P t x ix = some v ∧ K v := by
  unfold indexK at h
  split at h
  · rename_i k i s
    cases hd : P.underlying t with
    | none => simp only [hd] at h
    | some d =>
      simp only [hd] at h
      cases d <;> try exact h.elim
      obtain ⟨h0, b, hb, hk⟩ := h
      exact ⟨_, by simp only [aIndex, hd, if_pos h0, hb], hk⟩
  · exact h.ends
theorem nth_cells {cs : List Value} {o : Nat} {v : Value} (h : cs[o]? = some v) : takeN 1 (dropN o cs) = some [v] := by
  induction cs generalizing o with
  | nil => simp at h
  | cons c r ih =>
    cases o with
    | zero => simp at h; subst h; simp [dropN, takeN]
    | succ o => simp only [dropN]; exact ih (by simpa using h)
theorem cellAt_cells {H : AHeap} {b o : Nat} {v : Value} (h : cellAt H b o = some v) : cellsAt H b o 1 = some [v] := by
  unfold cellAt at h; unfold cellsAt
  split at h
  · rename_i cs e ow hg; simp only [hg]; exact nth_cells h
  · cases h
theorem loadK_sound {H : AHeap} {t : TypeId} {a : Value} {K : Value → AHeap → Ev → Prop} (h : loadK P H t a K) : ∃ v H' e, aLoad P H t a = some (.val v H' e) ∧ K v H' e := by
  unfold loadK at h
  split at h
  · rename_i b o d n hd hn
    cases hag : isAggD d with
    | true =>
      rw [hag] at h
      obtain ⟨l, hl, hk⟩ := numK_sound (K := fun n => ∃ l, cellsAt H b o n = some l ∧ K (Value.agg l.toArray) H (Ev.look b o n)) h
      exact ⟨_, _, _, by simp only [aLoad, hd, hn, hag, cond_true, hl], hk⟩
    | false =>
      rw [hag] at h
      obtain ⟨v, hv, hk⟩ := h
      exact ⟨_, _, _, by simp only [aLoad, hd, hn, hag, cond_false, cellAt_cells hv], hk⟩
  · exact h.elim
end Go.AX
