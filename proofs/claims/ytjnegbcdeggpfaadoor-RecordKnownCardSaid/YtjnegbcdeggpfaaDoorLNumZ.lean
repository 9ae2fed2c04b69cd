/- Numbers as they are written: numZ is the other way of strconv.Itoa. -/
import Derived.Test.YtjnegbcdeggpfaaDoorAxDef
import Derived.Lib.AtoiAll
import Derived.Lib.AtoiAllCases
import Derived.Lib.ItoaMem
namespace Go.AX.Lw
open Go Go.AX
set_option linter.unusedVariables false
set_option linter.unusedSimpArgs false
theorem decV_append : ∀ (x y : List UInt8) (a : Nat), decV (x ++ y) a = (decV x a).bind (decV y)
  | [], y, a => rfl
  | c :: r, y, a => by
    simp only [List.cons_append, decV]
    cases Nat.ble 48 c.toNat && Nat.ble c.toNat 57 with
    | true => exact decV_append r y _
    | false => rfl
theorem digit_nat {d : Nat} (h : d < 10) : (UInt8.ofNat (48 + d)).toNat = 48 + d := by
  rw [UInt8.toNat_ofNat']; omega
theorem decV_one {d : Nat} (h : d < 10) (a : Nat) : decV [UInt8.ofNat (48 + d)] a = some (a * 10 + d) := by
  have h1 : (Nat.ble 48 (48 + d) && Nat.ble (48 + d) 57) = true := by
    rw [Bool.and_eq_true, Nat.ble_eq, Nat.ble_eq]; omega
  simp only [decV, digit_nat h, h1, cond_true, Nat.add_sub_cancel_left]
theorem decV_digits : ∀ (k u a : Nat), u < k → decV (Lib.decDigits u) a = some (a * 10 ^ (Lib.decDigits u).length + u)
  | 0, u, a, h => by omega
  | k + 1, u, a, h => by
    by_cases h1 : u < 10
    · rw [Lib.decDigits, dif_pos h1, decV_one h1]; simp
    · rw [Lib.decDigits, dif_neg h1, decV_append, decV_digits k (u / 10) a (by omega), Option.bind_some, decV_one (Nat.mod_lt _ (by decide))]
      simp only [List.length_append, List.length_cons, List.length_nil, Nat.pow_succ, Nat.zero_add, Nat.pow_zero, Nat.one_mul, Option.some.injEq]
      rw [Nat.add_mul, Nat.mul_assoc]
      omega
theorem dec_head : ∀ (k u : Nat), u < k → 1 ≤ u → ∃ c r, Lib.decDigits u = c :: r ∧ 49 ≤ c.toNat ∧ c.toNat ≤ 57
  | 0, u, h, _ => by omega
  | k + 1, u, h, h1 => by
    by_cases h2 : u < 10
    · exact ⟨_, [], by rw [Lib.decDigits, dif_pos h2], by rw [digit_nat h2]; omega, by rw [digit_nat h2]; omega⟩
    · obtain ⟨c, r, e, q1, q2⟩ := dec_head k (u / 10) (by omega) (by omega)
      exact ⟨c, r ++ [UInt8.ofNat (48 + u % 10)], by rw [Lib.decDigits, dif_neg h2, e]; rfl, q1, q2⟩
theorem dec_len : ∀ (k u : Nat), 1 ≤ k → u < 10 ^ k → (Lib.decDigits u).length ≤ k
  | 0, u, h, _ => by omega
  | 1, u, _, h => by rw [Lib.decDigits, dif_pos (by omega)]; simp
  | k + 2, u, _, h => by
    by_cases h2 : u < 10
    · rw [Lib.decDigits, dif_pos h2]; simp
    · have := dec_len (k + 1) (u / 10) (by omega) (by rw [Nat.pow_succ] at h; omega)
      rw [Lib.decDigits, dif_neg h2]
      simp; omega
theorem decV_lt : ∀ (l : List UInt8) (a u : Nat), decV l a = some u → u < (a + 1) * 10 ^ l.length
  | [], a, u, h => by simp [decV] at h; subst h; simp
  | c :: r, a, u, h => by
    simp only [decV] at h
    cases hb : Nat.ble 48 c.toNat && Nat.ble c.toNat 57 with
    | false => rw [hb] at h; cases h
    | true =>
      rw [hb] at h
      simp only [Bool.and_eq_true, Nat.ble_eq] at hb
      have h1 := decV_lt r _ u h
      have h2 : (a * 10 + (c.toNat - 48) + 1) * 10 ^ r.length ≤ (a * 10 + 10) * 10 ^ r.length := Nat.mul_le_mul_right _ (by omega)
      rw [List.length_cons, Nat.pow_succ, show (a + 1) * (10 ^ r.length * 10) = (a * 10 + 10) * 10 ^ r.length by rw [Nat.mul_comm (10 ^ r.length) 10, ← Nat.mul_assoc]; congr 1; omega]
      omega
/-- Digits without a nought ahead are the numeral of what they say. -/
theorem dec_of : ∀ (k : Nat) (l : List UInt8) (u : Nat), l.length < k → (∀ c r, l = c :: r → c.toNat ≠ 48) → l ≠ [] → decV l 0 = some u → Lib.decDigits u = l ∧ 1 ≤ u
  | 0, l, u, h, _, _, _ => by omega
  | k + 1, l, u, h, hh, hne, hd => by
    obtain ⟨l', c, rfl⟩ : ∃ l' c, l = l' ++ [c] := ⟨l.dropLast, l.getLast hne, (List.dropLast_concat_getLast hne).symm⟩
    rw [decV_append, Option.bind_eq_some_iff] at hd
    obtain ⟨m, hm, hc⟩ := hd
    simp only [decV] at hc
    cases hb : Nat.ble 48 c.toNat && Nat.ble c.toNat 57 with
    | false => rw [hb] at hc; cases hc
    | true =>
      rw [hb] at hc
      simp only [cond_true, Option.some.injEq] at hc
      simp only [Bool.and_eq_true, Nat.ble_eq] at hb
      have hce : c = UInt8.ofNat (48 + (c.toNat - 48)) := by rw [show 48 + (c.toNat - 48) = c.toNat by omega]; simp
      by_cases hl : l' = []
      · subst hl
        simp [decV] at hm
        subst hm
        have hc0 := hh c [] rfl
        have hu : u = c.toNat - 48 := by omega
        refine ⟨?_, by omega⟩
        rw [Lib.decDigits, dif_pos (by omega), hu, ← hce]; rfl
      · obtain ⟨i1, i2⟩ := dec_of k l' m (by simp at h; omega) (fun c' r e => hh c' (r ++ [c]) (by rw [e]; rfl)) hl hm
        refine ⟨?_, by omega⟩
        rw [Lib.decDigits, dif_neg (by omega), show u / 10 = m by omega, i1, show u % 10 = c.toNat - 48 by omega, ← hce]
theorem numZ_some {l : List UInt8} {n : Int} (h : numZ l = some n) : Lib.itoa n = l ∧ -1000000000 < n ∧ n < 1000000000 := by
  unfold numZ at h
  split at h
  · cases h
  · rename_i c r
    cases h45 : Nat.beq c.toNat 45 with
    | true =>
      rw [h45] at h
      have hc : c = 45 := by
        have := Nat.eq_of_beq_eq_true h45
        exact UInt8.toNat_inj.1 this
      simp only [cond_true] at h
      split at h
      · cases h
      · rename_i d r'
        cases h48 : Nat.beq d.toNat 48 with
        | true => rw [h48] at h; cases h
        | false =>
          rw [h48] at h
          simp only [cond_false] at h
          cases hl : Nat.ble (d :: r').length 9 with
          | false => rw [hl] at h; cases h
          | true =>
            rw [hl] at h
            simp only [cond_true] at h
            split at h
            · rename_i u hu
              cases h
              obtain ⟨k1, k2⟩ := dec_of _ (d :: r') u (Nat.lt_succ_self _) (fun c' q e => by cases e; exact Nat.ne_of_beq_eq_false h48) (by simp) hu
              have k3 := decV_lt _ _ _ hu
              have k4 : 10 ^ (d :: r').length ≤ 10 ^ 9 := Nat.pow_le_pow_right (by decide) (Nat.le_of_ble_eq_true hl)
              refine ⟨?_, ?_, ?_⟩
              · show Lib.itoa (-(u : Int)) = _
                rw [Lib.itoa_neg u k2, k1, hc]
              · show -1000000000 < -(u : Int)
                omega
              · show -(u : Int) < 1000000000
                omega
            · cases h
    | false =>
      rw [h45] at h
      simp only [cond_false] at h
      cases h48 : Nat.beq c.toNat 48 with
      | true =>
        rw [h48] at h
        have hc : c = 48 := UInt8.toNat_inj.1 (Nat.eq_of_beq_eq_true h48)
        simp only [cond_true] at h
        split at h
        · cases h
          exact ⟨by rw [hc]; rw [show (0 : Int) = ((0 : Nat) : Int) from rfl, Lib.itoa_nonneg, Lib.decDigits, dif_pos (by decide)]; rfl, by decide, by decide⟩
        · cases h
      | false =>
        rw [h48] at h
        simp only [cond_false] at h
        cases hl : Nat.ble (c :: r).length 9 with
        | false => rw [hl] at h; cases h
        | true =>
          rw [hl] at h
          simp only [cond_true] at h
          split at h
          · rename_i u hu
            cases h
            obtain ⟨k1, k2⟩ := dec_of _ (c :: r) u (Nat.lt_succ_self _) (fun c' q e => by cases e; exact Nat.ne_of_beq_eq_false h48) (by simp) hu
            have k3 := decV_lt _ _ _ hu
            have k4 : 10 ^ (c :: r).length ≤ 10 ^ 9 := Nat.pow_le_pow_right (by decide) (Nat.le_of_ble_eq_true hl)
            refine ⟨?_, ?_, ?_⟩
            · show Lib.itoa (u : Int) = _
              rw [Lib.itoa_nonneg, k1]
            · show -1000000000 < (u : Int)
              omega
            · show (u : Int) < 1000000000
              omega
          · cases h
theorem numZ_itoa {n : Int} (h1 : -1000000000 < n) (h2 : n < 1000000000) : numZ (Lib.itoa n) = some n := by
  by_cases hn : n < 0
  · obtain ⟨u, rfl⟩ : ∃ u : Nat, n = -(u : Int) := ⟨(-n).toNat, by omega⟩
    rw [Lib.itoa_neg u (by omega)]
    obtain ⟨c, r, e, q1, q2⟩ := dec_head (u + 1) u (by omega) (by omega)
    have hl := dec_len 9 u (by decide) (by omega)
    have hd := decV_digits (u + 1) u 0 (by omega)
    rw [e] at hl hd ⊢
    have b48 : Nat.beq c.toNat 48 = false := by
      cases hb : Nat.beq c.toNat 48 with
      | false => rfl
      | true => have := Nat.eq_of_beq_eq_true hb; omega
    unfold numZ
    have b45 : Nat.beq (45 : UInt8).toNat 45 = true := rfl
    simp only [b45, cond_true, b48, cond_false, show Nat.ble (c :: r).length 9 = true by rw [Nat.ble_eq]; exact hl, hd]
    simp
  · obtain ⟨u, rfl⟩ : ∃ u : Nat, n = (u : Int) := ⟨n.toNat, by omega⟩
    rw [Lib.itoa_nonneg]
    by_cases h0 : u = 0
    · subst h0
      rw [Lib.decDigits, dif_pos (by decide)]; rfl
    · obtain ⟨c, r, e, q1, q2⟩ := dec_head (u + 1) u (by omega) (by omega)
      have hl := dec_len 9 u (by decide) (by omega)
      have hd := decV_digits (u + 1) u 0 (by omega)
      rw [e] at hl hd ⊢
      have b48 : Nat.beq c.toNat 48 = false := by
        cases hb : Nat.beq c.toNat 48 with
        | false => rfl
        | true => have := Nat.eq_of_beq_eq_true hb; omega
      have b45 : Nat.beq c.toNat 45 = false := by
        cases hb : Nat.beq c.toNat 45 with
        | false => rfl
        | true => have := Nat.eq_of_beq_eq_true hb; omega
      unfold numZ
      simp only [b45, cond_false, b48, show Nat.ble (c :: r).length 9 = true by rw [Nat.ble_eq]; exact hl, cond_true, hd]
      simp
theorem parse_dec : ∀ (l : List UInt8) (a u : Nat), decV l a = some u → u < 1844674407370955162 → Lib.parseUint10 a l = .ok u
  | [], a, u, h, _ => by simp [decV] at h; subst h; rfl
  | c :: r, a, u, h, hu => by
    simp only [decV] at h
    cases hb : Nat.ble 48 c.toNat && Nat.ble c.toNat 57 with
    | false => rw [hb] at h; cases h
    | true =>
      rw [hb] at h
      simp only [Bool.and_eq_true, Nat.ble_eq] at hb
      have h' : decV r (a * 10 + (c.toNat - 48)) = some u := h
      have hge : a * 10 + (c.toNat - 48) ≤ u := by
        clear hb h
        generalize a * 10 + (c.toNat - 48) = m at h'
        induction r generalizing m with
        | nil => simp [decV] at h'; omega
        | cons x q ih =>
          simp only [decV] at h'
          cases hx : Nat.ble 48 x.toNat && Nat.ble x.toNat 57 with
          | false => rw [hx] at h'; cases h'
          | true =>
            rw [hx] at h'
            have := ih _ h'
            omega
      simp only [Lib.parseUint10, hb, and_self, if_true]
      rw [if_neg (by omega), if_neg (by omega)]
      exact parse_dec r _ u h' hu
/-- What Atoi says of a number that is written so. -/
theorem atoi_itoa {n : Int} (h1 : -1000000000 < n) (h2 : n < 1000000000) : Lib.atoiAll (Lib.itoa n) = .ok n := by
  by_cases hn : n < 0
  · obtain ⟨u, rfl⟩ : ∃ u : Nat, n = -(u : Int) := ⟨(-n).toNat, by omega⟩
    obtain ⟨c, r, e, q1, q2⟩ := dec_head (u + 1) u (by omega) (by omega)
    have hd := decV_digits (u + 1) u 0 (by omega)
    rw [Lib.itoa_neg u (by omega), Lib.atoiAll_minus]
    have hp : Lib.parseMag (Lib.decDigits u) = .ok u := by
      unfold Lib.parseMag
      rw [if_neg (by rw [e]; simp)]
      exact parse_dec _ _ _ (by simpa using hd) (by omega)
    rw [hp]
    simp only [Lib.signed]
    rw [if_neg (by omega)]
  · obtain ⟨u, rfl⟩ : ∃ u : Nat, n = (u : Int) := ⟨n.toNat, by omega⟩
    have hd := decV_digits (u + 1) u 0 (by omega)
    rw [Lib.itoa_nonneg]
    obtain ⟨c, r, e, q1, q2⟩ : ∃ c r, Lib.decDigits u = c :: r ∧ 48 ≤ c.toNat ∧ c.toNat ≤ 57 := by
      by_cases h0 : u = 0
      · subst h0
        exact ⟨48, [], by rw [Lib.decDigits, dif_pos (by decide)]; rfl, by decide, by decide⟩
      · obtain ⟨c, r, e, q1, q2⟩ := dec_head (u + 1) u (by omega) (by omega)
        exact ⟨c, r, e, by omega, q2⟩
    have hp : Lib.parseMag (Lib.decDigits u) = .ok u := by
      unfold Lib.parseMag
      rw [if_neg (by rw [e]; simp)]
      exact parse_dec _ _ _ (by simpa using hd) (by omega)
    rw [e] at hp ⊢
    rw [Lib.atoiAll_plain c r (by omega) (by omega), hp]
    simp only [Lib.signless]
    rw [if_neg (by omega)]
end Go.AX.Lw
