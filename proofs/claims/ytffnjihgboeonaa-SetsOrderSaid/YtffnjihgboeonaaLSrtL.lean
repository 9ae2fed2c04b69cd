/- sets, the plain law: the least sets of a list are told by what lies above them. -/
import Derived.Test.YtffnjihgboeonaaLSrtK
namespace Go.AX.Try
open Go Go.AX Go.AX.Lw Go.Proofs
set_option linter.unusedVariables false
set_option linter.unusedSimpArgs false
theorem Sub.refl (x : Nat) : Sub x x := Nat.and_self x
theorem Sub.trans {x y z : Nat} (h : Sub x y) (h' : Sub y z) : Sub x z := by
  unfold Sub at *
  rw [← h, Nat.and_assoc, h', h]
theorem Sub.antisymm {x y : Nat} (h : Sub x y) (h' : Sub y x) : x = y := by
  unfold Sub at *
  rw [← h, Nat.and_comm, h']
theorem Sub.le {x y : Nat} (h : Sub x y) : x ≤ y := by
  unfold Sub at h
  rw [← h]; exact Nat.and_le_right
theorem Sub.or {x y s : Nat} : Sub (x ||| y) s ↔ Sub x s ∧ Sub y s := by
  unfold Sub
  constructor
  · intro h
    constructor
    · apply Nat.eq_of_testBit_eq
      intro i
      have := congrArg (fun n => n.testBit i) h
      simp only [Nat.testBit_and, Nat.testBit_or] at this ⊢
      cases hx : x.testBit i <;> cases hy : y.testBit i <;> cases hs : s.testBit i <;> simp [hx, hy, hs] at this ⊢
    · apply Nat.eq_of_testBit_eq
      intro i
      have := congrArg (fun n => n.testBit i) h
      simp only [Nat.testBit_and, Nat.testBit_or] at this ⊢
      cases hx : x.testBit i <;> cases hy : y.testBit i <;> cases hs : s.testBit i <;> simp [hx, hy, hs] at this ⊢
  · rintro ⟨h1, h2⟩
    rw [Nat.and_or_distrib_right, h1, h2]
/-- What lies above one set of a list. -/
def Up (l : List Nat) (s : Nat) : Prop := ∃ x, x ∈ l ∧ Sub x s
theorem any_up (l : List Nat) (s : Nat) : (l.any fun x => decide (Sub x s)) = true ↔ Up l s := by
  rw [List.any_eq_true]
  constructor
  · rintro ⟨x, h1, h2⟩; exact ⟨x, h1, of_decide_eq_true h2⟩
  · rintro ⟨x, h1, h2⟩; exact ⟨x, h1, decide_eq_true h2⟩
theorem least_mem (l : List Nat) (x : Nat) : x ∈ leastF l ↔ x ∈ l ∧ ∀ y, y ∈ l → Sub y x → y = x := by
  unfold leastF
  have hm : ∀ y, y ∈ compF (srt l) ↔ y ∈ l := fun y => (compF_mem _ y).trans (srt_mem l y)
  rw [List.mem_filter, hm]
  refine and_congr_right fun hx => ?_
  unfold isLeast
  rw [Bool.not_eq_true', ← Bool.not_eq_true, List.any_eq_true]
  constructor
  · intro h y hy hs
    by_cases he : y = x
    · exact he
    · exact absurd ⟨y, (hm y).2 hy, decide_eq_true ⟨he, hs⟩⟩ h
  · rintro h ⟨y, hy, hd⟩
    have := of_decide_eq_true hd
    exact this.1 (h y ((hm y).1 hy) this.2)
theorem srt_sorted (l : List Nat) : (srt l).Pairwise (· ≤ ·) := by
  have h : (l.mergeSort fun x y => decide (x ≤ y)).Pairwise (fun a b => decide (a ≤ b) = true) :=
    List.pairwise_mergeSort (fun a b c h1 h2 => by simp at *; omega) (fun a b => by simp; omega) l
  exact h.imp fun h => of_decide_eq_true h
theorem compF_strict : ∀ (l : List Nat), l.Pairwise (· ≤ ·) → (compF l).Pairwise (· < ·)
  | [], _ => List.Pairwise.nil
  | [a], _ => List.pairwise_singleton _ _
  | a :: b :: r, h => by
    obtain ⟨h1, h2⟩ := List.pairwise_cons.1 h
    have ih := compF_strict (b :: r) h2
    show (if a = b then compF (b :: r) else a :: compF (b :: r)).Pairwise (· < ·)
    by_cases hab : a = b
    · rw [if_pos hab]; exact ih
    · rw [if_neg hab]
      refine List.pairwise_cons.2 ⟨fun x hx => ?_, ih⟩
      have hx' := (compF_mem (b :: r) x).1 hx
      have hb := h1 b (by simp)
      rcases List.mem_cons.1 hx' with rfl | hxr
      · omega
      · have := (List.pairwise_cons.1 h2).1 x hxr; omega
theorem least_strict (l : List Nat) : (leastF l).Pairwise (· < ·) := (compF_strict _ (srt_sorted l)).filter _
theorem strict_eq : ∀ {l m : List Nat}, l.Pairwise (· < ·) → m.Pairwise (· < ·) → (∀ x, x ∈ l ↔ x ∈ m) → l = m
  | [], [], _, _, _ => rfl
  | [], b :: m, _, _, h => by have := (h b).2 (by simp); simp at this
  | a :: l, [], _, _, h => by have := (h a).1 (by simp); simp at this
  | a :: l, b :: m, h1, h2, h => by
    obtain ⟨p1, p2⟩ := List.pairwise_cons.1 h1
    obtain ⟨q1, q2⟩ := List.pairwise_cons.1 h2
    have hab : a = b := by
      have e1 := (h a).1 (by simp)
      have e2 := (h b).2 (by simp)
      rcases List.mem_cons.1 e1 with e | e
      · exact e
      · rcases List.mem_cons.1 e2 with e' | e'
        · exact e'.symm
        · have := q1 a e; have := p1 b e'; omega
    subst hab
    rw [strict_eq p2 q2 fun x => ?_]
    have hx := h x
    rw [List.mem_cons, List.mem_cons] at hx
    constructor
    · intro hxl
      rcases hx.1 (.inr hxl) with rfl | e
      · have := p1 x hxl; omega
      · exact e
    · intro hxm
      rcases hx.2 (.inr hxm) with rfl | e
      · have := q1 x hxm; omega
      · exact e
theorem up_least (l : List Nat) (s : Nat) : Up (leastF l) s ↔ Up l s := by
  constructor
  · rintro ⟨x, h1, h2⟩; exact ⟨x, ((least_mem l x).1 h1).1, h2⟩
  · rintro ⟨x, h1, h2⟩
    have : ∀ n x, x ≤ n → x ∈ l → Sub x s → Up (leastF l) s := by
      intro n
      induction n with
      | zero =>
        intro x hn hx hs
        refine ⟨x, (least_mem l x).2 ⟨hx, fun y hy hyx => ?_⟩, hs⟩
        have := hyx.le; omega
      | succ n ih =>
        intro x hn hx hs
        by_cases hmin : ∀ y, y ∈ l → Sub y x → y = x
        · exact ⟨x, (least_mem l x).2 ⟨hx, hmin⟩, hs⟩
        · obtain ⟨y, hy⟩ := Classical.not_forall.1 hmin
          have hy1 : y ∈ l := Classical.byContradiction fun hc => hy fun h => absurd h hc
          have hy2 : Sub y x := Classical.byContradiction fun hc => hy fun _ h => absurd h hc
          have hy3 : y ≠ x := fun hc => hy fun _ _ => hc
          have := hy2.le
          exact ih y (by omega) hy1 (hy2.trans hs)
    exact this x x (Nat.le_refl _) h1 h2
theorem least_up (l : List Nat) (x : Nat) : x ∈ leastF l ↔ Up l x ∧ ∀ y, Up l y → Sub y x → y = x := by
  rw [least_mem]
  constructor
  · rintro ⟨h1, h2⟩
    refine ⟨⟨x, h1, Sub.refl x⟩, fun y ⟨z, hz, hzy⟩ hyx => ?_⟩
    have := h2 z hz (hzy.trans hyx)
    subst this
    exact Sub.antisymm hyx hzy
  · rintro ⟨⟨z, hz, hzx⟩, h2⟩
    have e := h2 z ⟨z, hz, Sub.refl z⟩ hzx
    subst e
    exact ⟨hz, fun y hy hyz => h2 y ⟨y, hy, Sub.refl y⟩ hyz⟩
/-- Lists with the same sets above them have the same least sets. -/
theorem least_eq {l m : List Nat} (h : ∀ s, Up l s ↔ Up m s) : leastF l = leastF m :=
  strict_eq (least_strict l) (least_strict m) fun x => by
    rw [least_up, least_up, h x]
    exact and_congr_right fun _ => forall_congr' fun y => by rw [h y]
theorem least_idem (l : List Nat) : leastF (leastF l) = leastF l := least_eq fun s => up_least l s
theorem up_app (l m : List Nat) (s : Nat) : Up (l ++ m) s ↔ Up l s ∨ Up m s := by
  constructor
  · rintro ⟨x, h1, h2⟩
    rcases List.mem_append.1 h1 with h | h
    · exact .inl ⟨x, h, h2⟩
    · exact .inr ⟨x, h, h2⟩
  · rintro (⟨x, h1, h2⟩ | ⟨x, h1, h2⟩)
    · exact ⟨x, List.mem_append.2 (.inl h1), h2⟩
    · exact ⟨x, List.mem_append.2 (.inr h1), h2⟩
theorem up_prod (l m : List Nat) (s : Nat) : Up (prodF l m) s ↔ Up l s ∧ Up m s := by
  unfold prodF
  constructor
  · rintro ⟨z, h1, h2⟩
    obtain ⟨x, h3, h4⟩ := List.mem_flatMap.1 h1
    obtain ⟨y, h5, rfl⟩ := List.mem_map.1 h4
    have := Sub.or.1 h2
    exact ⟨⟨x, h3, this.1⟩, ⟨y, h5, this.2⟩⟩
  · rintro ⟨⟨x, h1, h2⟩, ⟨y, h3, h4⟩⟩
    exact ⟨x ||| y, List.mem_flatMap.2 ⟨x, h1, List.mem_map.2 ⟨y, h3, rfl⟩⟩, Sub.or.2 ⟨h2, h4⟩⟩
theorem up_or (l m : List Nat) (s : Nat) : Up (orF l m) s ↔ Up l s ∨ Up m s := (up_least _ s).trans (up_app l m s)
theorem up_and (l m : List Nat) (s : Nat) : Up (andF l m) s ↔ Up l s ∧ Up m s := (up_least _ s).trans (up_prod l m s)
theorem up_zero (s : Nat) : Up [0] s ↔ True := ⟨fun _ => trivial, fun _ => ⟨0, by simp, Nat.zero_and s⟩⟩
theorem up_nil (s : Nat) : Up [] s ↔ False := ⟨fun ⟨x, h, _⟩ => by simp at h, fun h => h.elim⟩
theorem least_len (l : List Nat) : (leastF l).length ≤ l.length := by
  unfold leastF
  have q1 := List.length_filter_le (isLeast (compF (srt l))) (compF (srt l))
  have q2 := compF_len (srt l)
  rw [srt_len] at q2
  omega
theorem or_len (l m : List Nat) : (orF l m).length ≤ l.length + m.length := by
  have := least_len (l ++ m); rw [List.length_append] at this; exact this
theorem and_len (l m : List Nat) : (andF l m).length ≤ l.length * m.length := by
  have := least_len (prodF l m); rw [prodF_len] at this; exact this
abbrev Small (l : List Nat) : Prop := ∀ x ∈ l, x < 18446744073709551616
theorem small_least {l : List Nat} (h : Small l) : Small (leastF l) := fun x hx => h x ((least_mem l x).1 hx).1
theorem small_or {l m : List Nat} (h : Small l) (h' : Small m) : Small (orF l m) := small_least fun x hx => by
  rcases List.mem_append.1 hx with hh | hh
  · exact h x hh
  · exact h' x hh
theorem small_and {l m : List Nat} (h : Small l) (h' : Small m) : Small (andF l m) := small_least fun z hz => by
  obtain ⟨x, h3, h4⟩ := List.mem_flatMap.1 hz
  obtain ⟨y, h5, rfl⟩ := List.mem_map.1 h4
  exact Nat.or_lt_two_pow (n := 64) (h x h3) (h' y h5)
end Go.AX.Try
