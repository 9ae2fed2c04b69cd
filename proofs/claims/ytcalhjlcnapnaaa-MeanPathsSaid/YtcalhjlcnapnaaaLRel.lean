/- What a path means, as a relation between places. -/
import Derived.Test.YtcalhjlcnapnaaaLDual2
namespace Go.AX.Try
open Go Go.AX Go.AX.Lw Go.Proofs
set_option linter.unusedVariables false
set_option linter.unusedSimpArgs false
set_option maxRecDepth 100000
/-- Ways one behind the other, none or more, over places up to n. -/
inductive Ways (R : Nat → Nat → Prop) (n : Nat) : Nat → Nat → Prop
  | none (i : Nat) : Ways R n i i
  | more {i j k : Nat} (h : R i j) (hj : j ≤ n) (r : Ways R n j k) : Ways R n i k
theorem Ways.snoc {R : Nat → Nat → Prop} {n i j k : Nat} (h : Ways R n i j) (hk : R j k) (hn : k ≤ n) : Ways R n i k := by
  induction h with
  | none i => exact .more hk hn (.none _)
  | more h1 h2 _ ih => exact .more h1 h2 (ih hk)
theorem Ways.rev {R : Nat → Nat → Prop} {n i k : Nat} (h : Ways R n i k) (hi : i ≤ n) : Ways (fun a b => R b a) n k i := by
  induction h with
  | none i => exact .none _
  | more h1 h2 _ ih => exact (ih h2).snoc h1 hi
theorem Ways.le {R : Nat → Nat → Prop} {n i k : Nat} (hR : ∀ i j, R i j → i ≤ j) (h : Ways R n i k) : i ≤ k := by
  induction h with
  | none i => exact Nat.le_refl _
  | more h1 h2 _ ih => exact Nat.le_trans (hR _ _ h1) ih
/-- A path's meaning is a relation. -/
structure RelOk (n : Nat) (x : Sm) (R : Nat → Nat → Prop) : Prop where
  back : ∀ (s : Nat → Bool) i, i ≤ n → (x.back s i = true ↔ ∃ k, k ≤ n ∧ R i k ∧ s k = true)
  on : ∀ (s : Nat → Bool) k, k ≤ n → (x.on s k = true ↔ ∃ i, i ≤ n ∧ R i k ∧ s i = true)
  le : ∀ i k, R i k → i ≤ k
def PathOk (n : Nat) (x : Sm) : Prop := x.path = true → ∃ R, RelOk n x R
theorem itF_up {b : (Nat → Bool) → Nat → Bool} {s : Nat → Bool} {i : Nat} : ∀ {j : Nat}, s i = true → itF b s j i = true
  | 0, h => h
  | j + 1, h => by show (itF b s j i || _) = true; rw [itF_up h]; rfl
theorem grF_rel {n : Nat} {b : (Nat → Bool) → Nat → Bool} {R : Nat → Nat → Prop} (hb : ∀ (s : Nat → Bool) i, i ≤ n → (b s i = true ↔ ∃ k, k ≤ n ∧ R i k ∧ s k = true)) (s : Nat → Bool) (i : Nat) (hi : i ≤ n) :
    grF (n + 1) b (n + 2) s i = true ↔ ∃ k, k ≤ n ∧ Ways R n i k ∧ s k = true := by
  obtain ⟨J, h1, h2⟩ := grF_it (n + 1) b (n + 2) s (by have := fls_le (n + 1) s; omega)
  rw [h1]
  constructor
  · have : ∀ j i, i ≤ n → itF b s j i = true → ∃ k, k ≤ n ∧ Ways R n i k ∧ s k = true := by
      intro j
      induction j with
      | zero => intro i hi h; exact ⟨i, hi, .none _, h⟩
      | succ j ih =>
        intro i hi h
        have h' : (itF b s j i || b (itF b s j) i) = true := h
        rw [Bool.or_eq_true] at h'
        rcases h' with h' | h'
        · exact ih i hi h'
        · obtain ⟨k, hk, hR, hs⟩ := (hb _ i hi).1 h'
          obtain ⟨l, hl, hw, hsl⟩ := ih k hk hs
          exact ⟨l, hl, .more hR hk hw, hsl⟩
    exact this J i hi
  · rintro ⟨k, hk, hw, hs⟩
    induction hw with
    | none i => exact itF_up hs
    | @more i j k hR hj _ ih =>
      have hj' := ih hj hk hs
      have h3 := h2 i (by omega)
      rw [← h3]
      show (itF b s J i || b (itF b s J) i) = true
      rw [(hb _ i hi).2 ⟨j, hj, hR, hj'⟩, Bool.or_true]
theorem valF_rel (n : Nat) (t : List Nat) (tk : Tk) (hop : tk.op ≤ 23) (a : List Sm) (hla : a.length = takesF tk.op) (hf : fitK tk.op (a.map Sm.path) = true) (h : ∀ (i : Nat) x, a[i]? = some x → PathOk n x) : PathOk n (valF n t tk a) := by
  intro hp
  have h19 : 19 ≤ tk.op := by
    have := valF_path n t tk a hop
    rw [hp] at this
    exact of_decide_eq_true this.symm
  obtain ⟨op, p⟩ := tk
  dsimp only at hop hla hf h19
  have two : takesF op = 2 → ∃ x y, a = [x, y] ∧ PathOk n x ∧ PathOk n y := fun h2 => by
    rw [h2] at hla
    match a, hla with
    | [x, y], _ => exact ⟨x, y, rfl, h 0 _ rfl, h 1 _ rfl⟩
  have one : takesF op = 1 → ∃ x, a = [x] ∧ PathOk n x := fun h1 => by
    rw [h1] at hla
    match a, hla with
    | [x], _ => exact ⟨x, rfl, h 0 _ rfl⟩
  have hc : op = 19 ∨ op = 20 ∨ op = 21 ∨ op = 22 ∨ op = 23 := by omega
  rcases hc with rfl | rfl | rfl | rfl | rfl
  · obtain ⟨x, rfl, -⟩ := one rfl
    refine ⟨fun i k => i < n ∧ x.pl i = true ∧ k = i + 1, ⟨fun s i hi => ?_, fun s k hk => ?_, fun i k h => by omega⟩⟩
    · show (decide (i < n) && x.pl i && s (i + 1)) = true ↔ _
      simp only [Bool.and_eq_true, decide_eq_true_eq]
      constructor
      · rintro ⟨⟨h1, h2⟩, h3⟩; exact ⟨i + 1, by omega, ⟨h1, h2, rfl⟩, h3⟩
      · rintro ⟨k, _, ⟨h1, h2, rfl⟩, h3⟩; exact ⟨⟨h1, h2⟩, h3⟩
    · show (decide (0 < k) && x.pl (k - 1) && s (k - 1)) = true ↔ _
      simp only [Bool.and_eq_true, decide_eq_true_eq]
      constructor
      · rintro ⟨⟨h1, h2⟩, h3⟩; exact ⟨k - 1, by omega, ⟨by omega, h2, by omega⟩, h3⟩
      · rintro ⟨i, _, ⟨h1, h2, rfl⟩, h3⟩; exact ⟨⟨by omega, by simpa using h2⟩, by simpa using h3⟩
  · obtain ⟨x, rfl, -⟩ := one rfl
    refine ⟨fun i k => x.pl i = true ∧ k = i, ⟨fun s i hi => ?_, fun s k hk => ?_, fun i k h => by omega⟩⟩
    · show (x.pl i && s i) = true ↔ _
      simp only [Bool.and_eq_true]
      constructor
      · rintro ⟨h2, h3⟩; exact ⟨i, hi, ⟨h2, rfl⟩, h3⟩
      · rintro ⟨k, _, ⟨h2, rfl⟩, h3⟩; exact ⟨h2, h3⟩
    · show (x.pl k && s k) = true ↔ _
      simp only [Bool.and_eq_true]
      constructor
      · rintro ⟨h2, h3⟩; exact ⟨k, hk, ⟨h2, rfl⟩, h3⟩
      · rintro ⟨i, _, ⟨h2, rfl⟩, h3⟩; exact ⟨h2, h3⟩
  · obtain ⟨x, y, rfl, hx, hy⟩ := two rfl
    have hf : x.path = true ∧ y.path = true := by simpa [fitK] using hf
    obtain ⟨R, r⟩ := hx hf.1
    obtain ⟨Q, q⟩ := hy hf.2
    refine ⟨fun i k => R i k ∨ Q i k, ⟨fun s i hi => ?_, fun s k hk => ?_, fun i k h => h.elim (r.le i k) (q.le i k)⟩⟩
    · show (x.back s i || y.back s i) = true ↔ _
      rw [Bool.or_eq_true, r.back s i hi, q.back s i hi]
      constructor
      · rintro (⟨k, h1, h2, h3⟩ | ⟨k, h1, h2, h3⟩)
        · exact ⟨k, h1, .inl h2, h3⟩
        · exact ⟨k, h1, .inr h2, h3⟩
      · rintro ⟨k, h1, h2 | h2, h3⟩
        · exact .inl ⟨k, h1, h2, h3⟩
        · exact .inr ⟨k, h1, h2, h3⟩
    · show (x.on s k || y.on s k) = true ↔ _
      rw [Bool.or_eq_true, r.on s k hk, q.on s k hk]
      constructor
      · rintro (⟨k, h1, h2, h3⟩ | ⟨k, h1, h2, h3⟩)
        · exact ⟨k, h1, .inl h2, h3⟩
        · exact ⟨k, h1, .inr h2, h3⟩
      · rintro ⟨k, h1, h2 | h2, h3⟩
        · exact .inl ⟨k, h1, h2, h3⟩
        · exact .inr ⟨k, h1, h2, h3⟩
  · obtain ⟨x, y, rfl, hx, hy⟩ := two rfl
    have hf : x.path = true ∧ y.path = true := by simpa [fitK] using hf
    obtain ⟨R, r⟩ := hx hf.1
    obtain ⟨Q, q⟩ := hy hf.2
    refine ⟨fun i k => ∃ j, j ≤ n ∧ R i j ∧ Q j k, ⟨fun s i hi => ?_, fun s k hk => ?_, fun i k h => by obtain ⟨j, _, h1, h2⟩ := h; exact Nat.le_trans (r.le _ _ h1) (q.le _ _ h2)⟩⟩
    · show x.back (y.back s) i = true ↔ _
      rw [r.back _ i hi]
      constructor
      · rintro ⟨j, h1, h2, h3⟩
        obtain ⟨k, h4, h5, h6⟩ := (q.back s j h1).1 h3
        exact ⟨k, h4, ⟨j, h1, h2, h5⟩, h6⟩
      · rintro ⟨k, h4, ⟨j, h1, h2, h5⟩, h6⟩
        exact ⟨j, h1, h2, (q.back s j h1).2 ⟨k, h4, h5, h6⟩⟩
    · show y.on (x.on s) k = true ↔ _
      rw [q.on _ k hk]
      constructor
      · rintro ⟨j, h1, h2, h3⟩
        obtain ⟨i, h4, h5, h6⟩ := (r.on s j h1).1 h3
        exact ⟨i, h4, ⟨j, h1, h5, h2⟩, h6⟩
      · rintro ⟨i, h4, ⟨j, h1, h5, h2⟩, h6⟩
        exact ⟨j, h1, h2, (r.on s j h1).2 ⟨i, h4, h5, h6⟩⟩
  · obtain ⟨x, rfl, hx⟩ := one rfl
    have hf : x.path = true := by simpa [fitK] using hf
    obtain ⟨R, r⟩ := hx hf
    refine ⟨fun i k => i ≤ n ∧ Ways R n i k, ⟨fun s i hi => ?_, fun s k hk => ?_, fun i k h => Ways.le r.le h.2⟩⟩
    · show grF (n + 1) x.back (n + 2) s i = true ↔ _
      rw [grF_rel r.back s i hi]
      constructor
      · rintro ⟨k, h1, h2, h3⟩; exact ⟨k, h1, ⟨hi, h2⟩, h3⟩
      · rintro ⟨k, h1, ⟨_, h2⟩, h3⟩; exact ⟨k, h1, h2, h3⟩
    · show grF (n + 1) x.on (n + 2) s k = true ↔ _
      rw [grF_rel (R := fun a b => R b a) r.on s k hk]
      constructor
      · rintro ⟨i, h1, h2, h3⟩; exact ⟨i, h1, ⟨h1, Ways.rev h2 hk⟩, h3⟩
      · rintro ⟨i, h1, ⟨_, h2⟩, h3⟩; exact ⟨i, h1, Ways.rev h2 h1, h3⟩
/-- What holds of each value on the stack. -/
theorem eval_all {Q : Sm → Prop} {n : Nat} {t : List Nat} (hv : ∀ (tk : Tk) (a : List Sm), tk.op ≤ 23 → a.length = takesF tk.op → fitK tk.op (a.map Sm.path) = true → (∀ (i : Nat) x, a[i]? = some x → Q x) → Q (valF n t tk a)) {ts : List Tk} {p : Bool} (h : kinds ts = some [p]) : Q (meanV n t ts) := by
  obtain ⟨h1, h2, h3⟩ := eval_rel (R := fun x y => x.path = y.path ∧ Q x) (n := n) (n' := n) (t := t) (t' := t) (fun _ _ h => h.1) (fun tk a b c1 c2 c3 c4 c5 => ⟨by rw [valF_path _ _ _ _ c1, valF_path _ _ _ _ c1], hv tk a c1 c3 c4 fun i x hx => by
    have hi := (List.getElem?_eq_some_iff.1 hx).1
    exact (c5 i x _ hx (List.getElem?_eq_getElem (by omega))).2⟩) ts [] [] [p] rfl (by simp) h
  have e := (evalV_one n t h).1
  exact (h3 0 _ _ (by show (evalV n t ts)[0]? = _; rw [e]; rfl) (by show (evalV n t ts)[0]? = _; rw [e]; rfl)).2
theorem path_rel (n : Nat) (t : List Nat) {ts : List Tk} (h : kinds ts = some [true]) : ∃ R, RelOk n (meanV n t ts) R :=
  eval_all (Q := PathOk n) (fun tk a h1 h2 h3 h4 => valF_rel n t tk h1 a h2 h3 h4) h (evalV_one n t h).2
end Go.AX.Try
