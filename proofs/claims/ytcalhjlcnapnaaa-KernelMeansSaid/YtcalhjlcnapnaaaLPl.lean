/- Rows of bools that are made place by place: mean's all, from, either, same, grow. -/
import Derived.Test.YtcalhjlcnapnaaaLOrc
import Derived.Test.YtcalhjlcnapnaaaLCheck
namespace Go.AX.Lw
open Go Go.AX
set_option linter.unusedVariables false
/-- The first n places of a set of places. -/
def bl (n : Nat) (f : Nat → Bool) : List Value := (List.range n).map fun i => .bool (f i)
theorem bl_len (n : Nat) (f : Nat → Bool) : (bl n f).length = n := by simp [bl]
theorem bl_get {n : Nat} {f : Nat → Bool} {i : Nat} (h : i < n) : (bl n f)[i]? = some (.bool (f i)) := by simp [bl, h]
theorem bl_set {n k : Nat} {f : Nat → Bool} {b : Bool} : (bl n f).set k (.bool b) = bl n fun i => if i = k then b else f i := by
  apply List.ext_getElem?
  intro i
  rw [List.getElem?_set]
  by_cases hi : i < n
  · rw [bl_get hi]
    by_cases hk : k = i
    · subst hk; rw [if_pos rfl, if_pos (by rw [bl_len]; exact hi), bl_get hi, if_pos rfl]
    · rw [if_neg hk, bl_get hi, if_neg (fun e => hk e.symm)]
  · have h1 : (bl n fun i => if i = k then b else f i)[i]? = none := List.getElem?_eq_none (by rw [bl_len]; omega)
    rw [h1]
    split
    · first | rw [if_neg (by rw [bl_len]; omega)] | (simp [bl_len]; omega)
    · exact List.getElem?_eq_none (by rw [bl_len]; omega)
theorem bl_congr {n : Nat} {f g : Nat → Bool} (h : ∀ i, i < n → f i = g i) : bl n f = bl n g := by
  unfold bl
  refine List.map_congr_left fun i hi => ?_
  rw [h i (by simpa using hi)]
theorem bl_false (n : Nat) : List.replicate n (Value.bool false) = bl n fun _ => false := by
  apply List.ext_getElem?
  intro i
  by_cases hi : i < n
  · rw [bl_get hi, List.getElem?_replicate, if_pos hi]
  · rw [List.getElem?_eq_none (by simp; omega), List.getElem?_eq_none (by rw [bl_len]; omega)]
theorem bl_inj {n : Nat} {f g : Nat → Bool} (h : bl n f = bl n g) : ∀ i, i < n → f i = g i := by
  intro i hi
  have := bl_get (f := f) hi
  rw [h, bl_get hi] at this
  simpa using this.symm
abbrev BRow (H : AHeap) (a : Option Addr) (n c : Nat) (f : Nat → Bool) : Prop := Row H a n c (bl n f)
theorem BRow.at {H : AHeap} {a : Option Addr} {n c : Nat} {f : Nat → Bool} (h : BRow H a n c f) {i : Nat} (hi : i < n) : ∃ b o st, a = some ⟨b, o, st⟩ ∧ cellAt H b (o + i) = some (.bool (f i)) := h.cell i _ (bl_get hi)
/-- What is made from the end on. -/
def frD (e : Bool) (g : Nat → Bool → Bool) : Nat → Nat → Bool
  | 0, _ => e
  | d + 1, i => g i (frD e g d (i + 1))
def frF (n : Nat) (e : Bool) (g : Nat → Bool → Bool) (i : Nat) : Bool := frD e g (n - i) i
theorem frF_end (n : Nat) (e : Bool) (g : Nat → Bool → Bool) : frF n e g n = e := by unfold frF; rw [Nat.sub_self]; rfl
theorem frF_step {n : Nat} {e : Bool} {g : Nat → Bool → Bool} {i : Nat} (h : i < n) : frF n e g i = g i (frF n e g (i + 1)) := by
  unfold frF
  rw [show n - i = (n - (i + 1)) + 1 by omega]
  rfl
/-- Both sets of places. -/
def orF (f g : Nat → Bool) : Nat → Bool := fun i => f i || g i
/-- As often as something comes new. -/
def grF (n : Nat) (b : (Nat → Bool) → Nat → Bool) : Nat → (Nat → Bool) → Nat → Bool
  | 0, x => x
  | k + 1, x => if (List.range n).all (fun i => x i == orF x (b x) i) then x else grF n b k (orF x (b x))
def fls (n : Nat) (f : Nat → Bool) : Nat := ((List.range n).filter fun i => !f i).length
theorem fls_le (n : Nat) (f : Nat → Bool) : fls n f ≤ n := by
  have := List.length_filter_le (fun i => !f i) (List.range n)
  simpa [fls] using this
theorem filter_lt {α : Type} (p q : α → Bool) : ∀ (l : List α), (∀ x ∈ l, q x = true → p x = true) → (∃ x ∈ l, p x = true ∧ q x = false) → (l.filter q).length < (l.filter p).length
  | [], _, h => by obtain ⟨x, hx, _⟩ := h; cases hx
  | y :: r, hall, hex => by
    have hle : ∀ (l : List α), (∀ x ∈ l, q x = true → p x = true) → (l.filter q).length ≤ (l.filter p).length := by
      intro l hl
      induction l with
      | nil => simp
      | cons z s ih =>
        have := ih fun x hx => hl x (by simp [hx])
        have hz := hl z (by simp)
        cases hq : q z with
        | true => simp [hq, hz hq]; exact this
        | false => cases hp : p z <;> simp [hq, hp] <;> omega
    have hr := hle r fun x hx => hall x (by simp [hx])
    have hy := hall y (by simp)
    obtain ⟨x, hx, hpx, hqx⟩ := hex
    rcases List.mem_cons.1 hx with rfl | hx
    · simp [hpx, hqx]; omega
    · have := filter_lt p q r (fun x hx => hall x (by simp [hx])) ⟨x, hx, hpx, hqx⟩
      cases hq : q y with
      | true => simp [hq, hy hq]; exact this
      | false => cases hp : p y <;> simp [hq, hp] <;> omega
theorem fls_lt {n : Nat} {x : Nat → Bool} {b : Nat → Bool} (h : ¬ (∀ i, i < n → x i = orF x b i)) : fls n (orF x b) < fls n x := by
  refine filter_lt (fun i => !x i) (fun i => !orF x b i) (List.range n) (fun i _ hi => ?_) ?_
  · simp only [orF, Bool.not_eq_true', Bool.or_eq_false_iff] at hi ⊢; exact hi.1
  · by_cases hex : ∃ i ∈ List.range n, (!x i) = true ∧ (!orF x b i) = false
    · exact hex
    · refine absurd (fun i hi => ?_) h
      cases hx : x i with
      | true => simp [orF, hx]
      | false =>
        cases ho : orF x b i with
        | false => rfl
        | true => exact absurd ⟨i, by simpa using hi, by simp [hx], by simp [ho]⟩ hex
end Go.AX.Lw
namespace Go.AX.Try
open Go Go.AX Go.AX.Lw Go.Proofs
set_option linter.unusedVariables false
set_option maxRecDepth 100000
/-- A function value that tells of each place whether it is in. -/
structure FnI (H : AHeap) (v : Value) (n : Nat) (f : Nat → Bool) : Prop where
  intro :: run : ∃ g fi ca, v = .func (.func g) fi ca ∧ ∀ H', Ext H H' → Wf H' → ∀ i : Nat, i < n → Does Try.prog orc g (fi.toList ++ [.int .i64 i] ++ ca.toList) H' fun r H'' => r = .ret (.bool (f i)) ∧ Ext H' H'' ∧ Wf H''
/-- One that is told what holds behind. -/
structure FnB (H : AHeap) (v : Value) (n : Nat) (f : Nat → Bool → Bool) : Prop where
  intro :: run : ∃ g fi ca, v = .func (.func g) fi ca ∧ ∀ H', Ext H H' → Wf H' → ∀ (i : Nat) (b : Bool), i < n → Does Try.prog orc g (fi.toList ++ [.int .i64 i, .bool b] ++ ca.toList) H' fun r H'' => r = .ret (.bool (f i b)) ∧ Ext H' H'' ∧ Wf H''
theorem mkPl {n : Nat} (hn : n ≤ 2 ^ 40) : aMakeSlice Try.prog 68 (.int .i64 n) (.int .i64 n) = mkSlice (bl n fun _ => false) n n := by
  rw [makeSlice_ok (z := .bool false) (by_ := 1) (e := 4) (by kernel_rfl) (by kernel_rfl) rfl (by kernel_rfl) (by kernel_rfl) (by omega)]
  simp only [Int.toNat_natCast, bl_false]
theorem storePl {H : AHeap} {b n k : Nat} {f : Nat → Bool} {x : Bool} (hg : H.get b = some (.cells (bl n f) 0 true)) (hk : k < n) :
    aStore Try.prog H 4 (.pointer (some ⟨b, 0 + k, none⟩)) (.bool x) = some (.val undef (H.set b (.cells (bl n fun i => if i = k then x else f i) 0 true)) (.eff H (H.set b (.cells (bl n fun i => if i = k then x else f i) 0 true)))) := by
  rw [Nat.zero_add, store_ok (v := .bool x) (by kernel_rfl) rfl rfl hg (by rw [bl_len]; exact hk), bl_set]
theorem all_any (H : AHeap) (hw : Wf H) (a : Option Addr) (n c : Nat) (v : Value) (f : Nat → Bool) (hf : FnI H v (n + 1) f) (hn : n ≤ 2 ^ 30) :
    Does Try.prog orc 74 [.slice a n c, v] H fun r H' => ∃ b, r = .ret (.slice (some ⟨b, 0, none⟩) (n + 1) (n + 1)) ∧ BRow H' (some ⟨b, 0, none⟩) (n + 1) (n + 1) f ∧ H.next ≤ b ∧ Ext H H' ∧ Wf H' := by
  obtain ⟨g, fi, ca, rfl, hrun⟩ := hf.run
  refine Does.of Try.func74 (fun _ _ => rfl) rfl ?_
  have hmk := mkPl (n := n + 1) (by omega)
  repeat' ((conv => whnf); first
    | (refine Both.intro ?_ ?_ <;> intro _ <;> try (exfalso; omega))
    | (refine Need.intro (by omega) ?_)
    | (refine ⟨_, _, _, hmk, ?_⟩)
    | fail)
  all_goals (conv => whnf)
  refine Runs.loop (fun k : Nat => [(13, .int .i64 k), (12, .int .i64 (n + 1 : Nat)), (5, .slice (some ⟨H.next, 0, none⟩) (n + 1) (n + 1)), (1, .func (.func g) fi ca)])
    (fun k H' => k ≤ n + 1 ∧ Ext H H' ∧ Wf H' ∧ H'.get H.next = some (.cells (bl (n + 1) fun i => if i < k then f i else false) 0 true)) (fun k => n + 1 - k) 0
    ⟨rfl, rfl, rfl, rfl, trivial⟩ ⟨by omega, Ext.push _ _, hw.push _, by rw [get_new]; simp⟩ ?_
  rintro k H1 ⟨hk, e1, w1, g1⟩
  by_cases hlt : k < n + 1
  · skip
    repeat' ((conv => whnf); first
      | (refine Both.intro ?_ ?_ <;> intro _ <;> try (exfalso; omega))
      | (refine Need.intro (by omega) ?_)
      | (refine Does.mono (hrun H1 e1 w1 k hlt) ?_ ; rintro _ H2 ⟨rfl, e2, w2⟩)
      | (refine Outs.intro ⟨_, _, _, storePl (by rw [e2.get _ (w1.lt g1)]; exact g1) hlt, ?_⟩)
      | fail)
    all_goals (conv => whnf)
    have g2 := (e2.get _ (w1.lt g1)).trans g1
    refine ⟨k + 1, ⟨rfl, rfl, rfl, rfl, trivial⟩, ⟨by omega, (e1.trans e2).set (Nat.le_refl _) _, w2.set g2 _, ?_⟩, by omega⟩
    rw [AHeap.get_set, if_pos rfl]
    congr 2
    refine bl_congr fun i hi => ?_
    simp only [Int.toNat_natCast]
    by_cases h1 : i = k
    · subst h1; rw [if_pos rfl, if_pos (by omega)]
    · rw [if_neg h1]
      by_cases h2 : i < k
      · rw [if_pos h2, if_pos (by omega)]
      · rw [if_neg h2, if_neg (by omega)]
  · skip
    repeat' ((conv => whnf); first
      | (refine Both.intro ?_ ?_ <;> intro _ <;> try (exfalso; omega))
      | (refine Need.intro (by omega) ?_)
      | fail)
    all_goals (conv => whnf)
    obtain rfl : k = n + 1 := by omega
    refine ⟨H.next, rfl, Row.of_block g1 (bl_len _ _).symm (Nat.le_refl _) ?_, Nat.le_refl _, e1, w1⟩
    rw [bl_congr (g := f) fun i hi => if_pos hi]
    exact List.prefix_refl _
theorem from_any (H : AHeap) (hw : Wf H) (a : Option Addr) (n c : Nat) (e : Bool) (v : Value) (f : Nat → Bool → Bool) (hf : FnB H v n f) (hn : n ≤ 2 ^ 30) :
    Does Try.prog orc 128 [.slice a n c, .bool e, v] H fun r H' => ∃ b, r = .ret (.slice (some ⟨b, 0, none⟩) (n + 1) (n + 1)) ∧ BRow H' (some ⟨b, 0, none⟩) (n + 1) (n + 1) (frF n e f) ∧ H.next ≤ b ∧ Ext H H' ∧ Wf H' := by
  obtain ⟨g, fi, ca, rfl, hrun⟩ := hf.run
  refine Does.of Try.func128 (fun _ _ => rfl) rfl ?_
  have hmk := mkPl (n := n + 1) (by omega)
  have g0 := get_new H (.cells (bl (n + 1) fun _ => false) 0 true)
  have w0 := hw.push (.cells (bl (n + 1) fun _ => false) 0 true)
  repeat' ((conv => whnf); first
    | (refine Both.intro ?_ ?_ <;> intro _ <;> try (exfalso; omega))
    | (refine Need.intro (by omega) ?_)
    | (refine ⟨_, _, _, hmk, ?_⟩)
    | (refine Outs.intro ⟨_, _, _, storePl g0 (by omega), ?_⟩)
    | fail)
  all_goals (conv => whnf)
  refine Runs.loop (fun k : Nat => [(8, .int .i64 ((k : Int) - 1)), (7, .slice (some ⟨H.next, 0, none⟩) (n + 1) (n + 1)), (2, .func (.func g) fi ca)])
    (fun k H' => k ≤ n ∧ Ext H H' ∧ Wf H' ∧ H'.get H.next = some (.cells (bl (n + 1) fun i => if k ≤ i then frF n e f i else false) 0 true)) (fun k => k) n
    ⟨rfl, rfl, rfl, trivial⟩ ⟨by omega, (Ext.push _ _).set (Nat.le_refl _) _, w0.set g0 _, ?_⟩ ?_
  · rw [AHeap.get_set, if_pos rfl]
    congr 2
    refine bl_congr fun i hi => ?_
    simp only [Int.toNat_natCast]
    by_cases h1 : i = n
    · subst h1; rw [if_pos rfl, if_pos (Nat.le_refl _), frF_end]
    · rw [if_neg h1, if_neg (by omega)]
  rintro k H1 ⟨hk, e1, w1, g1⟩
  by_cases hlt : k = 0
  · subst hlt
    repeat' ((conv => whnf); first
      | (refine Both.intro ?_ ?_ <;> intro _ <;> try (exfalso; omega))
      | (refine Need.intro (by omega) ?_)
      | fail)
    all_goals (conv => whnf)
    refine ⟨H.next, rfl, Row.of_block g1 (bl_len _ _).symm (Nat.le_refl _) ?_, Nat.le_refl _, e1, w1⟩
    rw [bl_congr (g := frF n e f) fun i hi => if_pos (Nat.zero_le _)]
    exact List.prefix_refl _
  · obtain ⟨j, rfl⟩ : ∃ j, k = j + 1 := ⟨k - 1, by omega⟩
    have hj : (((j + 1 : Nat) : Int) - 1) = (j : Int) := by omega
    rw [hj]
    have hc : cellAt H1 H.next (0 + (j + 1)) = some (.bool (frF n e f (j + 1))) := by
      have := cellAt_of g1 (o := j + 1) (v := .bool (frF n e f (j + 1))) (by rw [bl_get (by omega), if_pos (Nat.le_refl _)])
      exact this
    have hc : cellAt H1 H.next (0 + ((j : Int) + 1).toNat) = some (.bool (frF n e f (j + 1))) := hc
    repeat' ((conv => whnf); first
      | (refine Both.intro ?_ ?_ <;> intro _ <;> try (exfalso; omega))
      | (refine Need.intro (by omega) ?_)
      | (refine ⟨_, hc, ?_⟩)
      | (refine Does.mono (hrun H1 e1 w1 j (frF n e f (j + 1)) (by omega)) ?_ ; rintro _ H2 ⟨rfl, e2, w2⟩)
      | (refine Outs.intro ⟨_, _, _, storePl (k := j) (by rw [e2.get _ (w1.lt g1)]; exact g1) (by omega), ?_⟩)
      | fail)
    all_goals (conv => whnf)
    have g2 := (e2.get _ (w1.lt g1)).trans g1
    refine ⟨j, ⟨rfl, rfl, rfl, trivial⟩, ⟨by omega, (e1.trans e2).set (Nat.le_refl _) _, w2.set g2 _, ?_⟩, by omega⟩
    rw [AHeap.get_set, if_pos rfl]
    congr 2
    refine bl_congr fun i hi => ?_
    by_cases h1 : i = j
    · have hjn : j < n := by omega
      subst h1; rw [if_pos rfl, if_pos (Nat.le_refl _), frF_step hjn]
    · rw [if_neg h1]
      by_cases h2 : j + 1 ≤ i
      · rw [if_pos h2, if_pos (by omega)]
      · rw [if_neg h2, if_neg (by omega)]
theorem either_any (H : AHeap) (hw : Wf H) (a a' : Option Addr) (n c c' : Nat) (f g : Nat → Bool) (hf : BRow H a n c f) (hg : BRow H a' n c' g) (hn : n ≤ 2 ^ 40) :
    Does Try.prog orc 119 [.slice a n c, .slice a' n c'] H fun r H' => ∃ b, r = .ret (.slice (some ⟨b, 0, none⟩) n n) ∧ BRow H' (some ⟨b, 0, none⟩) n n (orF f g) ∧ H.next ≤ b ∧ Ext H H' ∧ Wf H' := by
  refine Does.of Try.func119 (fun _ _ => rfl) rfl ?_
  have hmk := mkPl (n := n) (by omega)
  have c1 := hf.cap
  have c2 := hg.cap
  repeat' ((conv => whnf); first
    | (refine Both.intro ?_ ?_ <;> intro _ <;> try (exfalso; omega))
    | (refine Need.intro (by omega) ?_)
    | (refine ⟨_, _, _, hmk, ?_⟩)
    | fail)
  all_goals (conv => whnf)
  refine Runs.loop (fun k : Nat => [(12, .int .i64 k), (11, .int .i64 n), (5, .slice (some ⟨H.next, 0, none⟩) n n), (1, .slice a' n c'), (0, .slice a n c)])
    (fun k H' => k ≤ n ∧ Ext H H' ∧ Wf H' ∧ H'.get H.next = some (.cells (bl n fun i => if i < k then orF f g i else false) 0 true)) (fun k => n - k) 0
    ⟨rfl, rfl, rfl, rfl, rfl, trivial⟩ ⟨by omega, Ext.push _ _, hw.push _, by rw [get_new]; simp⟩ ?_
  rintro k H1 ⟨hk, e1, w1, g1⟩
  by_cases hlt : k < n
  · obtain ⟨b, o, s, rfl, hc⟩ := hf.at hlt
    obtain ⟨b', o', s', rfl, hc'⟩ := hg.at hlt
    have hc := cellAt_ext hw e1 hc
    have hc' := cellAt_ext hw e1 hc'
    cases hfk : f k with
    | true =>
      rw [hfk] at hc
      repeat' ((conv => whnf); first
        | (refine Both.intro ?_ ?_ <;> intro _ <;> try (exfalso; omega))
        | (refine Need.intro (by omega) ?_)
        | (refine ⟨_, hc, ?_⟩)
        | (refine Outs.intro ⟨_, _, _, storePl g1 hlt, ?_⟩)
        | fail)
      all_goals (conv => whnf)
      refine ⟨k + 1, ⟨rfl, rfl, rfl, rfl, rfl, trivial⟩, ⟨by omega, e1.set (Nat.le_refl _) _, w1.set g1 _, ?_⟩, by omega⟩
      rw [AHeap.get_set, if_pos rfl]
      congr 2
      refine bl_congr fun i hi => ?_
      simp only [Int.toNat_natCast]
      by_cases h1 : i = k
      · subst h1; rw [if_pos rfl, if_pos (by omega)]; simp [orF, hfk]
      · rw [if_neg h1]
        by_cases h2 : i < k
        · rw [if_pos h2, if_pos (by omega)]
        · rw [if_neg h2, if_neg (by omega)]
    | false =>
      rw [hfk] at hc
      repeat' ((conv => whnf); first
        | (refine Both.intro ?_ ?_ <;> intro _ <;> try (exfalso; omega))
        | (refine Need.intro (by omega) ?_)
        | (refine ⟨_, hc, ?_⟩)
        | (refine ⟨_, hc', ?_⟩)
        | (refine Outs.intro ⟨_, _, _, storePl g1 hlt, ?_⟩)
        | fail)
      all_goals (conv => whnf)
      refine ⟨k + 1, ⟨rfl, rfl, rfl, rfl, rfl, trivial⟩, ⟨by omega, e1.set (Nat.le_refl _) _, w1.set g1 _, ?_⟩, by omega⟩
      rw [AHeap.get_set, if_pos rfl]
      congr 2
      refine bl_congr fun i hi => ?_
      simp only [Int.toNat_natCast]
      by_cases h1 : i = k
      · subst h1; rw [if_pos rfl, if_pos (by omega)]; simp [orF, hfk]
      · rw [if_neg h1]
        by_cases h2 : i < k
        · rw [if_pos h2, if_pos (by omega)]
        · rw [if_neg h2, if_neg (by omega)]
  · skip
    repeat' ((conv => whnf); first
      | (refine Both.intro ?_ ?_ <;> intro _ <;> try (exfalso; omega))
      | (refine Need.intro (by omega) ?_)
      | fail)
    all_goals (conv => whnf)
    obtain rfl : k = n := by omega
    refine ⟨H.next, rfl, Row.of_block g1 (bl_len _ _).symm (Nat.le_refl _) ?_, Nat.le_refl _, e1, w1⟩
    rw [bl_congr (g := orF f g) fun i hi => if_pos hi]
    exact List.prefix_refl _
theorem same_any (H : AHeap) (a a' : Option Addr) (n c c' : Nat) (f g : Nat → Bool) (hf : BRow H a n c f) (hg : BRow H a' n c' g) (hn : n ≤ 2 ^ 40) :
    Does Try.prog orc 146 [.slice a n c, .slice a' n c'] H fun r H' => r = .ret (.bool ((List.range n).all fun i => f i == g i)) ∧ H = H' := by
  refine Does.of Try.func146 (fun _ _ => rfl) rfl ?_
  have c1 := hf.cap
  have c2 := hg.cap
  repeat' ((conv => whnf); first
    | (refine Both.intro ?_ ?_ <;> intro _ <;> try (exfalso; omega))
    | (refine Need.intro (by omega) ?_)
    | fail)
  all_goals (conv => whnf)
  refine Runs.loop (fun k : Nat => [(8, .int .i64 k), (7, .int .i64 n), (1, .slice a' n c'), (0, .slice a n c)]) (fun k H' => k ≤ n ∧ (∀ i, i < k → f i = g i) ∧ H = H') (fun k => n - k) 0 ⟨rfl, rfl, rfl, rfl, trivial⟩ ⟨by omega, by simp, rfl⟩ ?_
  rintro k _ ⟨hk, hall, rfl⟩
  by_cases hlt : k < n
  · obtain ⟨b, o, s, rfl, hc⟩ := hf.at hlt
    obtain ⟨b', o', s', rfl, hc'⟩ := hg.at hlt
    have ht : f k ≠ g k → (List.range n).all (fun i => f i == g i) = false := fun h => by
      rw [List.all_eq_false]; exact ⟨k, by simpa using hlt, by simpa using h⟩
    have hnx : f k = g k → ∀ i, i < k + 1 → f i = g i := fun h i hi => by
      by_cases h1 : i = k
      · subst h1; exact h
      · exact hall i (by omega)
    cases hfk : f k <;> cases hgk : g k <;> rw [hfk] at hc <;> rw [hgk] at hc'
    all_goals
      repeat' ((conv => whnf); first
        | (refine Both.intro ?_ ?_ <;> intro _ <;> try (exfalso; omega))
        | (refine Need.intro (by omega) ?_)
        | (refine ⟨_, hc, ?_⟩)
        | (refine ⟨_, hc', ?_⟩)
        | (refine Gives.intro ⟨.bool _, rfl, ?_⟩)
        | (refine Need.intro (DrawP.intro (by kernel_rfl)) ?_)
        | fail)
      all_goals (conv => whnf)
      first
      | exact ⟨by rw [ht (by rw [hfk, hgk]; decide)]; rfl, rfl⟩
      | exact ⟨k + 1, ⟨rfl, rfl, rfl, rfl, trivial⟩, ⟨by omega, hnx (by rw [hfk, hgk]), rfl⟩, by omega⟩
  · skip
    repeat' ((conv => whnf); first
      | (refine Both.intro ?_ ?_ <;> intro _ <;> try (exfalso; omega))
      | (refine Need.intro (by omega) ?_)
      | fail)
    all_goals (conv => whnf)
    obtain rfl : k = n := by omega
    exact ⟨by rw [List.all_eq_true.2 fun i hi => by simpa using hall i (by simpa using hi)]; rfl, rfl⟩
/-- The blocks of S are as they were. -/
def SKeep (S : Nat → Prop) (H H' : AHeap) : Prop := (∀ b, S b → H'.get b = H.get b) ∧ H.next ≤ H'.next
theorem SKeep.ext {S : Nat → Prop} {H0 H H' : AHeap} (h : SKeep S H0 H) (hl : ∀ b, S b → b < H0.next) (e : Ext H H') : SKeep S H0 H' :=
  ⟨fun b hb => (e.get b (Nat.lt_of_lt_of_le (hl b hb) h.2)).trans (h.1 b hb), Nat.le_trans h.2 e.next⟩
/-- A set of places that a call gives: a row, new or the one that was handed in. -/
def PRes (n : Nat) (a : Option Addr) (f : Nat → Bool) (H : AHeap) (r : CRes) (H' : AHeap) : Prop :=
  ∃ a' c', r = .ret (.slice a' (n + 1) c') ∧ BRow H' a' (n + 1) c' f ∧ (∀ b o s, a' = some ⟨b, o, s⟩ → H.next ≤ b ∨ ∃ o' s', a = some ⟨b, o', s'⟩) ∧ Ext H H' ∧ Wf H'
/-- A function from places to places. -/
structure FnV (S : Nat → Prop) (n : Nat) (H : AHeap) (v : Value) (f : (Nat → Bool) → Nat → Bool) : Prop where
  lt : ∀ b, S b → b < H.next
  run : ∃ g fi ca, v = .func (.func g) fi ca ∧ ∀ H', SKeep S H H' → Wf H' → ∀ a c s, BRow H' a (n + 1) c s → Does Try.prog orc g (fi.toList ++ [.slice a (n + 1) c] ++ ca.toList) H' (PRes n a (f s) H')
theorem grow_any (S : Nat → Prop) (H0 H : AHeap) (hw : Wf H) (n : Nat) (v : Value) (f : (Nat → Bool) → Nat → Bool) (hf : FnV S n H0 v f) (hk : SKeep S H0 H) (a : Option Addr) (c : Nat) (s : Nat → Bool) (hs : BRow H a (n + 1) c s) (hn : n ≤ 2 ^ 30) :
    Does Try.prog orc 124 [.slice a (n + 1) c, v] H (PRes n a (grF (n + 1) f (n + 2) s) H) := by
  obtain ⟨g, fi, ca, rfl, hrun⟩ := hf.run
  refine Does.of Try.func124 (fun _ _ => rfl) rfl ?_
  repeat' ((conv => whnf); first
    | (refine Both.intro ?_ ?_ <;> intro _ <;> try (exfalso; omega))
    | (refine Need.intro (by omega) ?_)
    | fail)
  all_goals (conv => whnf)
  refine Runs.loop (fun x : Option Addr × Nat × (Nat → Bool) × Nat => [(5, .slice x.1 (n + 1) x.2.1), (1, .func (.func g) fi ca)])
    (fun x H' => BRow H' x.1 (n + 1) x.2.1 x.2.2.1 ∧ (∀ b o s, x.1 = some ⟨b, o, s⟩ → H.next ≤ b ∨ ∃ o' s', a = some ⟨b, o', s'⟩) ∧ Ext H H' ∧ Wf H' ∧ grF (n + 1) f (n + 2) s = grF (n + 1) f x.2.2.2 x.2.2.1 ∧ fls (n + 1) x.2.2.1 < x.2.2.2)
    (fun x => fls (n + 1) x.2.2.1) (a, c, s, n + 2) ⟨rfl, rfl, trivial⟩ ⟨hs, fun b o s h => .inr ⟨o, s, h⟩, Ext.refl _, hw, rfl, by have := fls_le (n + 1) s; dsimp only; omega⟩ ?_
  rintro ⟨ax, cx, x, m⟩ H1 ⟨hx, hb, e1, w1, hgr, hm⟩
  dsimp only at hx hb hgr hm
  show vc _ _ _ _ _ [(5, .slice ax (n + 1) cx), (1, .func (.func g) fi ca)] _ _
  repeat' ((conv => whnf); first
    | (refine Both.intro ?_ ?_ <;> intro _ <;> try (exfalso; omega))
    | (refine Need.intro (by omega) ?_)
    | (refine Does.mono (hrun H1 (hk.ext hf.lt e1) w1 ax cx x hx) ?_ ; rintro _ H2 ⟨ay, cy, rfl, hy, -, e2, w2⟩)
    | (refine Does.mono (either_any H2 w2 ax ay (n + 1) cx cy x (f x) (hx.ext w1 e2) hy (by omega)) ?_ ; rintro _ H3 ⟨bz, rfl, hz, hbz, e3, w3⟩)
    | (refine Does.mono (same_any H3 ax _ (n + 1) cx _ x _ ((hx.ext w1 e2).ext w2 e3) hz (by omega)) ?_ ; rintro _ _ ⟨rfl, rfl⟩)
    | fail)
  all_goals (conv => whnf)
  obtain ⟨m', rfl⟩ : ∃ m', m = m' + 1 := ⟨m - 1, by omega⟩
  refine Br_split (fun hall => ?_) (fun hall => ?_)
  · skip
    repeat' ((conv => whnf); first
      | (refine Both.intro ?_ ?_ <;> intro _ <;> try (exfalso; omega))
      | (refine Need.intro (by omega) ?_)
      | fail)
    all_goals (conv => whnf)
    refine ⟨ax, cx, rfl, ?_, hb, (e1.trans e2).trans e3, w3⟩
    rw [hgr, grF, if_pos hall]
    exact (hx.ext w1 e2).ext w2 e3
  · skip
    repeat' ((conv => whnf); first
      | (refine Both.intro ?_ ?_ <;> intro _ <;> try (exfalso; omega))
      | (refine Need.intro (by omega) ?_)
      | fail)
    all_goals (conv => whnf)
    refine ⟨(_, _, orF x (f x), m'), ⟨rfl, rfl, trivial⟩, ⟨hz, fun b o s h => by cases h; exact .inl (by have := e1.next; have := e2.next; omega), (e1.trans e2).trans e3, w3, ?_, ?_⟩, ?_⟩
    · rw [hgr, grF, if_neg (by rw [hall]; decide)]
    all_goals
      have := fls_lt (n := n + 1) (x := x) (b := f x) fun h => by
        rw [List.all_eq_true.2 fun i hi => by simpa using h i (by simpa using hi)] at hall
        cases hall
      dsimp only
      omega
end Go.AX.Try
