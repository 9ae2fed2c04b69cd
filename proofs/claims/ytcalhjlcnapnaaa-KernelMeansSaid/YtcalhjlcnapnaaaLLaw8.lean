/- The kernel formula of a kernel formula is itself, and the negation of the negation is the formula. -/
import Derived.Test.YtcalhjlcnapnaaaLSame
namespace Go.AX.Try
open Go Go.AX Go.AX.Lw Go.Proofs
set_option linter.unusedVariables false
set_option linter.unusedSimpArgs false
set_option maxRecDepth 100000
/-- What a kernel formula that was made says of itself. -/
structure KOk (k n : List Tk) : Prop where
  kf : ∃ pl, KF false pl k n
  len : k.length ≤ 2048
theorem KF.forms {p pl : Bool} {k n : List Tk} (h : KF p pl k n) : k.foldl stepP [] = [⟨k, n⟩] := by rw [h.fy]; rfl
theorem KF.formsF {p pl : Bool} {k n : List Tk} (h : KF p pl k n) : formsF k = ⟨k, n⟩ := by unfold AX.Try.formsF; rw [h.forms]; rfl
theorem KF.check {pl : Bool} {k n : List Tk} (h : KF false pl k n) (hl : k.length ≤ 2048) : checkF k = 0 := by
  obtain ⟨s, h1, h2, -⟩ := h.sy []
  unfold checkF
  rw [if_neg (by omega), h1]
  simp [h2]
theorem of_ok {l : List Tk} (h : ofE l = 0) : termF l false = 0 ∧ ∃ n, KOk (ofF l) n := by
  have h0 : termF l false = 0 := by
    by_cases hc : termF l false = 0
    · exact hc
    · unfold ofE at h; rw [if_neg hc] at h; exact h
  refine ⟨h0, ?_⟩
  obtain ⟨x, pl, hx, ⟨n, hn⟩, -⟩ := forms_ok h0
  have hF : formsF l = x := by unfold formsF; rw [hx]; rfl
  have hl : x.yes.length ≤ 2048 := by
    unfold ofE at h; rw [if_pos h0, hF] at h
    by_cases hc : x.yes.length ≤ 2048
    · exact hc
    · rw [if_neg hc] at h; cases h
  have : ofF l = x.yes := by unfold ofF; rw [if_pos h, hF]
  rw [this]
  exact ⟨n, ⟨pl, hn⟩, hl⟩
theorem KOk.of {k n : List Tk} (h : KOk k n) (ht : termF k false = 0) : ofE k = 0 ∧ ofF k = k ∧ sizeF k = k.length := by
  obtain ⟨⟨pl, hk⟩, hl⟩ := h
  have h1 : ofE k = 0 := by unfold ofE; rw [if_pos ht, hk.formsF, if_pos hl]
  refine ⟨h1, by unfold ofF; rw [if_pos h1, hk.formsF], ?_⟩
  unfold sizeF; rw [if_pos ht, hk.formsF]; show min k.length 2049 = _; exact Nat.min_eq_left (by omega)
theorem KOk.check {k n : List Tk} (h : KOk k n) : checkF k = 0 := by
  obtain ⟨⟨pl, hk⟩, hl⟩ := h
  exact hk.check hl
theorem KOk.neg {k n : List Tk} (h : KOk k n) : (negE k = 3 ∧ negF k = []) ∨ (negE k = 0 ∧ negF k = n ∧ KOk n k) := by
  have hc := h.check
  obtain ⟨⟨pl, hk⟩, hl⟩ := h
  by_cases hn : n.length ≤ 2048
  · have h1 : negE k = 0 := by unfold negE; rw [if_pos hc, hk.formsF, if_pos hn]
    exact .inr ⟨h1, by unfold negF; rw [if_pos h1, hk.formsF], ⟨pl, hk.swap⟩, hn⟩
  · have h1 : negE k = 3 := by unfold negE; rw [if_pos hc, hk.formsF, if_neg hn]
    exact .inl ⟨h1, by unfold negF; rw [if_neg (by rw [h1]; decide)]⟩
theorem KOk.back {k n : List Tk} (h : KOk n k) (hl : k.length ≤ 2048) : negE n = 0 ∧ negF n = k := by
  have hc := h.check
  obtain ⟨⟨pl, hk⟩, hl'⟩ := h
  have h1 : negE n = 0 := by unfold negE; rw [if_pos hc, hk.formsF, if_pos hl]
  exact ⟨h1, by unfold negF; rw [if_pos h1, hk.formsF]⟩
theorem OfS (X : AHeap) (w : Wf X) (a : Option Addr) (n c : Nat) (ts : List Tk) (hr : RowS X a n c 2 (ts.map Tk.cells)) (e : Nat) (k : List Tk) (he : ofE ts = e) (hk : ofF ts = k) :
    Does Try.prog orc 20 [.slice a n c] X fun r H' => ∃ a' n' c', r = .ret (.tuple #[.slice a' n' c', .int .i64 e]) ∧ RowS H' a' n' c' 2 (k.map Tk.cells) ∧ Ext X H' ∧ Wf H' :=
  (Of_any X w a n c ts hr).mono fun r H' ⟨v, h1, ⟨a', n', c', h2, h3⟩, h4, h5⟩ => ⟨a', n', c', by rw [h1, h2, he], hk ▸ h3, h4, h5⟩
theorem NegS (X : AHeap) (w : Wf X) (a : Option Addr) (n c : Nat) (ts : List Tk) (hr : RowS X a n c 2 (ts.map Tk.cells)) (hn : n ≤ 2 ^ 60) (e : Nat) (k : List Tk) (he : negE ts = e) (hk : negF ts = k) :
    Does Try.prog orc 22 [.slice a n c] X fun r H' => ∃ a' n' c', r = .ret (.tuple #[.slice a' n' c', .int .i64 e]) ∧ RowS H' a' n' c' 2 (k.map Tk.cells) ∧ Ext X H' ∧ Wf H' :=
  (Neg_any X w a n c ts hr hn).mono fun r H' ⟨v, h1, ⟨a', n', c', h2, h3⟩, h4, h5⟩ => ⟨a', n', c', by rw [h1, h2, he], hk ▸ h3, h4, h5⟩
theorem SizeS (X : AHeap) (w : Wf X) (a : Option Addr) (n c : Nat) (ts : List Tk) (hr : RowS X a n c 2 (ts.map Tk.cells)) (m e : Nat) (he : termF ts false = e) (hk : sizeF ts = m) :
    Does Try.prog orc 24 [.slice a n c] X fun r H' => r = .ret (.tuple #[.int .i64 m, .int .i64 e]) ∧ Ext X H' ∧ Wf H' :=
  (Size_any X w a n c ts hr).mono fun r H' ⟨h1, h2, h3⟩ => ⟨by rw [h1, he, hk], h2, h3⟩
theorem CheckS (X : AHeap) (w : Wf X) (a : Option Addr) (n c : Nat) (ts : List Tk) (hr : RowS X a n c 2 (ts.map Tk.cells)) (e : Nat) (he : termF ts false = e) :
    Does Try.prog orc 33 [.slice a n c] X fun r H' => r = .ret (.int .i64 e) ∧ Ext X H' ∧ Wf H' :=
  (Check_any X w a n c ts hr).mono fun r H' ⟨h1, h2, h3⟩ => ⟨by rw [h1, he], h2, h3⟩
theorem sameS (H : AHeap) (a a' : Option Addr) (n c n' c' : Nat) (ts : List Tk) (hr : RowS H a n c 2 (ts.map Tk.cells)) (hr' : RowS H a' n' c' 2 (ts.map Tk.cells)) (hn : ts.length ≤ 2 ^ 60) :
    Does Try.prog orc 31 [.slice a n c, .slice a' n' c'] H fun r H' => r = .ret (.bool true) ∧ H = H' := by
  have h1 := hr.len; simp at h1
  have h2 := hr'.len; simp at h2
  refine (sameToks_any H a a' n c n' c' ts ts hr hr' (by omega) (by omega)).mono fun r H' ⟨b, h1, h2, h3⟩ => ⟨by rw [h1, h2.2 rfl], h3⟩
theorem kernelAgain_any (H : AHeap) (hw : Wf H) (a : Option Addr) (n c : Nat) (ts : List Tk) (hr : RowS H a n c 2 (ts.map Tk.cells)) :
    Does Try.prog orc 6 [.slice a n c] H fun r H' => r = .ret (.bool true) := by
  have hlen := hr.len; simp at hlen
  have hcap := hr.cap
  refine Does.of Try.func6 (fun _ _ => rfl) rfl ?_
  by_cases h1 : n ≤ 120
  · by_cases h0 : termF ts false = 0
    · have hc := (Check_any H hw a n c ts hr).mono (Q' := fun r H' => r = .ret (.int .i64 ((0 : Nat) : Int)) ∧ Ext H H' ∧ Wf H') fun r H' h => by rw [h0] at h; exact h
      by_cases ho : ofE ts = 0
      · obtain ⟨-, m, hk⟩ := of_ok ho
        obtain ⟨k, hkk⟩ : ∃ k, k = ofF ts := ⟨_, rfl⟩
        rw [← hkk] at hk
        have hkl := hk.len
        have hneg := hk.neg
        by_cases ht : termF k false = 0
        · obtain ⟨q1, q2, q3⟩ := hk.of ht
          rcases hneg with ⟨g1, g2⟩ | ⟨g1, g2, g3⟩
          · skip
            repeat' ((conv => whnf); first
              | (refine Both.intro ?_ ?_ <;> intro _ <;> try (exfalso; omega))
              | (refine Need.intro (by omega) ?_)
              | (refine Does.mono (awake8_any H) ?_ ; rintro _ _ ⟨rfl, rfl⟩)
              | (refine Does.mono hc ?_ ; rintro _ H1 ⟨rfl, e1, w1⟩)
              | (refine Does.mono (OfS H1 w1 a n c ts (hr.ext hw e1) 0 k ho hkk.symm) ?_ ; rintro _ H2 ⟨a2, n2, c2, rfl, r2, e2, w2⟩ ; have l2 := r2.len ; simp at l2)
              | (refine Does.mono (CheckS H2 w2 a2 n2 c2 k r2 0 ht) ?_ ; rintro _ H3 ⟨rfl, e3, w3⟩)
              | (refine Does.mono (OfS H3 w3 a2 n2 c2 k (r2.ext w2 e3) 0 k q1 q2) ?_ ; rintro _ H4 ⟨a4, n4, c4, rfl, r4, e4, w4⟩)
              | (refine Does.mono (SizeS H4 w4 a2 n2 c2 k (r2.ext w2 (e3.trans e4)) k.length 0 ht q3) ?_ ; rintro _ H5 ⟨rfl, e5, w5⟩)
              | (refine Does.mono (sameS H5 a4 a2 n4 c4 n2 c2 k (r4.ext w4 e5) (r2.ext w2 (e3.trans (e4.trans e5))) (by omega)) ?_ ; rintro _ _ ⟨rfl, rfl⟩)
              | (refine Does.mono (NegS H5 w5 a2 n2 c2 k (r2.ext w2 (e3.trans (e4.trans e5))) (by omega) 3 _ g1 g2) ?_ ; rintro _ H6 ⟨a6, n6, c6, rfl, r6, e6, w6⟩)
              | fail)
            all_goals (conv => whnf)
            rfl
          · obtain ⟨b1, b2⟩ := g3.back hkl
            have hml := g3.len
            repeat' ((conv => whnf); first
              | (refine Both.intro ?_ ?_ <;> intro _ <;> try (exfalso; omega))
              | (refine Need.intro (by omega) ?_)
              | (refine Does.mono (awake8_any H) ?_ ; rintro _ _ ⟨rfl, rfl⟩)
              | (refine Does.mono hc ?_ ; rintro _ H1 ⟨rfl, e1, w1⟩)
              | (refine Does.mono (OfS H1 w1 a n c ts (hr.ext hw e1) 0 k ho hkk.symm) ?_ ; rintro _ H2 ⟨a2, n2, c2, rfl, r2, e2, w2⟩ ; have l2 := r2.len ; simp at l2)
              | (refine Does.mono (CheckS H2 w2 a2 n2 c2 k r2 0 ht) ?_ ; rintro _ H3 ⟨rfl, e3, w3⟩)
              | (refine Does.mono (OfS H3 w3 a2 n2 c2 k (r2.ext w2 e3) 0 k q1 q2) ?_ ; rintro _ H4 ⟨a4, n4, c4, rfl, r4, e4, w4⟩)
              | (refine Does.mono (SizeS H4 w4 a2 n2 c2 k (r2.ext w2 (e3.trans e4)) k.length 0 ht q3) ?_ ; rintro _ H5 ⟨rfl, e5, w5⟩)
              | (refine Does.mono (sameS H5 a4 a2 n4 c4 n2 c2 k (r4.ext w4 e5) (r2.ext w2 (e3.trans (e4.trans e5))) (by omega)) ?_ ; rintro _ _ ⟨rfl, rfl⟩)
              | (refine Does.mono (NegS H5 w5 a2 n2 c2 k (r2.ext w2 (e3.trans (e4.trans e5))) (by omega) 0 m g1 g2) ?_ ; rintro _ H6 ⟨a6, n6, c6, rfl, r6, e6, w6⟩ ; have l6 := r6.len ; simp at l6)
              | (refine Does.mono (NegS H6 w6 a6 n6 c6 m r6 (by omega) 0 k b1 b2) ?_ ; rintro _ H7 ⟨a7, n7, c7, rfl, r7, e7, w7⟩)
              | (refine Does.mono (sameS H7 a7 a2 n7 c7 n2 c2 k r7 (r2.ext w2 ((e3.trans (e4.trans e5)).trans (e6.trans e7))) (by omega)) ?_ ; rintro _ _ ⟨rfl, rfl⟩)
              | fail)
            all_goals (conv => whnf)
            rfl
        · rcases hneg with ⟨g1, g2⟩ | ⟨g1, g2, g3⟩
          · skip
            repeat' ((conv => whnf); first
              | (refine Both.intro ?_ ?_ <;> intro _ <;> try (exfalso; omega))
              | (refine Need.intro (by omega) ?_)
              | (refine Does.mono (awake8_any H) ?_ ; rintro _ _ ⟨rfl, rfl⟩)
              | (refine Does.mono hc ?_ ; rintro _ H1 ⟨rfl, e1, w1⟩)
              | (refine Does.mono (OfS H1 w1 a n c ts (hr.ext hw e1) 0 k ho hkk.symm) ?_ ; rintro _ H2 ⟨a2, n2, c2, rfl, r2, e2, w2⟩ ; have l2 := r2.len ; simp at l2)
              | (refine Does.mono (Check_any H2 w2 a2 n2 c2 k r2) ?_ ; rintro _ H5 ⟨rfl, e35, w5⟩)
              | (refine Does.mono (NegS H5 w5 a2 n2 c2 k (r2.ext w2 e35) (by omega) 3 _ g1 g2) ?_ ; rintro _ H6 ⟨a6, n6, c6, rfl, r6, e6, w6⟩)
              | fail)
            all_goals (conv => whnf)
            rfl
          · obtain ⟨b1, b2⟩ := g3.back hkl
            have hml := g3.len
            repeat' ((conv => whnf); first
              | (refine Both.intro ?_ ?_ <;> intro _ <;> try (exfalso; omega))
              | (refine Need.intro (by omega) ?_)
              | (refine Does.mono (awake8_any H) ?_ ; rintro _ _ ⟨rfl, rfl⟩)
              | (refine Does.mono hc ?_ ; rintro _ H1 ⟨rfl, e1, w1⟩)
              | (refine Does.mono (OfS H1 w1 a n c ts (hr.ext hw e1) 0 k ho hkk.symm) ?_ ; rintro _ H2 ⟨a2, n2, c2, rfl, r2, e2, w2⟩ ; have l2 := r2.len ; simp at l2)
              | (refine Does.mono (Check_any H2 w2 a2 n2 c2 k r2) ?_ ; rintro _ H5 ⟨rfl, e35, w5⟩)
              | (refine Does.mono (NegS H5 w5 a2 n2 c2 k (r2.ext w2 e35) (by omega) 0 m g1 g2) ?_ ; rintro _ H6 ⟨a6, n6, c6, rfl, r6, e6, w6⟩ ; have l6 := r6.len ; simp at l6)
              | (refine Does.mono (NegS H6 w6 a6 n6 c6 m r6 (by omega) 0 k b1 b2) ?_ ; rintro _ H7 ⟨a7, n7, c7, rfl, r7, e7, w7⟩)
              | (refine Does.mono (sameS H7 a7 a2 n7 c7 n2 c2 k r7 (r2.ext w2 (e35.trans (e6.trans e7))) (by omega)) ?_ ; rintro _ _ ⟨rfl, rfl⟩)
              | fail)
            all_goals (conv => whnf)
            rfl
      · have hof : ofF ts = [] := by unfold ofF; rw [if_neg ho]
        obtain ⟨e, he⟩ : ∃ e, e = ofE ts := ⟨_, rfl⟩
        repeat' ((conv => whnf); first
          | (refine Both.intro ?_ ?_ <;> intro _ <;> try (exfalso; omega))
          | (refine Need.intro (by omega) ?_)
          | (refine Does.mono (awake8_any H) ?_ ; rintro _ _ ⟨rfl, rfl⟩)
          | (refine Does.mono hc ?_ ; rintro _ H1 ⟨rfl, e1, w1⟩)
          | (refine Does.mono (OfS H1 w1 a n c ts (hr.ext hw e1) e [] he.symm hof) ?_ ; rintro _ H2 ⟨a2, n2, c2, rfl, r2, e2, w2⟩)
          | fail)
        all_goals (conv => whnf)
        rfl
    · skip
      repeat' ((conv => whnf); first
        | (refine Both.intro ?_ ?_ <;> intro _ <;> try (exfalso; omega))
        | (refine Need.intro (by omega) ?_)
        | (refine Does.mono (awake8_any H) ?_ ; rintro _ _ ⟨rfl, rfl⟩)
        | (refine Does.mono (Check_any H hw a n c ts hr) ?_ ; rintro _ H' ⟨rfl, e, w⟩)
        | fail)
      all_goals (conv => whnf)
      rfl
  · skip
    repeat' ((conv => whnf); first
      | (refine Both.intro ?_ ?_ <;> intro _ <;> try (exfalso; omega))
      | (refine Need.intro (by omega) ?_)
      | (refine Does.mono (awake8_any H) ?_ ; rintro _ _ ⟨rfl, rfl⟩)
      | fail)
    all_goals (conv => whnf)
    rfl
end Go.AX.Try
