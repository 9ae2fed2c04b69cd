/- KernelMeans. -/
import Derived.Test.YtcalhjlcnapnaaaLMns
namespace Go.AX.Try
open Go Go.AX Go.AX.Lw Go.Proofs
set_option linter.unusedVariables false
set_option linter.unusedSimpArgs false
set_option maxRecDepth 100000
theorem checkS (X : AHeap) (w : Wf X) (a : Option Addr) (n c : Nat) (ts : List Tk) (hr : RowS X a n c 2 (ts.map Tk.cells)) (hn : n ≤ 2 ^ 60) (e : Nat) (he : checkF ts = e) :
    Does Try.prog orc 27 [.slice a n c] X fun r H' => r = .ret (.int .i64 e) ∧ Ext X H' ∧ Wf H' :=
  (check_any X w a n c ts hr hn).mono fun r H' ⟨h1, h2, h3⟩ => ⟨by rw [h1, he], h2, h3⟩
theorem sameT (H : AHeap) (a a' : Option Addr) (n c c' : Nat) (f g : Nat → Bool) (hf : BRow H a n c f) (hg : BRow H a' n c' g) (hn : n ≤ 2 ^ 40) (h : ∀ i, i < n → f i = g i) :
    Does Try.prog orc 17 [.slice a n c, .slice a' n c'] H fun r H' => r = .ret (.bool true) ∧ H = H' :=
  (sameBools_any H a a' n n c c' f g hf hg hn).mono fun r H' ⟨b, h1, h2, h3⟩ => ⟨by rw [h1, h2.2 ⟨rfl, h⟩], h3⟩
theorem allN (H : AHeap) (hw : Wf H) (a : Option Addr) (n c : Nat) (ts : List Tk) (hr : RowS H a n c 2 (ts.map Tk.cells)) (a' : Option Addr) (m c' : Nat) (t : List Nat) (ht : Row H a' m c' (natL t)) (h256 : ∀ x ∈ t, x < 256) (h0 : allE ts t ≠ 0) :
    Does Try.prog orc 16 [.slice a n c, .slice a' m c'] H fun r H' => Ext H H' ∧ Wf H' ∧ ∃ e : Nat, r = .ret (.tuple #[.slice none 0 0, .int .i64 e]) ∧ e ≠ 0 :=
  (meanAll_any H hw a n c ts hr a' m c' t ht h256).mono fun r H' ⟨e, w, h⟩ => ⟨e, w, by
    rcases h with ⟨h1, h2⟩ | ⟨h1, _⟩
    · exact ⟨_, h2, h1⟩
    · exact absurd h1 h0⟩
set_option maxHeartbeats 2000000 in
theorem kernelMeans_any (H : AHeap) (hw : Wf H) (a : Option Addr) (n c : Nat) (ts : List Tk) (hr : RowS H a n c 2 (ts.map Tk.cells)) (a' : Option Addr) (m c' : Nat) (t : List Nat) (ht : Row H a' m c' (natL t)) (h256 : ∀ x ∈ t, x < 256) :
    Does Try.prog orc 12 [.slice a n c, .slice a' m c'] H fun r H' => r = .ret (.bool true) := by
  have hlen := hr.len; simp at hlen
  have hcap := hr.cap
  have hlm := ht.len; simp at hlm
  refine Does.of Try.func12 (fun _ _ => rfl) rfl ?_
  by_cases h1 : n ≤ 40
  · by_cases h2 : m ≤ 16
    · by_cases h0 : termF ts false = 0
      · have hc := CheckS H hw a n c ts hr 0 h0
        have hall : allE ts t = 0 := by unfold allE meanE traceF; rw [if_pos h0, if_neg (by omega)]
        by_cases ho : ofE ts = 0
        · obtain ⟨-, nn, hk⟩ := of_ok ho
          have hsm := means_ok (n := m) (t := t) ho
          obtain ⟨k, hkk⟩ : ∃ k, k = ofF ts := ⟨_, rfl⟩
          rw [← hkk] at hk hsm
          have hkl := hk.len
          have hck := hk.check
          have hsame : ∀ i, i < m + 1 → (meanV m t ts).pl i = (meanV m t k).pl i := fun i hi => hsm i (by omega)
          rcases hk.neg with ⟨g1, g2⟩ | ⟨g1, g2, g3⟩
          · have hi : allE [] t ≠ 0 := by unfold allE meanE; rw [show termF [] false = 7 from rfl, if_neg (by decide)]; decide
            by_cases hh : allE k t = 0
            · skip
              repeat' ((conv => whnf); first
                | (refine Both.intro ?_ ?_ <;> intro _ <;> try (exfalso; omega))
                | (refine Need.intro (by omega) ?_)
                | (refine Does.mono (awake8_any H) ?_ ; rintro _ _ ⟨rfl, rfl⟩)
                | (refine Does.mono hc ?_ ; rintro _ H1 ⟨rfl, e1, w1⟩)
                | (refine Does.mono (OfS H1 w1 a n c ts (hr.ext hw e1) 0 k ho hkk.symm) ?_ ; rintro _ H2 ⟨a2, n2, c2, rfl, r2, e2, w2⟩ ; have l2 := r2.len ; simp at l2)
                | (refine Does.mono (NegS H2 w2 a2 n2 c2 k r2 (by omega) 3 [] g1 g2) ?_ ; rintro _ H3 ⟨a3, n3, c3, rfl, r3, e3, w3⟩ ; have l3 := r3.len ; simp at l3)
                | (refine Does.mono (checkS H3 w3 a2 n2 c2 k (r2.ext w2 e3) (by omega) 0 hck) ?_ ; rintro _ H4 ⟨rfl, e4, w4⟩)
                | (refine Does.mono (meanAll_ok H4 w4 a n c ts (hr.ext hw (e1.trans (e2.trans (e3.trans e4)))) a' m c' t (ht.ext hw (e1.trans (e2.trans (e3.trans e4)))) h256 hall) ?_ ; rintro _ H6 ⟨e6, w6, b6, rfl, hb6, f6⟩)
                | (refine Does.mono (meanAll_ok H6 w6 a2 n2 c2 k (r2.ext w2 (e3.trans (e4.trans e6))) a' m c' t (ht.ext hw (e1.trans (e2.trans (e3.trans (e4.trans e6))))) h256 hh) ?_ ; rintro _ H7 ⟨e7, w7, b7, rfl, hb7, f7⟩)
                | (refine Does.mono (sameT H7 _ _ _ _ _ _ _ (f6.ext w6 e7) f7 (by omega) hsame) ?_ ; rintro _ _ ⟨rfl, rfl⟩)
                | (refine Does.mono (allN H7 w7 a3 n3 c3 [] (r3.ext w3 (e4.trans (e6.trans e7))) a' m c' t (ht.ext hw (e1.trans (e2.trans (e3.trans (e4.trans (e6.trans e7)))))) h256 hi) ?_ ; rintro _ H8 ⟨e8, w8, ei, rfl, hei⟩)
                | fail)
              all_goals (conv => whnf)
              rfl
            · skip
              repeat' ((conv => whnf); first
                | (refine Both.intro ?_ ?_ <;> intro _ <;> try (exfalso; omega))
                | (refine Need.intro (by omega) ?_)
                | (refine Does.mono (awake8_any H) ?_ ; rintro _ _ ⟨rfl, rfl⟩)
                | (refine Does.mono hc ?_ ; rintro _ H1 ⟨rfl, e1, w1⟩)
                | (refine Does.mono (OfS H1 w1 a n c ts (hr.ext hw e1) 0 k ho hkk.symm) ?_ ; rintro _ H2 ⟨a2, n2, c2, rfl, r2, e2, w2⟩ ; have l2 := r2.len ; simp at l2)
                | (refine Does.mono (NegS H2 w2 a2 n2 c2 k r2 (by omega) 3 [] g1 g2) ?_ ; rintro _ H3 ⟨a3, n3, c3, rfl, r3, e3, w3⟩ ; have l3 := r3.len ; simp at l3)
                | (refine Does.mono (checkS H3 w3 a2 n2 c2 k (r2.ext w2 e3) (by omega) 0 hck) ?_ ; rintro _ H4 ⟨rfl, e4, w4⟩)
                | (refine Does.mono (meanAll_ok H4 w4 a n c ts (hr.ext hw (e1.trans (e2.trans (e3.trans e4)))) a' m c' t (ht.ext hw (e1.trans (e2.trans (e3.trans e4)))) h256 hall) ?_ ; rintro _ H6 ⟨e6, w6, b6, rfl, hb6, f6⟩)
                | (refine Does.mono (allN H6 w6 a2 n2 c2 k (r2.ext w2 (e3.trans (e4.trans e6))) a' m c' t (ht.ext hw (e1.trans (e2.trans (e3.trans (e4.trans e6))))) h256 hh) ?_ ; rintro _ H7 ⟨e7, w7, eh, rfl, heh⟩)
                | (refine Does.mono (allN H7 w7 a3 n3 c3 [] (r3.ext w3 (e4.trans (e6.trans e7))) a' m c' t (ht.ext hw (e1.trans (e2.trans (e3.trans (e4.trans (e6.trans e7)))))) h256 hi) ?_ ; rintro _ H8 ⟨e8, w8, ei, rfl, hei⟩)
                | fail)
              all_goals (conv => whnf)
              rfl
          · have hnl := g3.len
            have hcn := g3.check
            have hng := means_neg (n := m) (t := t) g1
            rw [g2] at hng
            have hnot : ∀ i, i < m + 1 → (meanV m t nn).pl i = !(meanV m t ts).pl i := fun i hi => by rw [hng i (by omega), ← hsm i (by omega)]
            by_cases hh : allE k t = 0
            · by_cases hi : allE nn t = 0
              · skip
                repeat' ((conv => whnf); first
                  | (refine Both.intro ?_ ?_ <;> intro _ <;> try (exfalso; omega))
                  | (refine Need.intro (by omega) ?_)
                  | (refine Does.mono (awake8_any H) ?_ ; rintro _ _ ⟨rfl, rfl⟩)
                  | (refine Does.mono hc ?_ ; rintro _ H1 ⟨rfl, e1, w1⟩)
                  | (refine Does.mono (OfS H1 w1 a n c ts (hr.ext hw e1) 0 k ho hkk.symm) ?_ ; rintro _ H2 ⟨a2, n2, c2, rfl, r2, e2, w2⟩ ; have l2 := r2.len ; simp at l2)
                  | (refine Does.mono (NegS H2 w2 a2 n2 c2 k r2 (by omega) 0 nn g1 g2) ?_ ; rintro _ H3 ⟨a3, n3, c3, rfl, r3, e3, w3⟩ ; have l3 := r3.len ; simp at l3)
                  | (refine Does.mono (checkS H3 w3 a2 n2 c2 k (r2.ext w2 e3) (by omega) 0 hck) ?_ ; rintro _ H4 ⟨rfl, e4, w4⟩)
                  | (refine Does.mono (checkS H4 w4 a3 n3 c3 nn (r3.ext w3 e4) (by omega) 0 hcn) ?_ ; rintro _ H5 ⟨rfl, e5, w5⟩)
                  | (refine Does.mono (meanAll_ok H5 w5 a n c ts (hr.ext hw (e1.trans (e2.trans (e3.trans (e4.trans e5))))) a' m c' t (ht.ext hw (e1.trans (e2.trans (e3.trans (e4.trans e5))))) h256 hall) ?_ ; rintro _ H6 ⟨e6, w6, b6, rfl, hb6, f6⟩)
                  | (refine Does.mono (meanAll_ok H6 w6 a2 n2 c2 k (r2.ext w2 (e3.trans (e4.trans (e5.trans e6)))) a' m c' t (ht.ext hw (e1.trans (e2.trans (e3.trans (e4.trans (e5.trans e6)))))) h256 hh) ?_ ; rintro _ H7 ⟨e7, w7, b7, rfl, hb7, f7⟩)
                  | (refine Does.mono (sameT H7 _ _ _ _ _ _ _ (f6.ext w6 e7) f7 (by omega) hsame) ?_ ; rintro _ _ ⟨rfl, rfl⟩)
                  | (refine Does.mono (meanAll_ok H7 w7 a3 n3 c3 nn (r3.ext w3 (e4.trans (e5.trans (e6.trans e7)))) a' m c' t (ht.ext hw (e1.trans (e2.trans (e3.trans (e4.trans (e5.trans (e6.trans e7))))))) h256 hi) ?_ ; rintro _ H8 ⟨e8, w8, b8, rfl, hb8, f8⟩)
                  | fail)
                all_goals (conv => whnf)
                have f6' : BRow H8 _ _ _ _ := f6.ext w6 (e7.trans e8)
                refine Runs.loop (fun j : Nat => [(16, .int .i64 j), (10, .slice (some ⟨b6, 0, some 0⟩) (m + 1) (m + 1)), (14, .slice (some ⟨b8, 0, some 0⟩) (m + 1) (m + 1)), (5, .bool true)]) (fun j H' => H8 = H' ∧ j ≤ m + 1) (fun j => m + 1 - j) 0 ⟨rfl, rfl, rfl, rfl, trivial⟩ ⟨rfl, by omega⟩ ?_
                rintro j _ ⟨rfl, hj⟩
                by_cases hlt : j < m + 1
                · obtain ⟨_, _, _, hba, hca⟩ := BRow.at f6' hlt
                  cases hba
                  obtain ⟨_, _, _, hbc, hcc⟩ := BRow.at f8 hlt
                  cases hbc
                  rw [hnot j hlt] at hcc
                  have hne : ∀ b : Bool, b ≠ !b := by decide
                  cases hb : (meanV m t ts).pl j
                  · rw [hb] at hca hcc; simp only [Bool.not_false, Bool.not_true] at hcc
                    repeat' ((conv => whnf); first
                      | (refine Both.intro ?_ ?_ <;> intro _ <;> try (exfalso; omega))
                      | (refine Need.intro (by omega) ?_)
                      | (refine ⟨_, hca, ?_⟩)
                      | (refine ⟨_, hcc, ?_⟩)
                      | (refine Gives.intro ⟨.bool false, by kernel_rfl, ?_⟩)
                      | (refine Need.intro (DrawP.intro (by kernel_rfl)) ?_)
                      | fail)
                    all_goals (conv => whnf)
                    exact ⟨j + 1, ⟨rfl, rfl, rfl, rfl, trivial⟩, ⟨rfl, by omega⟩, by omega⟩
                  · rw [hb] at hca hcc; simp only [Bool.not_false, Bool.not_true] at hcc
                    repeat' ((conv => whnf); first
                      | (refine Both.intro ?_ ?_ <;> intro _ <;> try (exfalso; omega))
                      | (refine Need.intro (by omega) ?_)
                      | (refine ⟨_, hca, ?_⟩)
                      | (refine ⟨_, hcc, ?_⟩)
                      | (refine Gives.intro ⟨.bool false, by kernel_rfl, ?_⟩)
                      | (refine Need.intro (DrawP.intro (by kernel_rfl)) ?_)
                      | fail)
                    all_goals (conv => whnf)
                    exact ⟨j + 1, ⟨rfl, rfl, rfl, rfl, trivial⟩, ⟨rfl, by omega⟩, by omega⟩
                · obtain rfl : j = m + 1 := by omega
                  repeat' ((conv => whnf); first
                    | (refine Both.intro ?_ ?_ <;> intro _ <;> try (exfalso; omega))
                    | (refine Need.intro (by omega) ?_)
                    | fail)
                  all_goals (conv => whnf)
                  rfl
              · skip
                repeat' ((conv => whnf); first
                  | (refine Both.intro ?_ ?_ <;> intro _ <;> try (exfalso; omega))
                  | (refine Need.intro (by omega) ?_)
                  | (refine Does.mono (awake8_any H) ?_ ; rintro _ _ ⟨rfl, rfl⟩)
                  | (refine Does.mono hc ?_ ; rintro _ H1 ⟨rfl, e1, w1⟩)
                  | (refine Does.mono (OfS H1 w1 a n c ts (hr.ext hw e1) 0 k ho hkk.symm) ?_ ; rintro _ H2 ⟨a2, n2, c2, rfl, r2, e2, w2⟩ ; have l2 := r2.len ; simp at l2)
                  | (refine Does.mono (NegS H2 w2 a2 n2 c2 k r2 (by omega) 0 nn g1 g2) ?_ ; rintro _ H3 ⟨a3, n3, c3, rfl, r3, e3, w3⟩ ; have l3 := r3.len ; simp at l3)
                  | (refine Does.mono (checkS H3 w3 a2 n2 c2 k (r2.ext w2 e3) (by omega) 0 hck) ?_ ; rintro _ H4 ⟨rfl, e4, w4⟩)
                  | (refine Does.mono (checkS H4 w4 a3 n3 c3 nn (r3.ext w3 e4) (by omega) 0 hcn) ?_ ; rintro _ H5 ⟨rfl, e5, w5⟩)
                  | (refine Does.mono (meanAll_ok H5 w5 a n c ts (hr.ext hw (e1.trans (e2.trans (e3.trans (e4.trans e5))))) a' m c' t (ht.ext hw (e1.trans (e2.trans (e3.trans (e4.trans e5))))) h256 hall) ?_ ; rintro _ H6 ⟨e6, w6, b6, rfl, hb6, f6⟩)
                  | (refine Does.mono (meanAll_ok H6 w6 a2 n2 c2 k (r2.ext w2 (e3.trans (e4.trans (e5.trans e6)))) a' m c' t (ht.ext hw (e1.trans (e2.trans (e3.trans (e4.trans (e5.trans e6)))))) h256 hh) ?_ ; rintro _ H7 ⟨e7, w7, b7, rfl, hb7, f7⟩)
                  | (refine Does.mono (sameT H7 _ _ _ _ _ _ _ (f6.ext w6 e7) f7 (by omega) hsame) ?_ ; rintro _ _ ⟨rfl, rfl⟩)
                  | (refine Does.mono (allN H7 w7 a3 n3 c3 nn (r3.ext w3 (e4.trans (e5.trans (e6.trans e7)))) a' m c' t (ht.ext hw (e1.trans (e2.trans (e3.trans (e4.trans (e5.trans (e6.trans e7))))))) h256 hi) ?_ ; rintro _ H8 ⟨e8, w8, ei, rfl, hei⟩)
                  | fail)
                all_goals (conv => whnf)
                rfl
            · by_cases hi : allE nn t = 0
              · skip
                repeat' ((conv => whnf); first
                  | (refine Both.intro ?_ ?_ <;> intro _ <;> try (exfalso; omega))
                  | (refine Need.intro (by omega) ?_)
                  | (refine Does.mono (awake8_any H) ?_ ; rintro _ _ ⟨rfl, rfl⟩)
                  | (refine Does.mono hc ?_ ; rintro _ H1 ⟨rfl, e1, w1⟩)
                  | (refine Does.mono (OfS H1 w1 a n c ts (hr.ext hw e1) 0 k ho hkk.symm) ?_ ; rintro _ H2 ⟨a2, n2, c2, rfl, r2, e2, w2⟩ ; have l2 := r2.len ; simp at l2)
                  | (refine Does.mono (NegS H2 w2 a2 n2 c2 k r2 (by omega) 0 nn g1 g2) ?_ ; rintro _ H3 ⟨a3, n3, c3, rfl, r3, e3, w3⟩ ; have l3 := r3.len ; simp at l3)
                  | (refine Does.mono (checkS H3 w3 a2 n2 c2 k (r2.ext w2 e3) (by omega) 0 hck) ?_ ; rintro _ H4 ⟨rfl, e4, w4⟩)
                  | (refine Does.mono (checkS H4 w4 a3 n3 c3 nn (r3.ext w3 e4) (by omega) 0 hcn) ?_ ; rintro _ H5 ⟨rfl, e5, w5⟩)
                  | (refine Does.mono (meanAll_ok H5 w5 a n c ts (hr.ext hw (e1.trans (e2.trans (e3.trans (e4.trans e5))))) a' m c' t (ht.ext hw (e1.trans (e2.trans (e3.trans (e4.trans e5))))) h256 hall) ?_ ; rintro _ H6 ⟨e6, w6, b6, rfl, hb6, f6⟩)
                  | (refine Does.mono (allN H6 w6 a2 n2 c2 k (r2.ext w2 (e3.trans (e4.trans (e5.trans e6)))) a' m c' t (ht.ext hw (e1.trans (e2.trans (e3.trans (e4.trans (e5.trans e6)))))) h256 hh) ?_ ; rintro _ H7 ⟨e7, w7, eh, rfl, heh⟩)
                  | (refine Does.mono (meanAll_ok H7 w7 a3 n3 c3 nn (r3.ext w3 (e4.trans (e5.trans (e6.trans e7)))) a' m c' t (ht.ext hw (e1.trans (e2.trans (e3.trans (e4.trans (e5.trans (e6.trans e7))))))) h256 hi) ?_ ; rintro _ H8 ⟨e8, w8, b8, rfl, hb8, f8⟩)
                  | fail)
                all_goals (conv => whnf)
                have f6' : BRow H8 _ _ _ _ := f6.ext w6 (e7.trans e8)
                refine Runs.loop (fun j : Nat => [(16, .int .i64 j), (10, .slice (some ⟨b6, 0, some 0⟩) (m + 1) (m + 1)), (14, .slice (some ⟨b8, 0, some 0⟩) (m + 1) (m + 1)), (5, .bool true)]) (fun j H' => H8 = H' ∧ j ≤ m + 1) (fun j => m + 1 - j) 0 ⟨rfl, rfl, rfl, rfl, trivial⟩ ⟨rfl, by omega⟩ ?_
                rintro j _ ⟨rfl, hj⟩
                by_cases hlt : j < m + 1
                · obtain ⟨_, _, _, hba, hca⟩ := BRow.at f6' hlt
                  cases hba
                  obtain ⟨_, _, _, hbc, hcc⟩ := BRow.at f8 hlt
                  cases hbc
                  rw [hnot j hlt] at hcc
                  have hne : ∀ b : Bool, b ≠ !b := by decide
                  cases hb : (meanV m t ts).pl j
                  · rw [hb] at hca hcc; simp only [Bool.not_false, Bool.not_true] at hcc
                    repeat' ((conv => whnf); first
                      | (refine Both.intro ?_ ?_ <;> intro _ <;> try (exfalso; omega))
                      | (refine Need.intro (by omega) ?_)
                      | (refine ⟨_, hca, ?_⟩)
                      | (refine ⟨_, hcc, ?_⟩)
                      | (refine Gives.intro ⟨.bool false, by kernel_rfl, ?_⟩)
                      | (refine Need.intro (DrawP.intro (by kernel_rfl)) ?_)
                      | fail)
                    all_goals (conv => whnf)
                    exact ⟨j + 1, ⟨rfl, rfl, rfl, rfl, trivial⟩, ⟨rfl, by omega⟩, by omega⟩
                  · rw [hb] at hca hcc; simp only [Bool.not_false, Bool.not_true] at hcc
                    repeat' ((conv => whnf); first
                      | (refine Both.intro ?_ ?_ <;> intro _ <;> try (exfalso; omega))
                      | (refine Need.intro (by omega) ?_)
                      | (refine ⟨_, hca, ?_⟩)
                      | (refine ⟨_, hcc, ?_⟩)
                      | (refine Gives.intro ⟨.bool false, by kernel_rfl, ?_⟩)
                      | (refine Need.intro (DrawP.intro (by kernel_rfl)) ?_)
                      | fail)
                    all_goals (conv => whnf)
                    exact ⟨j + 1, ⟨rfl, rfl, rfl, rfl, trivial⟩, ⟨rfl, by omega⟩, by omega⟩
                · obtain rfl : j = m + 1 := by omega
                  repeat' ((conv => whnf); first
                    | (refine Both.intro ?_ ?_ <;> intro _ <;> try (exfalso; omega))
                    | (refine Need.intro (by omega) ?_)
                    | fail)
                  all_goals (conv => whnf)
                  rfl
              · skip
                repeat' ((conv => whnf); first
                  | (refine Both.intro ?_ ?_ <;> intro _ <;> try (exfalso; omega))
                  | (refine Need.intro (by omega) ?_)
                  | (refine Does.mono (awake8_any H) ?_ ; rintro _ _ ⟨rfl, rfl⟩)
                  | (refine Does.mono hc ?_ ; rintro _ H1 ⟨rfl, e1, w1⟩)
                  | (refine Does.mono (OfS H1 w1 a n c ts (hr.ext hw e1) 0 k ho hkk.symm) ?_ ; rintro _ H2 ⟨a2, n2, c2, rfl, r2, e2, w2⟩ ; have l2 := r2.len ; simp at l2)
                  | (refine Does.mono (NegS H2 w2 a2 n2 c2 k r2 (by omega) 0 nn g1 g2) ?_ ; rintro _ H3 ⟨a3, n3, c3, rfl, r3, e3, w3⟩ ; have l3 := r3.len ; simp at l3)
                  | (refine Does.mono (checkS H3 w3 a2 n2 c2 k (r2.ext w2 e3) (by omega) 0 hck) ?_ ; rintro _ H4 ⟨rfl, e4, w4⟩)
                  | (refine Does.mono (checkS H4 w4 a3 n3 c3 nn (r3.ext w3 e4) (by omega) 0 hcn) ?_ ; rintro _ H5 ⟨rfl, e5, w5⟩)
                  | (refine Does.mono (meanAll_ok H5 w5 a n c ts (hr.ext hw (e1.trans (e2.trans (e3.trans (e4.trans e5))))) a' m c' t (ht.ext hw (e1.trans (e2.trans (e3.trans (e4.trans e5))))) h256 hall) ?_ ; rintro _ H6 ⟨e6, w6, b6, rfl, hb6, f6⟩)
                  | (refine Does.mono (allN H6 w6 a2 n2 c2 k (r2.ext w2 (e3.trans (e4.trans (e5.trans e6)))) a' m c' t (ht.ext hw (e1.trans (e2.trans (e3.trans (e4.trans (e5.trans e6)))))) h256 hh) ?_ ; rintro _ H7 ⟨e7, w7, eh, rfl, heh⟩)
                  | (refine Does.mono (allN H7 w7 a3 n3 c3 nn (r3.ext w3 (e4.trans (e5.trans (e6.trans e7)))) a' m c' t (ht.ext hw (e1.trans (e2.trans (e3.trans (e4.trans (e5.trans (e6.trans e7))))))) h256 hi) ?_ ; rintro _ H8 ⟨e8, w8, ei, rfl, hei⟩)
                  | fail)
                all_goals (conv => whnf)
                rfl
        · have hof : ofF ts = [] := by unfold ofF; rw [if_neg ho]
          have he3 : ofE ts = 3 := by
            unfold ofE at ho ⊢
            rw [if_pos h0] at ho ⊢
            split at ho
            · exact absurd rfl ho
            · rename_i hx; rw [if_neg hx]
          repeat' ((conv => whnf); first
            | (refine Both.intro ?_ ?_ <;> intro _ <;> try (exfalso; omega))
            | (refine Need.intro (by omega) ?_)
            | (refine Does.mono (awake8_any H) ?_ ; rintro _ _ ⟨rfl, rfl⟩)
            | (refine Does.mono hc ?_ ; rintro _ H1 ⟨rfl, e1, w1⟩)
            | (refine Does.mono (OfS H1 w1 a n c ts (hr.ext hw e1) 3 [] he3 hof) ?_ ; rintro _ H2 ⟨a2, n2, c2, rfl, r2, e2, w2⟩)
            | fail)
          all_goals (conv => whnf)
          rfl
      · skip
        repeat' ((conv => whnf); first
          | (refine Both.intro ?_ ?_ <;> intro _ <;> try (exfalso; omega))
          | (refine Need.intro (by omega) ?_)
          | (refine Does.mono (awake8_any H) ?_ ; rintro _ _ ⟨rfl, rfl⟩)
          | (refine Does.mono (Check_any H hw a n c ts hr) ?_ ; rintro _ H' ⟨rfl, e, w⟩)
          | fail)
        all_goals (conv => whnf)
        rfl
    · skip
      repeat' ((conv => whnf); first
        | (refine Both.intro ?_ ?_ <;> intro _ <;> try (exfalso; omega))
        | (refine Need.intro (by omega) ?_)
        | (refine Does.mono (awake8_any H) ?_ ; rintro _ _ ⟨rfl, rfl⟩)
        | fail)
      all_goals (conv => whnf)
      rfl
  · skip
    repeat' ((conv => whnf); first
      | (refine Both.intro ?_ ?_ <;> intro _ <;> try (exfalso; omega))
      | (refine Need.intro (by omega) ?_)
      | (refine Does.mono (awake8_any H) ?_ ; rintro _ _ ⟨rfl, rfl⟩)
      | fail)
    all_goals (conv => whnf)
    rfl
end Go.AX.Try
