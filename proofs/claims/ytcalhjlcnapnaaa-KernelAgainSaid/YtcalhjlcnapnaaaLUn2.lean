/- term.Un and Bin, and what the statements of layer 7 build with them. -/
import Derived.Test.YtcalhjlcnapnaaaLUn
namespace Go.AX.Try
open Go Go.AX Go.AX.Lw Go.Proofs
set_option linter.unusedVariables false
set_option linter.unusedSimpArgs false
set_option maxRecDepth 100000
theorem termCheck_fm (H : AHeap) (hw : Wf H) (v : Value) (ts : List Tk) (hf : Fm H v ts) (path : Bool) :
    Does Try.prog orc 68 [v, .bool path] H fun r H' => r = .ret (.int .i64 (termF ts path)) ∧ Ext H H' ∧ Wf H' := by
  obtain ⟨a, n, c, rfl, hr⟩ := hf
  exact termCheck_any H hw a n c ts hr path
theorem whole_any (H : AHeap) (hw : Wf H) (v : Value) (ts : List Tk) (hf : Fm H v ts) (path : Bool) :
    Does Try.prog orc 108 [v, .bool path] H fun r H' => ∃ v' e, r = .ret (.tuple #[v', .int .i64 e]) ∧ Fm H' v' (if termF ts path = 0 then ts else []) ∧ Ext H H' ∧ Wf H' := by
  refine Does.of Try.func108 (fun _ _ => rfl) rfl ?_
  by_cases h0 : termF ts path = 0
  · skip
    repeat' ((conv => whnf); first
      | (refine Both.intro ?_ ?_ <;> intro _ <;> try (exfalso; omega))
      | (refine Need.intro (by omega) ?_)
      | (refine Does.mono (termCheck_fm H hw v ts hf path) ?_ ; rintro _ H1 ⟨rfl, e1, w1⟩)
      | fail)
    all_goals (conv => whnf)
    exact ⟨_, _, rfl, by rw [if_pos h0]; exact hf.ext hw e1, e1, w1⟩
  · skip
    repeat' ((conv => whnf); first
      | (refine Both.intro ?_ ?_ <;> intro _ <;> try (exfalso; omega))
      | (refine Need.intro (by omega) ?_)
      | (refine Does.mono (termCheck_fm H hw v ts hf path) ?_ ; rintro _ H1 ⟨rfl, e1, w1⟩)
      | fail)
    all_goals (conv => whnf)
    exact ⟨_, _, rfl, by rw [if_neg h0]; exact Fm.nil _, e1, w1⟩
def opT (op : Nat) : Tk := ⟨op, 0⟩
/-- What Un makes; nothing, if that may not be. -/
def unF (op : Nat) (ts : List Tk) : List Tk :=
  if takesT (opT op) ≠ 1 then [] else if termF ts (decide (op = 23)) ≠ 0 then [] else if termF (ts ++ [opT op]) (decide (19 ≤ op)) = 0 then ts ++ [opT op] else []
def binF (op : Nat) (a b : List Tk) : List Tk :=
  if takesT (opT op) ≠ 2 then [] else if termF a (decide (19 ≤ op ∨ op = 17 ∨ op = 18)) ≠ 0 then [] else if termF b (decide (19 ≤ op)) ≠ 0 then [] else
  if termF (a ++ b ++ [opT op]) (decide (19 ≤ op)) = 0 then a ++ b ++ [opT op] else []
theorem takes_fm (H : AHeap) (hw : Wf H) (op : Nat) : Does Try.prog orc 107 [.agg #[.int .u8 op, .int .u8 0]] H fun r H' => r = .ret (.int .i64 (takesT (opT op))) ∧ Ext H H' ∧ Wf H' :=
  ((takesTerm_any H (opT op)).wf hw).mono fun r H' ⟨⟨h1, h2⟩, h3⟩ => ⟨h1, h2, h3⟩
theorem Un_any (H : AHeap) (hw : Wf H) (op : Nat) (v : Value) (ts : List Tk) (hf : Fm H v ts) :
    Does Try.prog orc 81 [.int .u8 op, v] H fun r H' => ∃ v' e, r = .ret (.tuple #[v', .int .i64 e]) ∧ Fm H' v' (unF op ts) ∧ Ext H H' ∧ Wf H' := by
  refine Does.of Try.func81 (fun _ _ => rfl) rfl ?_
  have hb : aBuild Try.prog 46 [(0, .int .u8 op)] = some (.agg #[.int .u8 op, .int .u8 0]) := by kernel_rfl
  by_cases h1 : takesT (opT op) = 1
  · by_cases h2 : termF ts (decide (op = 23)) = 0
    · obtain ⟨-, h512⟩ := termF_kinds h2
      have hbs : aBuildSlice Try.prog 22 1 [(0, .agg #[.int .u8 op, .int .u8 0])] = mkSlice [.int .u8 op, .int .u8 0] 1 1 := by kernel_rfl
      have hbs2 : ∀ x, v = x → ∀ b, aBuildSlice Try.prog 43 2 [(0, v), (1, .slice (some ⟨b, 0, none⟩) 1 1)] = mkSlice [v, .slice (some ⟨b, 0, none⟩) 1 1] 2 2 := fun x _ b => by
        obtain ⟨a, n, c, rfl, _⟩ := hf
        kernel_rfl
      have hcat : ∀ (H2 : AHeap), Wf H2 → Fm H2 v ts → Does Try.prog orc 109 [.slice (some ⟨H2.next + 1, 0, none⟩) 2 2] ((H2.push (.cells [.int .u8 op, .int .u8 0] 0 true)).push (.cells [v, .slice (some ⟨H2.next, 0, none⟩) 1 1] 0 true)) fun r H' => ∃ v', r = .ret v' ∧ Fm H' v' (ts ++ [opT op]) ∧ Ext H2 H' ∧ Wf H' := fun H2 w2 f2 => by
        obtain ⟨T, h_T⟩ : ∃ X, X = ((H2.push (.cells [.int .u8 op, .int .u8 0] 0 true)).push (.cells [v, .slice (some ⟨H2.next, 0, none⟩) 1 1] 0 true)) := ⟨_, rfl⟩
        have n_T : T.next = H2.next + 2 := by rw [h_T]; rfl
        have e_T : Ext H2 T := by rw [h_T]; exact (⟨by first | (simp; done) | (simp; omega), fun b hb => by (simp only [AHeap.get_push, AHeap.get_set, AHeap.next_push, AHeap.next_set]; repeat rw [if_neg (by omega)])⟩)
        have w_T : Wf T := by rw [h_T]; exact (fun b hb => by (simp only [AHeap.get_push, AHeap.get_set, AHeap.next_push, AHeap.next_set] at hb ⊢; repeat rw [if_neg (by omega)]); exact w2 b (by omega))
        have g_T_0 : T.get (H2.next) = some (.cells [.int .u8 op, .int .u8 0] 0 true) := by rw [h_T]; exact (by (simp only [AHeap.get_push, AHeap.get_set, AHeap.next_push, AHeap.next_set, if_true]); repeat (first | rw [if_pos rfl] | rw [if_neg (by omega)]))
        have g_T_1 : T.get (H2.next + 1) = some (.cells [v, .slice (some ⟨H2.next, 0, none⟩) 1 1] 0 true) := by rw [h_T]; exact (by (simp only [AHeap.get_push, AHeap.get_set, AHeap.next_push, AHeap.next_set, if_true]); repeat (first | rw [if_pos rfl] | rw [if_neg (by omega)]))
        have o_T : ∀ b, b < H2.next → T.get b = H2.get b := e_T.get
        have x_T := h_T
        have f3 := f2.ext w2 e_T
        have h := concat_any T w_T (some ⟨H2.next + 1, 0, none⟩) 2 2 [v, .slice (some ⟨H2.next, 0, none⟩) 1 1] [ts, [opT op]] (Row.of_block g_T_1 rfl (Nat.le_refl _) (List.prefix_refl _)) rfl (by decide) (fun j x l hx hl => by
          match j with
          | 0 => cases hx; cases hl; exact f3
          | 1 => cases hx; cases hl; exact ⟨_, _, _, rfl, ⟨rfl, Nat.le_refl _, (by intro x hx; simp at hx; subst hx; rfl), fun i x hx => by
              match i with
              | 0 => cases hx; exact ⟨_, _, _, rfl, cellsAt_all (n := 2) g_T_0 rfl⟩
              | i + 1 => simp at hx⟩⟩
          | j + 2 => simp at hx) (by simp) (by simp; omega)
        rw [← h_T]
        refine h.mono fun r H' ⟨v', h1, h2, h3, h4⟩ => ⟨v', h1, ?_, e_T.trans h3, h4⟩
        simpa using h2
      have hend : ∀ (H3 : AHeap) (w3 : Wf H3) (v3 : Value), Fm H3 v3 (ts ++ [opT op]) → ∀ p, p = decide (19 ≤ op) → Does Try.prog orc 108 [v3, .bool p] H3 fun r H' => ∃ v' e, r = .ret (.tuple #[v', .int .i64 e]) ∧ Fm H' v' (unF op ts) ∧ Ext H3 H' ∧ Wf H' := fun H3 w3 v3 f3 p hp => by
        refine (whole_any H3 w3 v3 _ f3 p).mono fun r H' ⟨v', e, h1', h2', h3', h4'⟩ => ⟨v', e, h1', ?_, h3', h4'⟩
        unfold unF
        rw [if_neg (fun h => h h1), if_neg (fun h => h h2), ← hp]
        exact h2'
      have htk := (takes_fm H hw op).mono (Q' := fun r H' => r = .ret (.int .i64 1) ∧ Ext H H' ∧ Wf H') fun r H' h => by rw [h1] at h; exact h
      by_cases h23 : op = 23
      all_goals by_cases h19 : 19 ≤ op
      all_goals try (exfalso; omega)
      all_goals
        have hck := fun (H1 : AHeap) (w1 : Wf H1) (f1 : Fm H1 v ts) => (termCheck_fm H1 w1 v ts f1 (decide (op = 23))).mono (Q' := fun r H' => r = .ret (.int .i64 0) ∧ Ext H1 H' ∧ Wf H') fun r H' h => by rw [h2] at h; exact h
        first
        | rw [decide_eq_true h23] at hck
        | rw [decide_eq_false h23] at hck
        repeat' ((conv => whnf); first
          | (refine Both.intro ?_ ?_ <;> intro _ <;> try (exfalso; omega))
          | (refine Need.intro (by omega) ?_)
          | (refine Gives.intro ⟨_, hb, ?_⟩)
          | (refine Does.mono htk ?_ ; rintro _ H1 ⟨rfl, e1, w1⟩)
          | (refine Does.mono (hck H1 w1 (hf.ext hw e1)) ?_ ; rintro _ H2 ⟨rfl, e2, w2⟩)
          | (refine ⟨_, hbs, ?_⟩)
          | (refine ⟨_, hbs2 _ rfl _, ?_⟩)
          | (refine Does.mono (hcat H2 w2 ((hf.ext hw e1).ext w1 e2)) ?_ ; rintro _ H3 ⟨v3, rfl, f3, e3, w3⟩)
          | (refine Does.mono (hend H3 w3 v3 f3 _ (by first | exact (decide_eq_true h19).symm | exact (decide_eq_false h19).symm)) ?_ ; rintro _ H4 ⟨v4, e, rfl, f4, e4, w4⟩)
          | fail)
        all_goals (conv => whnf)
        exact ⟨v4, e, rfl, f4, ((e1.trans e2).trans e3).trans e4, w4⟩
    · have hU : unF op ts = [] := by unfold unF; rw [if_neg (fun h => h h1), if_pos h2]
      have htk := (takes_fm H hw op).mono (Q' := fun r H' => r = .ret (.int .i64 1) ∧ Ext H H' ∧ Wf H') fun r H' h => by rw [h1] at h; exact h
      by_cases h23 : op = 23
      all_goals
        have hck := fun (H1 : AHeap) (w1 : Wf H1) (f1 : Fm H1 v ts) => termCheck_fm H1 w1 v ts f1 (decide (op = 23))
        first
        | rw [decide_eq_true h23] at hck h2
        | rw [decide_eq_false h23] at hck h2
        repeat' ((conv => whnf); first
          | (refine Both.intro ?_ ?_ <;> intro _ <;> try (exfalso; omega))
          | (refine Need.intro (by omega) ?_)
          | (refine Gives.intro ⟨_, hb, ?_⟩)
          | (refine Does.mono htk ?_ ; rintro _ H1 ⟨rfl, e1, w1⟩)
          | (refine Does.mono (hck H1 w1 (hf.ext hw e1)) ?_ ; rintro _ H2 ⟨rfl, e2, w2⟩)
          | fail)
        all_goals (conv => whnf)
        exact ⟨_, _, rfl, by rw [hU]; exact Fm.nil _, e1.trans e2, w2⟩
  · have hU : unF op ts = [] := by unfold unF; rw [if_pos h1]
    repeat' ((conv => whnf); first
      | (refine Both.intro ?_ ?_ <;> intro _ <;> try (exfalso; omega))
      | (refine Need.intro (by omega) ?_)
      | (refine Gives.intro ⟨_, hb, ?_⟩)
      | (refine Does.mono (takes_fm H hw op) ?_ ; rintro _ H1 ⟨rfl, e1, w1⟩)
      | fail)
    all_goals (conv => whnf)
    exact ⟨_, _, rfl, by rw [hU]; exact Fm.nil _, e1, w1⟩
theorem Bin_any (H : AHeap) (hw : Wf H) (op : Nat) (v u : Value) (a b : List Tk) (hf : Fm H v a) (hg : Fm H u b) :
    Does Try.prog orc 82 [.int .u8 op, v, u] H fun r H' => ∃ v' e, r = .ret (.tuple #[v', .int .i64 e]) ∧ Fm H' v' (binF op a b) ∧ Ext H H' ∧ Wf H' := by
  refine Does.of Try.func82 (fun _ _ => rfl) rfl ?_
  have hb : aBuild Try.prog 46 [(0, .int .u8 op)] = some (.agg #[.int .u8 op, .int .u8 0]) := by kernel_rfl
  by_cases h1 : takesT (opT op) = 2
  · have htk := (takes_fm H hw op).mono (Q' := fun r H' => r = .ret (.int .i64 2) ∧ Ext H H' ∧ Wf H') fun r H' h => by rw [h1] at h; exact h
    by_cases h2 : termF a (decide (19 ≤ op ∨ op = 17 ∨ op = 18)) = 0
    · by_cases h3 : termF b (decide (19 ≤ op)) = 0
      · obtain ⟨-, h512⟩ := termF_kinds h2
        obtain ⟨-, h513⟩ := termF_kinds h3
        have hbs : aBuildSlice Try.prog 22 1 [(0, .agg #[.int .u8 op, .int .u8 0])] = mkSlice [.int .u8 op, .int .u8 0] 1 1 := by kernel_rfl
        have hbs2 : ∀ x, v = x → ∀ b, aBuildSlice Try.prog 43 3 [(0, v), (1, u), (2, .slice (some ⟨b, 0, none⟩) 1 1)] = mkSlice [v, u, .slice (some ⟨b, 0, none⟩) 1 1] 3 3 := fun x _ b => by
          obtain ⟨a, n, c, rfl, _⟩ := hf
          obtain ⟨a', n', c', rfl, _⟩ := hg
          kernel_rfl
        have hcat : ∀ (H2 : AHeap), Wf H2 → Fm H2 v a → Fm H2 u b → Does Try.prog orc 109 [.slice (some ⟨H2.next + 1, 0, none⟩) 3 3] ((H2.push (.cells [.int .u8 op, .int .u8 0] 0 true)).push (.cells [v, u, .slice (some ⟨H2.next, 0, none⟩) 1 1] 0 true)) fun r H' => ∃ v', r = .ret v' ∧ Fm H' v' (a ++ b ++ [opT op]) ∧ Ext H2 H' ∧ Wf H' := fun H2 w2 f2 g2 => by
          obtain ⟨T, h_T⟩ : ∃ X, X = ((H2.push (.cells [.int .u8 op, .int .u8 0] 0 true)).push (.cells [v, u, .slice (some ⟨H2.next, 0, none⟩) 1 1] 0 true)) := ⟨_, rfl⟩
          have n_T : T.next = H2.next + 2 := by rw [h_T]; rfl
          have e_T : Ext H2 T := by rw [h_T]; exact (⟨by first | (simp; done) | (simp; omega), fun b hb => by (simp only [AHeap.get_push, AHeap.get_set, AHeap.next_push, AHeap.next_set]; repeat rw [if_neg (by omega)])⟩)
          have w_T : Wf T := by rw [h_T]; exact (fun b hb => by (simp only [AHeap.get_push, AHeap.get_set, AHeap.next_push, AHeap.next_set] at hb ⊢; repeat rw [if_neg (by omega)]); exact w2 b (by omega))
          have g_T_0 : T.get (H2.next) = some (.cells [.int .u8 op, .int .u8 0] 0 true) := by rw [h_T]; exact (by (simp only [AHeap.get_push, AHeap.get_set, AHeap.next_push, AHeap.next_set, if_true]); repeat (first | rw [if_pos rfl] | rw [if_neg (by omega)]))
          have g_T_1 : T.get (H2.next + 1) = some (.cells [v, u, .slice (some ⟨H2.next, 0, none⟩) 1 1] 0 true) := by rw [h_T]; exact (by (simp only [AHeap.get_push, AHeap.get_set, AHeap.next_push, AHeap.next_set, if_true]); repeat (first | rw [if_pos rfl] | rw [if_neg (by omega)]))
          have o_T : ∀ b, b < H2.next → T.get b = H2.get b := e_T.get
          have x_T := h_T
          have f3 := f2.ext w2 e_T
          have g3 := g2.ext w2 e_T
          have h := concat_any T w_T (some ⟨H2.next + 1, 0, none⟩) 3 3 [v, u, .slice (some ⟨H2.next, 0, none⟩) 1 1] [a, b, [opT op]] (Row.of_block g_T_1 rfl (Nat.le_refl _) (List.prefix_refl _)) rfl (by decide) (fun j x l hx hl => by
            match j with
            | 0 => cases hx; cases hl; exact f3
            | 1 => cases hx; cases hl; exact g3
            | 2 => cases hx; cases hl; exact ⟨_, _, _, rfl, ⟨rfl, Nat.le_refl _, (by intro x hx; simp at hx; subst hx; rfl), fun i x hx => by
                match i with
                | 0 => cases hx; exact ⟨_, _, _, rfl, cellsAt_all (n := 2) g_T_0 rfl⟩
                | i + 1 => simp at hx⟩⟩
            | j + 3 => simp at hx) (by simp; omega) (by simp; omega)
          rw [← h_T]
          refine h.mono fun r H' ⟨v', h1, h2, h3, h4⟩ => ⟨v', h1, ?_, e_T.trans h3, h4⟩
          simpa using h2
        have hend : ∀ (H3 : AHeap) (w3 : Wf H3) (v3 : Value), Fm H3 v3 (a ++ b ++ [opT op]) → ∀ p, p = decide (19 ≤ op) → Does Try.prog orc 108 [v3, .bool p] H3 fun r H' => ∃ v' e, r = .ret (.tuple #[v', .int .i64 e]) ∧ Fm H' v' (binF op a b) ∧ Ext H3 H' ∧ Wf H' := fun H3 w3 v3 f3 p hp => by
          refine (whole_any H3 w3 v3 _ f3 p).mono fun r H' ⟨v', e, h1', h2', h3', h4'⟩ => ⟨v', e, h1', ?_, h3', h4'⟩
          unfold binF
          rw [if_neg (fun h => h h1), if_neg (fun h => h h2), if_neg (fun h => h h3), ← hp]
          exact h2'
        by_cases h19 : 19 ≤ op
        all_goals by_cases h17 : op = 17
        all_goals by_cases h18 : op = 18
        all_goals try (exfalso; omega)
        all_goals
          have hck := fun (H1 : AHeap) (w1 : Wf H1) (f1 : Fm H1 v a) => (termCheck_fm H1 w1 v a f1 (decide (19 ≤ op ∨ op = 17 ∨ op = 18))).mono (Q' := fun r H' => r = .ret (.int .i64 0) ∧ Ext H1 H' ∧ Wf H') fun r H' h => by rw [h2] at h; exact h
          have hck2 := fun (H1 : AHeap) (w1 : Wf H1) (f1 : Fm H1 u b) => (termCheck_fm H1 w1 u b f1 (decide (19 ≤ op))).mono (Q' := fun r H' => r = .ret (.int .i64 0) ∧ Ext H1 H' ∧ Wf H') fun r H' h => by rw [h3] at h; exact h
          first
          | rw [decide_eq_true (by omega : 19 ≤ op ∨ op = 17 ∨ op = 18)] at hck
          | rw [decide_eq_false (by omega : ¬ (19 ≤ op ∨ op = 17 ∨ op = 18))] at hck
          first
          | rw [decide_eq_true h19] at hck2
          | rw [decide_eq_false h19] at hck2
          repeat' ((conv => whnf); first
            | (refine Both.intro ?_ ?_ <;> intro _ <;> try (exfalso; omega))
            | (refine Need.intro (by omega) ?_)
            | (refine Gives.intro ⟨_, hb, ?_⟩)
            | (refine Does.mono htk ?_ ; rintro _ H1 ⟨rfl, e1, w1⟩)
            | (refine Does.mono (hck H1 w1 (hf.ext hw e1)) ?_ ; rintro _ H2 ⟨rfl, e2, w2⟩)
            | (refine Does.mono (hck2 H2 w2 ((hg.ext hw e1).ext w1 e2)) ?_ ; rintro _ H5 ⟨rfl, e5, w5⟩)
            | (refine ⟨_, hbs, ?_⟩)
            | (refine ⟨_, hbs2 _ rfl _, ?_⟩)
            | (refine Does.mono (hcat H5 w5 (((hf.ext hw e1).ext w1 e2).ext w2 e5) (((hg.ext hw e1).ext w1 e2).ext w2 e5)) ?_ ; rintro _ H3 ⟨v3, rfl, f3, e3, w3⟩)
            | (refine Does.mono (hend H3 w3 v3 f3 _ (by first | exact (decide_eq_true h19).symm | exact (decide_eq_false h19).symm)) ?_ ; rintro _ H4 ⟨v4, e, rfl, f4, e4, w4⟩)
            | fail)
          all_goals (conv => whnf)
          exact ⟨v4, e, rfl, f4, (((e1.trans e2).trans e5).trans e3).trans e4, w4⟩
      · have hU : binF op a b = [] := by unfold binF; rw [if_neg (fun h => h h1), if_neg (fun h => h h2), if_pos h3]
        by_cases h19 : 19 ≤ op
        all_goals by_cases h17 : op = 17
        all_goals by_cases h18 : op = 18
        all_goals try (exfalso; omega)
        all_goals
          have hck := fun (H1 : AHeap) (w1 : Wf H1) (f1 : Fm H1 v a) => (termCheck_fm H1 w1 v a f1 (decide (19 ≤ op ∨ op = 17 ∨ op = 18))).mono (Q' := fun r H' => r = .ret (.int .i64 0) ∧ Ext H1 H' ∧ Wf H') fun r H' h => by rw [h2] at h; exact h
          have hck2 := fun (H1 : AHeap) (w1 : Wf H1) (f1 : Fm H1 u b) => termCheck_fm H1 w1 u b f1 (decide (19 ≤ op))
          first
          | rw [decide_eq_true (by omega : 19 ≤ op ∨ op = 17 ∨ op = 18)] at hck
          | rw [decide_eq_false (by omega : ¬ (19 ≤ op ∨ op = 17 ∨ op = 18))] at hck
          first
          | rw [decide_eq_true h19] at hck2 h3
          | rw [decide_eq_false h19] at hck2 h3
          repeat' ((conv => whnf); first
            | (refine Both.intro ?_ ?_ <;> intro _ <;> try (exfalso; omega))
            | (refine Need.intro (by omega) ?_)
            | (refine Gives.intro ⟨_, hb, ?_⟩)
            | (refine Does.mono htk ?_ ; rintro _ H1 ⟨rfl, e1, w1⟩)
            | (refine Does.mono (hck H1 w1 (hf.ext hw e1)) ?_ ; rintro _ H2 ⟨rfl, e2, w2⟩)
            | (refine Does.mono (hck2 H2 w2 ((hg.ext hw e1).ext w1 e2)) ?_ ; rintro _ H5 ⟨rfl, e5, w5⟩)
            | fail)
          all_goals (conv => whnf)
          exact ⟨_, _, rfl, by rw [hU]; exact Fm.nil _, (e1.trans e2).trans e5, w5⟩
    · have hU : binF op a b = [] := by unfold binF; rw [if_neg (fun h => h h1), if_pos h2]
      by_cases h19 : 19 ≤ op
      all_goals by_cases h17 : op = 17
      all_goals by_cases h18 : op = 18
      all_goals try (exfalso; omega)
      all_goals
        have hck := fun (H1 : AHeap) (w1 : Wf H1) (f1 : Fm H1 v a) => termCheck_fm H1 w1 v a f1 (decide (19 ≤ op ∨ op = 17 ∨ op = 18))
        first
        | rw [decide_eq_true (by omega : 19 ≤ op ∨ op = 17 ∨ op = 18)] at hck h2
        | rw [decide_eq_false (by omega : ¬ (19 ≤ op ∨ op = 17 ∨ op = 18))] at hck h2
        repeat' ((conv => whnf); first
          | (refine Both.intro ?_ ?_ <;> intro _ <;> try (exfalso; omega))
          | (refine Need.intro (by omega) ?_)
          | (refine Gives.intro ⟨_, hb, ?_⟩)
          | (refine Does.mono htk ?_ ; rintro _ H1 ⟨rfl, e1, w1⟩)
          | (refine Does.mono (hck H1 w1 (hf.ext hw e1)) ?_ ; rintro _ H2 ⟨rfl, e2, w2⟩)
          | fail)
        all_goals (conv => whnf)
        exact ⟨_, _, rfl, by rw [hU]; exact Fm.nil _, e1.trans e2, w2⟩
  · have hU : binF op a b = [] := by unfold binF; rw [if_pos h1]
    repeat' ((conv => whnf); first
      | (refine Both.intro ?_ ?_ <;> intro _ <;> try (exfalso; omega))
      | (refine Need.intro (by omega) ?_)
      | (refine Gives.intro ⟨_, hb, ?_⟩)
      | (refine Does.mono (takes_fm H hw op) ?_ ; rintro _ H1 ⟨rfl, e1, w1⟩)
      | fail)
    all_goals (conv => whnf)
    exact ⟨_, _, rfl, by rw [hU]; exact Fm.nil _, e1, w1⟩
theorem un_any (H : AHeap) (hw : Wf H) (op : Nat) (v : Value) (ts : List Tk) (hf : Fm H v ts) :
    Does Try.prog orc 50 [.int .u8 op, v] H fun r H' => ∃ v', r = .ret v' ∧ Fm H' v' (unF op ts) ∧ Ext H H' ∧ Wf H' := by
  refine Does.of Try.func50 (fun _ _ => rfl) rfl ?_
  repeat' ((conv => whnf); first
    | (refine Both.intro ?_ ?_ <;> intro _ <;> try (exfalso; omega))
    | (refine Need.intro (by omega) ?_)
    | (refine Does.mono (Un_any H hw op v ts hf) ?_ ; rintro _ H' ⟨v', e, rfl, h1, h2, h3⟩)
    | fail)
  all_goals (conv => whnf)
  exact ⟨_, rfl, h1, h2, h3⟩
theorem bin_any (H : AHeap) (hw : Wf H) (op : Nat) (v u : Value) (a b : List Tk) (hf : Fm H v a) (hg : Fm H u b) :
    Does Try.prog orc 51 [.int .u8 op, v, u] H fun r H' => ∃ v', r = .ret v' ∧ Fm H' v' (binF op a b) ∧ Ext H H' ∧ Wf H' := by
  refine Does.of Try.func51 (fun _ _ => rfl) rfl ?_
  repeat' ((conv => whnf); first
    | (refine Both.intro ?_ ?_ <;> intro _ <;> try (exfalso; omega))
    | (refine Need.intro (by omega) ?_)
    | (refine Does.mono (Bin_any H hw op v u a b hf hg) ?_ ; rintro _ H' ⟨v', e, rfl, h1, h2, h3⟩)
    | fail)
  all_goals (conv => whnf)
  exact ⟨_, rfl, h1, h2, h3⟩
end Go.AX.Try
