/- Each word of the language means what it means by the others. -/
import Derived.Test.YtcalhjlcnapnaaaLUn2
namespace Go.AX.Try
open Go Go.AX Go.AX.Lw Go.Proofs
set_option linter.unusedVariables false
set_option linter.unusedSimpArgs false
set_option maxRecDepth 100000
/-! ### what is built means -/
theorem evalV_one (n : Nat) (t : List Nat) {a : List Tk} {p : Bool} (h : kinds a = some [p]) : evalV n t a = [meanV n t a] ∧ (meanV n t a).path = p := by
  obtain ⟨h1, h2, h3⟩ := eval_rel (R := fun x y => x.path = y.path) (n := n) (n' := n) (t := t) (t' := t) (fun _ _ h => h) (fun tk a b c1 _ _ _ _ => by rw [valF_path _ _ _ _ c1, valF_path _ _ _ _ c1]) a [] [] [p] rfl (by simp) h
  have hl : (evalV n t a).length = 1 := by have := congrArg List.length h2; simpa [evalV] using this
  obtain ⟨x, hx⟩ := List.length_eq_one_iff.1 hl
  have hp : (evalV n t a).map Sm.path = [p] := h2
  unfold meanV
  rw [hx] at hp ⊢
  exact ⟨rfl, by simpa using hp⟩
theorem eval_frame (n : Nat) (t : List Nat) (pre : List Sm) : ∀ (ts : List Tk) (st : List Sm) (r : List Bool), ts.foldl stepK (some (st.map Sm.path)) = some r → ts.foldl (stepV n t) (pre ++ st) = pre ++ ts.foldl (stepV n t) st
  | [], st, r, _ => rfl
  | tk :: ts, st, r, h => by
    simp only [List.foldl_cons] at h ⊢
    by_cases hc : tk.op ≤ 23 ∧ tk.p < 8 ∧ takesF tk.op ≤ (st.map Sm.path).length ∧ fitK tk.op ((st.map Sm.path).drop ((st.map Sm.path).length - takesF tk.op)) = true
    · simp only [stepK] at h
      rw [if_pos hc] at h
      obtain ⟨c1, c2, c3, c4⟩ := hc
      rw [List.length_map] at h c3
      have e : stepV n t (pre ++ st) tk = pre ++ stepV n t st tk := by
        unfold stepV
        have hl : (pre ++ st).length - takesF tk.op = pre.length + (st.length - takesF tk.op) := by rw [List.length_append]; omega
        rw [hl, List.take_append, List.drop_append]
        have h1 : pre.take (pre.length + (st.length - takesF tk.op)) = pre := List.take_of_length_le (by omega)
        have h2 : pre.drop (pre.length + (st.length - takesF tk.op)) = [] := List.drop_of_length_le (by omega)
        rw [h1, h2, Nat.add_sub_cancel_left, List.append_assoc]
        rfl
      rw [e]
      refine eval_frame n t pre ts _ r ?_
      rw [stepV, List.map_append, List.map_take]
      simp only [List.map_cons, List.map_nil, valF_path n t tk _ c1]
      exact h
    · simp only [stepK] at h
      rw [if_neg hc, foldK_none] at h; cases h
theorem meanV_un (n : Nat) (t : List Nat) {a : List Tk} {p : Bool} {op : Nat} (h : kinds a = some [p]) (hop : takesF op = 1) : meanV n t (a ++ [opT op]) = valF n t (opT op) [meanV n t a] := by
  have h1 := (evalV_one n t h).1
  have : evalV n t (a ++ [opT op]) = [valF n t (opT op) [meanV n t a]] := by
    unfold evalV at h1 ⊢
    rw [List.foldl_append, h1]
    show stepV n t [meanV n t a] (opT op) = _
    unfold stepV
    have : takesF (opT op).op = 1 := hop
    rw [this]; rfl
  show ((evalV n t (a ++ [opT op]))[0]?).getD smNo = _
  rw [this]; rfl
theorem meanV_bin (n : Nat) (t : List Nat) {a b : List Tk} {p q : Bool} {op : Nat} (h : kinds a = some [p]) (hb : kinds b = some [q]) (hop : takesF op = 2) : meanV n t (a ++ b ++ [opT op]) = valF n t (opT op) [meanV n t a, meanV n t b] := by
  have h1 := (evalV_one n t h).1
  have h2 := (evalV_one n t hb).1
  have : evalV n t (a ++ b ++ [opT op]) = [valF n t (opT op) [meanV n t a, meanV n t b]] := by
    unfold evalV at h1 h2 ⊢
    rw [List.foldl_append, List.foldl_append, h1]
    have hf := eval_frame n t [meanV n t a] b [] [q] hb
    rw [List.append_nil] at hf
    rw [hf, h2]
    show stepV n t [meanV n t a, meanV n t b] (opT op) = _
    unfold stepV
    have : takesF (opT op).op = 2 := hop
    rw [this]; rfl
  show ((evalV n t (a ++ b ++ [opT op]))[0]?).getD smNo = _
  rw [this]; rfl
/-- Nothing, or what means so. -/
def Mn (ts : List Tk) (path : Bool) (V : Nat → List Nat → Sm) : Prop := ts = [] ∨ (kinds ts = some [path] ∧ ∀ n t, meanV n t ts = V n t)
theorem termF_nil (p : Bool) : termF [] p = 7 := rfl
theorem un_mn {op : Nat} {a : List Tk} {p : Bool} {V : Nat → List Nat → Sm} (h : Mn a p V) (hop : takesF op = 1) : Mn (unF op a) (decide (19 ≤ op)) fun n t => valF n t (opT op) [V n t] := by
  unfold unF
  split
  · exact .inl rfl
  · split
    · exact .inl rfl
    · rename_i h2
      split
      · rename_i h3
        rcases h with rfl | ⟨h4, h5⟩
        · rw [termF_nil] at h2; simp at h2
        · exact .inr ⟨(termF_kinds h3).1, fun n t => by rw [meanV_un n t h4 hop, h5]⟩
      · exact .inl rfl
theorem bin_mn {op : Nat} {a b : List Tk} {p q : Bool} {V W : Nat → List Nat → Sm} (h : Mn a p V) (hb : Mn b q W) (hop : takesF op = 2) : Mn (binF op a b) (decide (19 ≤ op)) fun n t => valF n t (opT op) [V n t, W n t] := by
  unfold binF
  split
  · exact .inl rfl
  · split
    · exact .inl rfl
    · rename_i h2
      split
      · exact .inl rfl
      · rename_i h3
        split
        · rename_i h6
          rcases h with rfl | ⟨h4, h5⟩
          · rw [termF_nil] at h2; simp at h2
          · rcases hb with rfl | ⟨h7, h8⟩
            · rw [termF_nil] at h3; simp at h3
            · exact .inr ⟨(termF_kinds h6).1, fun n t => by rw [meanV_bin n t h4 h7 hop, h5, h8]⟩
        · exact .inl rfl
theorem Mn.of {a : List Tk} {p : Bool} (h : kinds a = some [p]) : Mn a p fun n t => meanV n t a := .inr ⟨h, fun _ _ => rfl⟩
/-! ### the statements' helpers -/
theorem Op_any (H : AHeap) (op : Nat) (hop : op ≤ 23) : Does Try.prog orc 49 [.int .u8 op] H fun r H' => r = .ret (.int .i64 ((100 + op : Nat) : Int)) ∧ H = H' := by
  refine Does.of Try.func49 (fun _ _ => rfl) rfl ?_
  have hop3 : Does Try.prog orc 69 [.int .u8 op] H fun r H' => r = .ret (.int .i64 ((100 + op : Nat) : Int)) ∧ H = H' := by
    refine Does.of Try.func69 (fun _ _ => rfl) rfl ?_
    have hc : aConv Try.prog 44 3 (.int .u8 op) = some (.int .i64 op) := by
      have : aConv Try.prog 44 3 (.int .u8 op) = some (.int .i64 (IntKind.i64.wrap op)) := by kernel_rfl
      rw [this, wrap_i64 (by omega)]
    repeat' ((conv => whnf); first
      | (refine Both.intro ?_ ?_ <;> intro _ <;> try (exfalso; omega))
      | (refine Need.intro (by omega) ?_)
      | (refine Gives.intro ⟨_, hc, ?_⟩)
      | fail)
    all_goals (conv => whnf)
    exact ⟨by show CRes.ret (.int .i64 (100 + (op : Int))) = _; congr 2, rfl⟩
  repeat' ((conv => whnf); first
    | (refine Both.intro ?_ ?_ <;> intro _ <;> try (exfalso; omega))
    | (refine Need.intro (by omega) ?_)
    | (refine Does.mono hop3 ?_ ; rintro _ _ ⟨rfl, rfl⟩)
    | fail)
  all_goals (conv => whnf)
  exact ⟨rfl, rfl⟩
def tokT (z : Nat) : Tk := if z < 100 then ⟨2, z⟩ else ⟨z - 100, 0⟩
theorem T_any (H : AHeap) (hw : Wf H) (b z : Nat) (hz : z < 124) (hb : cellAt H b 0 = some (.int .i64 z)) :
    Does Try.prog orc 48 [.slice (some ⟨b, 0, none⟩) 1 1] H fun r H' => ∃ v, r = .ret v ∧ Fm H' v [tokT z] ∧ Ext H H' ∧ Wf H' := by
  refine Does.of Try.func48 (fun _ _ => rfl) rfl ?_
  have h3 : Does Try.prog orc 70 [.slice (some ⟨b, 0, none⟩) 1 1] H fun r H' => ∃ v, r = .ret v ∧ Fm H' v [tokT z] ∧ Ext H H' ∧ Wf H' := by
    refine Does.of Try.func70 (fun _ _ => rfl) rfl ?_
    repeat' ((conv => whnf); first
      | (refine Both.intro ?_ ?_ <;> intro _ <;> try (exfalso; omega))
      | (refine Need.intro (by omega) ?_)
      | fail)
    all_goals (conv => whnf)
    refine Runs.loop (fun s : Nat × Value => [(4, .int .i64 s.1), (3, s.2), (0, .slice (some ⟨b, 0, none⟩) 1 1)])
      (fun s H' => Ext H H' ∧ Wf H' ∧ ((s.1 = 0 ∧ s.2 = .slice none 0 0 ∧ H = H') ∨ (s.1 = 1 ∧ Fm H' s.2 [tokT z]))) (fun s => 1 - s.1) (0, .slice none 0 0) ⟨rfl, rfl, rfl, trivial⟩ ⟨Ext.refl _, hw, .inl ⟨rfl, rfl, rfl⟩⟩ ?_
    rintro ⟨k, v⟩ H1 ⟨e1, w1, hcase⟩
    rcases hcase with ⟨rfl, rfl, rfl⟩ | ⟨rfl, hf⟩
    · show vc _ _ _ _ _ [(4, .int .i64 (0 : Nat)), (3, .slice none 0 0), (0, .slice (some ⟨b, 0, none⟩) 1 1)] _ _
      have hb' : cellAt H b (0 + ((0 : Nat) : Int).toNat) = some (.int .i64 z) := hb
      have push : ∀ t : Tk, ∃ a' c' H9, aAppend Try.prog (H.push (.cells t.cells 0 true)) #[22, 22] [.slice none 0 0, .slice (some ⟨H.next, 0, none⟩) 1 1] = some (.val (.slice a' 1 c') H9 (.eff (H.push (.cells t.cells 0 true)) H9)) ∧ Fm H9 (.slice a' 1 c') [t] ∧ Ext H H9 ∧ Wf H9 := fun t => by
        obtain ⟨a', c', H9, happ, st9, e9, w9, -⟩ := stk_push (Ext.push H (.cells t.cells 0 true)) (hw.push _) tokTy (Stk.nil H (H.push (.cells t.cells 0 true)) (rowV 46 2) 2) (m := 0) (Nat.le_refl _) (srcS (get_new _ _) rfl) rfl rfl (by decide) (by decide)
        exact ⟨a', c', H9, happ, ⟨_, _, _, rfl, st9.row⟩, e9, w9⟩
      by_cases h100 : z < 100
      · have hcv : aConv Try.prog 3 5 (.int .i64 z) = some (.int .u8 z) := by
          have : aConv Try.prog 3 5 (.int .i64 z) = some (.int .u8 (IntKind.u8.wrap z)) := by kernel_rfl
          rw [this]; congr 2; simp [IntKind.wrap, IntKind.bits, IntKind.signed]; omega
        have hbd : aBuild Try.prog 46 [(0, .int .u8 2), (1, .int .u8 z)] = some (.agg #[.int .u8 2, .int .u8 z]) := by kernel_rfl
        have hbs : aBuildSlice Try.prog 22 1 [(0, .agg #[.int .u8 2, .int .u8 z])] = mkSlice [.int .u8 2, .int .u8 z] 1 1 := by kernel_rfl
        have htk : tokT z = ⟨2, z⟩ := by unfold tokT; rw [if_pos h100]
        obtain ⟨a', c', H9, happ, f9, e9, w9⟩ := push ⟨2, z⟩
        repeat' ((conv => whnf); first
          | (refine Both.intro ?_ ?_ <;> intro _ <;> try (exfalso; omega))
          | (refine Need.intro (by omega) ?_)
          | (refine ⟨_, hb', ?_⟩)
          | (refine Gives.intro ⟨_, hcv, ?_⟩)
          | (refine Gives.intro ⟨_, hbd, ?_⟩)
          | (refine ⟨_, hbs, ?_⟩)
          | (refine Outs.intro ⟨_, _, _, happ, ?_⟩)
          | fail)
        all_goals (conv => whnf)
        exact ⟨(1, _), ⟨rfl, rfl, rfl, trivial⟩, ⟨e9, w9, .inr ⟨rfl, by rw [htk]; exact f9⟩⟩, Nat.zero_lt_one⟩
      · obtain ⟨o, rfl⟩ : ∃ o, z = 100 + o := ⟨z - 100, by omega⟩
        have hcv : aConv Try.prog 3 44 (.int .i64 (((100 + o : Nat) : Int) - 100)) = some (.int .u8 o) := by
          have : aConv Try.prog 3 44 (.int .i64 (((100 + o : Nat) : Int) - 100)) = some (.int .u8 (IntKind.u8.wrap (((100 + o : Nat) : Int) - 100))) := by kernel_rfl
          rw [this]; congr 2; simp [IntKind.wrap, IntKind.bits, IntKind.signed]; omega
        have hbd : aBuild Try.prog 46 [(0, .int .u8 o)] = some (.agg #[.int .u8 o, .int .u8 0]) := by kernel_rfl
        have hbs : aBuildSlice Try.prog 22 1 [(0, .agg #[.int .u8 o, .int .u8 0])] = mkSlice [.int .u8 o, .int .u8 0] 1 1 := by kernel_rfl
        have htk : tokT (100 + o) = ⟨o, 0⟩ := by unfold tokT; rw [if_neg h100, Nat.add_sub_cancel_left]
        obtain ⟨a', c', H9, happ, f9, e9, w9⟩ := push ⟨o, 0⟩
        repeat' ((conv => whnf); first
          | (refine Both.intro ?_ ?_ <;> intro _ <;> try (exfalso; omega))
          | (refine Need.intro (by omega) ?_)
          | (refine ⟨_, hb', ?_⟩)
          | (refine Gives.intro ⟨_, hcv, ?_⟩)
          | (refine Gives.intro ⟨_, hbd, ?_⟩)
          | (refine ⟨_, hbs, ?_⟩)
          | (refine Outs.intro ⟨_, _, _, happ, ?_⟩)
          | fail)
        all_goals (conv => whnf)
        exact ⟨(1, _), ⟨rfl, rfl, rfl, trivial⟩, ⟨e9, w9, .inr ⟨rfl, by rw [htk]; exact f9⟩⟩, Nat.zero_lt_one⟩
    · dsimp only at hf
      show vc _ _ _ _ _ [(4, .int .i64 (1 : Nat)), (3, v), (0, .slice (some ⟨b, 0, none⟩) 1 1)] _ _
      repeat' ((conv => whnf); first
        | (refine Both.intro ?_ ?_ <;> intro _ <;> try (exfalso; omega))
        | (refine Need.intro (by omega) ?_)
        | fail)
      all_goals (conv => whnf)
      exact ⟨_, rfl, hf, e1, w1⟩
  repeat' ((conv => whnf); first
    | (refine Both.intro ?_ ?_ <;> intro _ <;> try (exfalso; omega))
    | (refine Need.intro (by omega) ?_)
    | (refine Does.mono h3 ?_ ; rintro _ H' ⟨v, rfl, h1, h2, h3'⟩)
    | fail)
  all_goals (conv => whnf)
  exact ⟨_, rfl, h1, h2, h3'⟩
/-- A token that stands alone. -/
theorem TOp_any (H : AHeap) (hw : Wf H) (z : Nat) (hz : z < 124) (hs : aBuildSlice Try.prog 54 1 [(0, .int .i64 z)] = mkSlice [.int .i64 z] 1 1) :
    Does Try.prog orc 48 [.slice (some ⟨H.next, 0, none⟩) 1 1] (H.push (.cells [.int .i64 z] 0 true)) fun r H' => ∃ v, r = .ret v ∧ Fm H' v [tokT z] ∧ Ext H H' ∧ Wf H' :=
  (T_any _ (hw.push _) H.next z hz (box_new H _ 0)).mono fun r H' ⟨v, h1, h2, h3, h4⟩ => ⟨v, h1, h2, (Ext.push H _).trans h3, h4⟩
/-- A trace in memory. -/
def Tr (H : AHeap) (v : Value) (t : List Nat) : Prop := ∃ a m c, v = .slice a m c ∧ Row H a m c (natL t)
theorem Tr.ext {H H' : AHeap} {v : Value} {t : List Nat} (h : Tr H v t) (hw : Wf H) (e : Ext H H') : Tr H' v t := by
  obtain ⟨a, m, c, rfl, hr⟩ := h
  exact ⟨a, m, c, rfl, hr.ext hw e⟩
theorem alike_any (H : AHeap) (hw : Wf H) (v u x : Value) (a b : List Tk) (t : List Nat) (hf : Fm H v a) (hg : Fm H u b) (ht : Tr H x t) (h256 : ∀ x ∈ t, x < 256) (h : allE a t = 0 → allE b t = 0 → ∀ i, i < t.length + 1 → (meanV t.length t a).pl i = (meanV t.length t b).pl i) :
    Does Try.prog orc 52 [v, u, x] H fun r H' => r = .ret (.bool true) ∧ Ext H H' ∧ Wf H' := by
  obtain ⟨a1, n1, c1, rfl, hr1⟩ := hf
  obtain ⟨a2, n2, c2, rfl, hr2⟩ := hg
  obtain ⟨a3, m, c3, rfl, hr3⟩ := ht
  have hlm := hr3.len; simp at hlm
  subst hlm
  refine Does.of Try.func52 (fun _ _ => rfl) rfl ?_
  have no : ∀ (H : AHeap) (hw : Wf H) (a : Option Addr) (n c : Nat) (ts : List Tk) (hr : RowS H a n c 2 (ts.map Tk.cells)) (hr3 : Row H a3 t.length c3 (natL t)), allE ts t ≠ 0 → Does Try.prog orc 16 [.slice a n c, .slice a3 t.length c3] H fun r H' => r = .ret (.tuple #[.slice none 0 0, .int .i64 (allE ts t)]) ∧ Ext H H' ∧ Wf H' := fun H hw a n c ts hr hr3 h0 =>
    (meanAll_any H hw a n c ts hr a3 t.length c3 t hr3 h256).mono fun r H' ⟨e, w, h⟩ => ⟨by
      rcases h with ⟨_, h⟩ | ⟨h, _⟩
      · exact h
      · exact absurd h h0, e, w⟩
  by_cases ha : allE a t = 0
  · by_cases hb : allE b t = 0
    · have heq := h ha hb
      repeat' ((conv => whnf); first
        | (refine Both.intro ?_ ?_ <;> intro _ <;> try (exfalso; omega))
        | (refine Need.intro (by omega) ?_)
        | (refine Does.mono (meanAll_ok H hw a1 n1 c1 a hr1 a3 t.length c3 t hr3 h256 ha) ?_ ; rintro _ H1 ⟨e1, w1, b1, rfl, hb1, r1⟩)
        | (refine Does.mono (meanAll_ok H1 w1 a2 n2 c2 b (hr2.ext hw e1) a3 t.length c3 t (hr3.ext hw e1) h256 hb) ?_ ; rintro _ H2 ⟨e2, w2, b2, rfl, hb2, r2⟩)
        | (refine Does.mono (sameBools_any H2 _ _ _ _ _ _ _ _ (r1.ext w1 e2) r2 (by have := (allE_ok ha).2; omega)) ?_ ; rintro _ _ ⟨bb, rfl, hbb, rfl⟩ ; have hbt : bb = true := hbb.2 ⟨rfl, heq⟩ ; subst hbt)
        | fail)
      all_goals (conv => whnf)
      exact ⟨rfl, e1.trans e2, w2⟩
    · skip
      repeat' ((conv => whnf); first
        | (refine Both.intro ?_ ?_ <;> intro _ <;> try (exfalso; omega))
        | (refine Need.intro (by omega) ?_)
        | (refine Does.mono (meanAll_ok H hw a1 n1 c1 a hr1 a3 t.length c3 t hr3 h256 ha) ?_ ; rintro _ H1 ⟨e1, w1, b1, rfl, hb1, r1⟩)
        | (refine Does.mono (no H1 w1 a2 n2 c2 b (hr2.ext hw e1) (hr3.ext hw e1) hb) ?_ ; rintro _ H2 ⟨rfl, e2, w2⟩)
        | fail)
      all_goals (conv => whnf)
      exact ⟨rfl, e1.trans e2, w2⟩
  · by_cases hb : allE b t = 0
    · skip
      repeat' ((conv => whnf); first
        | (refine Both.intro ?_ ?_ <;> intro _ <;> try (exfalso; omega))
        | (refine Need.intro (by omega) ?_)
        | (refine Does.mono (no H hw a1 n1 c1 a hr1 hr3 ha) ?_ ; rintro _ H1 ⟨rfl, e1, w1⟩)
        | (refine Does.mono (meanAll_ok H1 w1 a2 n2 c2 b (hr2.ext hw e1) a3 t.length c3 t (hr3.ext hw e1) h256 hb) ?_ ; rintro _ H2 ⟨e2, w2, b2, rfl, hb2, r2⟩)
        | fail)
      all_goals (conv => whnf)
      exact ⟨rfl, e1.trans e2, w2⟩
    · skip
      repeat' ((conv => whnf); first
        | (refine Both.intro ?_ ?_ <;> intro _ <;> try (exfalso; omega))
        | (refine Need.intro (by omega) ?_)
        | (refine Does.mono (no H hw a1 n1 c1 a hr1 hr3 ha) ?_ ; rintro _ H1 ⟨rfl, e1, w1⟩)
        | (refine Does.mono (no H1 w1 a2 n2 c2 b (hr2.ext hw e1) (hr3.ext hw e1) hb) ?_ ; rintro _ H2 ⟨rfl, e2, w2⟩)
        | fail)
      all_goals (conv => whnf)
      exact ⟨rfl, e1.trans e2, w2⟩
theorem allE_nil (t : List Nat) : allE [] t ≠ 0 := by unfold allE meanE; rw [termF_nil]; simp
/-- Two that mean alike. -/
theorem mn_alike {a b : List Tk} {p q : Bool} {V W : Nat → List Nat → Sm} (h : Mn a p V) (hb : Mn b q W) (t : List Nat) (he : ∀ i, i < t.length + 1 → (V t.length t).pl i = (W t.length t).pl i) :
    allE a t = 0 → allE b t = 0 → ∀ i, i < t.length + 1 → (meanV t.length t a).pl i = (meanV t.length t b).pl i := by
  intro ha hb0 i hi
  rcases h with rfl | ⟨_, h1⟩
  · exact absurd ha (allE_nil t)
  · rcases hb with rfl | ⟨_, h2⟩
    · exact absurd hb0 (allE_nil t)
    · rw [h1, h2]; exact he i hi
end Go.AX.Try
