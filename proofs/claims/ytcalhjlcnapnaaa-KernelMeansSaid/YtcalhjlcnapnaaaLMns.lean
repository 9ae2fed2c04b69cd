/- What a formula's two forms mean. -/
import Derived.Test.YtcalhjlcnapnaaaLLaw8
namespace Go.AX.Try
open Go Go.AX Go.AX.Lw Go.Proofs
set_option linter.unusedVariables false
set_option linter.unusedSimpArgs false
set_option maxRecDepth 100000
/-- Two meanings that are alike up to n. -/
abbrev Eqv (n : Nat) (A B : Sm) : Prop := CutR 0 n A B
theorem Eqv.of {n : Nat} {A B : Sm} (ha : A.path = false) (hb : B.path = false) (h : ∀ i, i ≤ n → A.pl i = B.pl i) : Eqv n A B :=
  ⟨by rw [ha, hb], fun _ i hi => by rw [Nat.zero_add]; exact h i hi, fun h => by rw [ha] at h; cases h⟩
theorem Eqv.plE {n : Nat} {A B : Sm} (h : Eqv n A B) (ha : A.path = false) {i : Nat} (hi : i ≤ n) : A.pl i = B.pl i := by
  have := h.pl ha i hi; rwa [Nat.zero_add] at this
theorem Eqv.tr {n : Nat} {A B C : Sm} (h : Eqv n A B) (h' : Eqv n B C) : Eqv n A C :=
  ⟨h.path.trans h'.path, fun ha i hi => (h.pl ha i hi).trans (by have := h'.pl (h.path ▸ ha) i hi; rwa [Nat.zero_add] at this), fun ha s s' hs i hi => (h.back ha s s' hs i hi).trans (by
    have := h'.back (h.path ▸ ha) s' s' (fun i _ => by rw [Nat.zero_add]) i hi; rwa [Nat.zero_add] at this)⟩
/-- Where the meaning of a formula does not hold. -/
def nt (m : Sm) : Sm := .at fun i => !m.pl i
theorem nt_path (m : Sm) : (nt m).path = false := rfl
/-- Tokens that mean so. -/
def MY (n : Nat) (t : List Nat) (m : Sm) (y : List Tk) : Prop := ∃ m1, (∀ st, y.foldl (stepV n t) st = st ++ [m1]) ∧ Eqv n m m1
def MR (n : Nat) (t : List Nat) (m : Sm) (x : Pr) : Prop := MY n t m x.yes ∧ (m.path = false → MY n t (nt m) x.no)
variable {n : Nat} {t : List Nat}
theorem stepV_0 {tk : Tk} (h : takesF tk.op = 0) (st : List Sm) : stepV n t st tk = st ++ [valF n t tk []] := by
  unfold stepV; rw [h]; simp
theorem stepV_1 {tk : Tk} (h : takesF tk.op = 1) (st : List Sm) (x : Sm) : stepV n t (st ++ [x]) tk = st ++ [valF n t tk [x]] := by
  unfold stepV; rw [h]; simp
theorem stepV_2 {tk : Tk} (h : takesF tk.op = 2) (st : List Sm) (x y : Sm) : stepV n t (st ++ [x] ++ [y]) tk = st ++ [valF n t tk [x, y]] := by
  unfold stepV; rw [h]; simp
theorem MY.eqv {m m' : Sm} {y : List Tk} (h : MY n t m y) (e : Eqv n m' m) : MY n t m' y := by
  obtain ⟨m1, h1, h2⟩ := h
  exact ⟨m1, h1, e.tr h2⟩
theorem MY.leaf {tk : Tk} (h : takesF tk.op = 0) {m : Sm} (e : Eqv n m (valF n t tk [])) : MY n t m [tk] := ⟨_, fun st => stepV_0 h st, e⟩
theorem MY.one {op : Nat} (h : takesF op = 1) (h23 : op ≤ 23) {m : Sm} {y : List Tk} (hy : MY n t m y) (hf : fitK op [m.path] = true) : MY n t (valF n t (opT op) [m]) (y ++ [opT op]) := by
  obtain ⟨m1, h1, h2⟩ := hy
  refine ⟨valF n t (opT op) [m1], fun st => by rw [List.foldl_append, h1]; exact stepV_1 (tk := opT op) h st m1, ?_⟩
  exact valF_cut (k := 0) (Nat.zero_le _) t (opT op) h23 [m] [m1] rfl h.symm hf fun i x y hx hy => by
    match i, hx, hy with
    | 0, hx, hy => cases hx; cases hy; exact h2
    | i + 1, hx, hy => simp at hx
theorem MY.two {op : Nat} (h : takesF op = 2) (h23 : op ≤ 23) {m m' : Sm} {y z : List Tk} (hy : MY n t m y) (hz : MY n t m' z) (hf : fitK op [m.path, m'.path] = true) : MY n t (valF n t (opT op) [m, m']) (put2 op y z) := by
  obtain ⟨m1, h1, h2⟩ := hy
  obtain ⟨m2, h3, h4⟩ := hz
  refine ⟨valF n t (opT op) [m1, m2], fun st => by unfold put2; rw [List.foldl_append, List.foldl_append, h1, h3]; exact stepV_2 (tk := opT op) h st m1 m2, ?_⟩
  exact valF_cut (k := 0) (Nat.zero_le _) t (opT op) h23 [m, m'] [m1, m2] rfl h.symm hf fun i x y hx hy => by
    match i, hx, hy with
    | 0, hx, hy => cases hx; cases hy; exact h2
    | 1, hx, hy => cases hx; cases hy; exact h4
    | i + 2, hx, hy => simp at hx
theorem frF_not {e e' : Bool} {g g' : Nat → Bool → Bool} (he : e' = !e) (hg : ∀ i b, g' i (!b) = !(g i b)) (i : Nat) : frF n e' g' i = !(frF n e g i) := by
  unfold frF
  have : ∀ d i, frD e' g' d i = !(frD e g d i) := by
    intro d
    induction d with
    | zero => intro i; exact he
    | succ d ih => intro i; show g' i (frD e' g' d (i + 1)) = !(g i (frD e g d (i + 1))); rw [ih, hg]
  exact this _ _
theorem frF_same {e : Bool} {g g' : Nat → Bool → Bool} (hg : ∀ i b, g' i b = g i b) : frF n e g' = frF n e g := by
  have : g' = g := by funext i b; exact hg i b
  rw [this]
theorem my_true : MY n t (.at fun _ => true) [opT 0] := .leaf rfl (Eqv.of rfl rfl fun i hi => rfl)
theorem my_false : MY n t (.at fun _ => false) [opT 1] := .leaf rfl (Eqv.of rfl rfl fun i hi => rfl)
theorem my_more : MY n t (.at fun i => decide (i < n)) [opT 4] := .leaf rfl (Eqv.of rfl rfl fun i hi => rfl)
theorem my_over : MY n t (.at fun i => decide (i = n)) [opT 5] := .leaf rfl (Eqv.of rfl rfl fun i hi => rfl)
theorem mr_leaf (tk : Tk) (h23 : tk.op ≤ 23) (h0 : takesF tk.op = 0) : MR n t (valF n t tk []) (leafP tk) := by
  obtain ⟨op, p⟩ := tk
  dsimp only at h23 h0
  rcases op_none h0 with rfl | rfl | rfl | rfl | rfl | rfl
  · exact ⟨.leaf rfl (Eqv.of rfl rfl fun i hi => rfl), fun _ => my_false.eqv (Eqv.of rfl rfl fun i hi => rfl)⟩
  · exact ⟨.leaf rfl (Eqv.of rfl rfl fun i hi => rfl), fun _ => my_true.eqv (Eqv.of rfl rfl fun i hi => rfl)⟩
  · have h1 : MY n t (valF n t ⟨2, p⟩ []) [⟨2, p⟩] := .leaf rfl (Eqv.of rfl rfl fun i hi => rfl)
    exact ⟨h1, fun _ => (h1.one (op := 6) rfl (by decide) rfl).eqv (Eqv.of rfl rfl fun i hi => rfl)⟩
  · refine ⟨(my_more.two (op := 11) rfl (by decide) (my_false.one (op := 8) rfl (by decide) rfl) rfl).eqv (Eqv.of rfl rfl fun i hi => ?_), fun _ => (my_over.two (op := 12) rfl (by decide) (my_true.one (op := 7) rfl (by decide) rfl) rfl).eqv (Eqv.of rfl rfl fun i hi => ?_)⟩
    · show decide (i + 1 = n) = (decide (i < n) && (decide (n ≤ i + 1) || false))
      by_cases h : i + 1 = n
      · rw [decide_eq_true h, decide_eq_true (show i < n by omega), decide_eq_true (show n ≤ i + 1 by omega)]; rfl
      · rw [decide_eq_false h]
        by_cases h' : i < n
        · rw [decide_eq_false (show ¬ n ≤ i + 1 by omega)]; simp
        · rw [decide_eq_false h']; rfl
    · show (!decide (i + 1 = n)) = (decide (i = n) || (decide (i + 1 < n) && true))
      by_cases h : i + 1 = n
      · rw [decide_eq_true h, decide_eq_false (show ¬ i = n by omega), decide_eq_false (show ¬ i + 1 < n by omega)]; rfl
      · rw [decide_eq_false h]
        by_cases h' : i = n
        · rw [decide_eq_true h']; rfl
        · rw [decide_eq_true (show i + 1 < n by omega)]; simp
  · refine ⟨.leaf rfl (Eqv.of rfl rfl fun i hi => rfl), fun _ => my_over.eqv (Eqv.of rfl rfl fun i hi => ?_)⟩
    show (!decide (i < n)) = decide (i = n)
    by_cases h : i = n
    · rw [decide_eq_true h, decide_eq_false (by omega)]; rfl
    · rw [decide_eq_false h, decide_eq_true (by omega)]; rfl
  · refine ⟨.leaf rfl (Eqv.of rfl rfl fun i hi => rfl), fun _ => my_more.eqv (Eqv.of rfl rfl fun i hi => ?_)⟩
    show (!decide (i = n)) = decide (i < n)
    by_cases h : i = n
    · rw [decide_eq_true h, decide_eq_false (by omega)]; rfl
    · rw [decide_eq_false h, decide_eq_true (by omega)]; rfl
theorem eqv_at {f g : Nat → Bool} (h : ∀ i, f i = g i) : Eqv n (.at f) (.at g) := Eqv.of rfl rfl fun i _ => h i
theorem mr_one (tk : Tk) (h23 : tk.op ≤ 23) (h0 : takesF tk.op = 1) (m : Sm) (x : Pr) (hx : MR n t m x) (hf : fitK tk.op [m.path] = true) : MR n t (valF n t tk [m]) (joinP tk.op [x]) := by
  obtain ⟨op, p⟩ := tk
  dsimp only at h23 h0 hf
  obtain ⟨hy, hn⟩ := hx
  rcases op_one h0 with rfl | rfl | rfl | rfl | rfl | rfl | rfl | rfl
  · have hp : m.path = false := by simpa [fitK] using hf
    refine ⟨hn hp, fun _ => hy.eqv (Eqv.of rfl hp fun i _ => ?_)⟩
    show (!(!m.pl i)) = m.pl i
    cases m.pl i <;> rfl
  · have hp : m.path = false := by simpa [fitK] using hf
    refine ⟨(hy.one (op := 7) rfl (by decide) hf).eqv (eqv_at fun i => rfl), fun _ => ((hn hp).one (op := 8) rfl (by decide) rfl).eqv (eqv_at fun i => ?_)⟩
    show (!(decide (i + 1 < n) && m.pl (i + 1))) = (decide (n ≤ i + 1) || !m.pl (i + 1))
    by_cases h : i + 1 < n
    · rw [decide_eq_true h, decide_eq_false (by omega)]; simp
    · rw [decide_eq_false h, decide_eq_true (by omega)]; rfl
  · have hp : m.path = false := by simpa [fitK] using hf
    refine ⟨(hy.one (op := 8) rfl (by decide) hf).eqv (eqv_at fun i => rfl), fun _ => ((hn hp).one (op := 7) rfl (by decide) rfl).eqv (eqv_at fun i => ?_)⟩
    show (!(decide (n ≤ i + 1) || m.pl (i + 1))) = (decide (i + 1 < n) && !m.pl (i + 1))
    by_cases h : i + 1 < n
    · rw [decide_eq_true h, decide_eq_false (by omega)]; simp
    · rw [decide_eq_false h, decide_eq_true (by omega)]; rfl
  · have hp : m.path = false := by simpa [fitK] using hf
    refine ⟨(my_true.two (op := 15) rfl (by decide) hy (by rw [hp]; rfl)).eqv (eqv_at fun i => ?_), fun _ => (my_false.two (op := 16) rfl (by decide) (hn hp) rfl).eqv (eqv_at fun i => ?_)⟩
    · exact congrFun (frF_same (n := n) (e := false) (g' := fun i b => m.pl i || b) (g := fun i b => m.pl i || (true && b)) fun i b => by simp) i
    · show (!(frF n false (fun i b => m.pl i || b) i)) = frF n true (fun i b => !m.pl i && (false || b)) i
      exact (frF_not rfl (fun i b => by cases m.pl i <;> cases b <;> rfl) i).symm
  · have hp : m.path = false := by simpa [fitK] using hf
    refine ⟨(my_false.two (op := 16) rfl (by decide) hy (by rw [hp]; rfl)).eqv (eqv_at fun i => ?_), fun _ => (my_true.two (op := 15) rfl (by decide) (hn hp) rfl).eqv (eqv_at fun i => ?_)⟩
    · exact congrFun (frF_same (n := n) (e := true) (g' := fun i b => m.pl i && b) (g := fun i b => m.pl i && (false || b)) fun i b => by simp) i
    · show (!(frF n true (fun i b => m.pl i && b) i)) = frF n false (fun i b => !m.pl i || (true && b)) i
      exact (frF_not rfl (fun i b => by cases m.pl i <;> cases b <;> rfl) i).symm
  · exact ⟨hy.one (op := 19) rfl (by decide) hf, fun h => by cases h⟩
  · exact ⟨hy.one (op := 20) rfl (by decide) hf, fun h => by cases h⟩
  · exact ⟨hy.one (op := 23) rfl (by decide) hf, fun h => by cases h⟩
theorem mr_two (tk : Tk) (h23 : tk.op ≤ 23) (h0 : takesF tk.op = 2) (m m' : Sm) (x z : Pr) (hx : MR n t m x) (hz : MR n t m' z) (hf : fitK tk.op [m.path, m'.path] = true) : MR n t (valF n t tk [m, m']) (joinP tk.op [x, z]) := by
  obtain ⟨op, p⟩ := tk
  dsimp only at h23 h0 hf
  obtain ⟨hy, hn⟩ := hx
  obtain ⟨gy, gn⟩ := hz
  rcases op_two h0 h23 with rfl | rfl | rfl | rfl | rfl | rfl | rfl | rfl | rfl | rfl
  · have hp : m.path = false ∧ m'.path = false := by simpa [fitK] using hf
    refine ⟨(hy.two (op := 11) rfl (by decide) gy hf).eqv (eqv_at fun i => rfl), fun _ => ((hn hp.1).two (op := 12) rfl (by decide) (gn hp.2) rfl).eqv (eqv_at fun i => ?_)⟩
    show (!(m.pl i && m'.pl i)) = (!m.pl i || !m'.pl i)
    cases m.pl i <;> cases m'.pl i <;> rfl
  · have hp : m.path = false ∧ m'.path = false := by simpa [fitK] using hf
    refine ⟨(hy.two (op := 12) rfl (by decide) gy hf).eqv (eqv_at fun i => rfl), fun _ => ((hn hp.1).two (op := 11) rfl (by decide) (gn hp.2) rfl).eqv (eqv_at fun i => ?_)⟩
    show (!(m.pl i || m'.pl i)) = (!m.pl i && !m'.pl i)
    cases m.pl i <;> cases m'.pl i <;> rfl
  · have hp : m.path = false ∧ m'.path = false := by simpa [fitK] using hf
    refine ⟨((hn hp.1).two (op := 12) rfl (by decide) gy (by rw [hp.2]; rfl)).eqv (eqv_at fun i => rfl), fun _ => (hy.two (op := 11) rfl (by decide) (gn hp.2) (by rw [hp.1]; rfl)).eqv (eqv_at fun i => ?_)⟩
    show (!(!m.pl i || m'.pl i)) = (m.pl i && !m'.pl i)
    cases m.pl i <;> cases m'.pl i <;> rfl
  · have hp : m.path = false ∧ m'.path = false := by simpa [fitK] using hf
    refine ⟨((hy.two (op := 11) rfl (by decide) gy (by rw [hp.1, hp.2]; rfl)).two (op := 12) rfl (by decide) ((hn hp.1).two (op := 11) rfl (by decide) (gn hp.2) rfl) rfl).eqv (eqv_at fun i => ?_), fun _ => ((hy.two (op := 11) rfl (by decide) (gn hp.2) (by rw [hp.1]; rfl)).two (op := 12) rfl (by decide) ((hn hp.1).two (op := 11) rfl (by decide) gy (by rw [hp.2]; rfl)) rfl).eqv (eqv_at fun i => ?_)⟩
    · show (m.pl i == m'.pl i) = ((m.pl i && m'.pl i) || (!m.pl i && !m'.pl i))
      cases m.pl i <;> cases m'.pl i <;> rfl
    · show (!(m.pl i == m'.pl i)) = ((m.pl i && !m'.pl i) || (!m.pl i && m'.pl i))
      cases m.pl i <;> cases m'.pl i <;> rfl
  · have hp : m.path = false ∧ m'.path = false := by simpa [fitK] using hf
    refine ⟨(hy.two (op := 15) rfl (by decide) gy hf).eqv (eqv_at fun i => rfl), fun _ => ((hn hp.1).two (op := 16) rfl (by decide) (gn hp.2) rfl).eqv (eqv_at fun i => ?_)⟩
    show (!(frF n false (fun i b => m'.pl i || (m.pl i && b)) i)) = frF n true (fun i b => !m'.pl i && (!m.pl i || b)) i
    exact (frF_not rfl (fun i b => by cases m.pl i <;> cases m'.pl i <;> cases b <;> rfl) i).symm
  · have hp : m.path = false ∧ m'.path = false := by simpa [fitK] using hf
    refine ⟨(hy.two (op := 16) rfl (by decide) gy hf).eqv (eqv_at fun i => rfl), fun _ => ((hn hp.1).two (op := 15) rfl (by decide) (gn hp.2) rfl).eqv (eqv_at fun i => ?_)⟩
    show (!(frF n true (fun i b => m'.pl i && (m.pl i || b)) i)) = frF n false (fun i b => !m'.pl i || (!m.pl i && b)) i
    exact (frF_not rfl (fun i b => by cases m.pl i <;> cases m'.pl i <;> cases b <;> rfl) i).symm
  · have hp : m.path = true ∧ m'.path = false := by simpa [fitK] using hf
    refine ⟨(hy.two (op := 17) rfl (by decide) gy hf).eqv (eqv_at fun i => rfl), fun _ => (hy.two (op := 18) rfl (by decide) (gn hp.2) (by rw [hp.1]; rfl)).eqv (eqv_at fun i => ?_)⟩
    show (!m.back m'.pl i) = !m.back (fun j => !(!m'.pl j)) i
    have : (fun j => !(!m'.pl j)) = m'.pl := by funext j; cases m'.pl j <;> rfl
    rw [this]
  · have hp : m.path = true ∧ m'.path = false := by simpa [fitK] using hf
    refine ⟨(hy.two (op := 18) rfl (by decide) gy hf).eqv (eqv_at fun i => rfl), fun _ => (hy.two (op := 17) rfl (by decide) (gn hp.2) (by rw [hp.1]; rfl)).eqv (eqv_at fun i => ?_)⟩
    show (!(!m.back (fun j => !m'.pl j) i)) = m.back (fun j => !m'.pl j) i
    cases m.back (fun j => !m'.pl j) i <;> rfl
  · exact ⟨hy.two (op := 21) rfl (by decide) gy hf, fun h => by cases h⟩
  · exact ⟨hy.two (op := 22) rfl (by decide) gy hf, fun h => by cases h⟩
theorem mr_fold : ∀ (ts : List Tk) (ms : List Sm) (xs : List Pr) (r : List Bool), All2 (MR n t) ms xs → ts.foldl stepK (some (ms.map Sm.path)) = some r → All2 (MR n t) (ts.foldl (stepV n t) ms) (ts.foldl stepP xs) ∧ (ts.foldl (stepV n t) ms).map Sm.path = r
  | [], ms, xs, r, ha, h => ⟨ha, by simpa using h⟩
  | tk :: ts, ms, xs, r, ha, h => by
    simp only [List.foldl_cons] at h ⊢
    by_cases hc : tk.op ≤ 23 ∧ tk.p < 8 ∧ takesF tk.op ≤ (ms.map Sm.path).length ∧ fitK tk.op ((ms.map Sm.path).drop ((ms.map Sm.path).length - takesF tk.op)) = true
    · rw [stepK, if_pos hc] at h
      obtain ⟨c1, c2, c3, c4⟩ := hc
      rw [List.length_map] at c3 c4 h
      have hla := ha.len
      have hd := ha.drop (ms.length - takesF tk.op)
      rw [← List.map_drop] at c4
      obtain ⟨ys, hys⟩ : ∃ ys, ys = ms.drop (ms.length - takesF tk.op) := ⟨_, rfl⟩
      obtain ⟨zs, hzs⟩ : ∃ zs, zs = xs.drop (ms.length - takesF tk.op) := ⟨_, rfl⟩
      have hyl : ys.length = takesF tk.op := by rw [hys, List.length_drop]; omega
      have hmr : MR n t (valF n t tk ys) (partP tk zs) := by
        rw [← hys] at c4 hd
        rw [← hzs] at hd
        have hT := takesF_le tk.op
        unfold partP
        by_cases h0 : takesF tk.op = 0
        · rw [if_pos h0]
          have := List.length_eq_zero_iff.1 (hyl.trans h0)
          rw [this]
          exact mr_leaf tk c1 h0
        · rw [if_neg h0]
          by_cases h1 : takesF tk.op = 1
          · obtain ⟨p, hp⟩ := len_one (hyl.trans h1)
            rw [hp] at hd c4 ⊢
            obtain ⟨x, hx, hq⟩ := hd.one
            rw [hx]
            exact mr_one tk c1 h1 p x hq c4
          · obtain ⟨p, q, hp⟩ := len_two (show ys.length = 2 by omega)
            rw [hp] at hd c4 ⊢
            obtain ⟨x, z, hx, hq, hq'⟩ := hd.two
            rw [hx]
            exact mr_two tk c1 (by omega) p q x z hq hq' c4
      rw [stepV, stepP, ← hla, ← hys, ← hzs]
      refine mr_fold ts _ _ r (All2.snoc hmr (ha.take _)) ?_
      rw [List.map_append, List.map_take]
      simp only [List.map_cons, List.map_nil, valF_path n t tk _ c1]
      exact h
    · rw [stepK, if_neg hc, foldK_none] at h; cases h
/-- What a formula means, and what its forms do. -/
theorem mr_forms {ts : List Tk} (hk : kinds ts = some [false]) : (meanV n t ts).path = false ∧ MR n t (meanV n t ts) (formsF ts) := by
  obtain ⟨h1, h2⟩ := mr_fold (n := n) (t := t) ts [] [] [false] True.intro hk
  obtain ⟨m, hm⟩ := len_one (show (ts.foldl (stepV n t) []).length = 1 by have := congrArg List.length h2; simpa using this)
  rw [hm] at h1 h2
  obtain ⟨x, hx, hr⟩ := h1.one
  have e1 : meanV n t ts = m := by unfold meanV evalV; rw [hm]; rfl
  have e2 : formsF ts = x := by unfold formsF; rw [hx]; rfl
  rw [e1, e2]
  exact ⟨by simpa using h2, hr⟩
theorem MY.mean {m : Sm} {y : List Tk} (h : MY n t m y) : Eqv n m (meanV n t y) := by
  obtain ⟨m1, h1, h2⟩ := h
  have : meanV n t y = m1 := by unfold meanV evalV; rw [h1]; rfl
  rw [this]; exact h2
/-- The kernel formula means what the formula does; its negation, where that does not. -/
theorem means_ok {l : List Tk} (h : ofE l = 0) : ∀ i, i ≤ n → (meanV n t l).pl i = (meanV n t (ofF l)).pl i := by
  obtain ⟨h0, -⟩ := of_ok h
  obtain ⟨hk, -⟩ := termF_kinds h0
  obtain ⟨hp, hy, -⟩ := mr_forms (n := n) (t := t) hk
  have : ofF l = (formsF l).yes := by unfold ofF; rw [if_pos h]
  rw [this]
  intro i hi
  exact hy.mean.plE hp hi
theorem means_neg {k : List Tk} (h : negE k = 0) : ∀ i, i ≤ n → (meanV n t (negF k)).pl i = !(meanV n t k).pl i := by
  have hc : checkF k = 0 := by
    by_cases hc : checkF k = 0
    · exact hc
    · unfold negE at h; rw [if_neg hc] at h; exact h
  obtain ⟨hk, -⟩ := checkF_kinds hc
  obtain ⟨hp, -, hy⟩ := mr_forms (n := n) (t := t) hk
  have : negF k = (formsF k).no := by unfold negF; rw [if_pos h]
  rw [this]
  intro i hi
  exact ((hy hp).mean.plE rfl hi).symm
end Go.AX.Try
