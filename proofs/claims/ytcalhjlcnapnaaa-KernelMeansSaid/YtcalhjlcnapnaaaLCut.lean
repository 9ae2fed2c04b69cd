/- What is satisfied at a place hangs on the letters from there on alone. -/
import Derived.Test.YtcalhjlcnapnaaaLAllM
namespace Go.AX.Try
open Go Go.AX Go.AX.Lw Go.Proofs
set_option linter.unusedVariables false
set_option linter.unusedSimpArgs false
set_option maxRecDepth 100000
/-- Two values, the second of which is told of the places from k on alone. -/
structure CutR (k m : Nat) (A B : Sm) : Prop where
  path : A.path = B.path
  pl : A.path = false → ∀ i, i ≤ m - k → A.pl (k + i) = B.pl i
  back : A.path = true → ∀ s s' : Nat → Bool, (∀ i, i ≤ m - k → s (k + i) = s' i) → ∀ i, i ≤ m - k → A.back s (k + i) = B.back s' i
theorem frD_cut {k : Nat} {e : Bool} {g g' : Nat → Bool → Bool} {d : Nat} : ∀ i, (∀ j b, j < i + d → g (k + j) b = g' j b) → frD e g d (k + i) = frD e g' d i := by
  induction d with
  | zero => intro i _; rfl
  | succ d ih =>
    intro i h
    show g (k + i) (frD e g d (k + i + 1)) = g' i (frD e g' d (i + 1))
    rw [Nat.add_assoc, ih (i + 1) fun j b hj => h j b (by omega), h i _ (by omega)]
theorem frF_cut {k m : Nat} (hk : k ≤ m) {e : Bool} {g g' : Nat → Bool → Bool} (h : ∀ j b, j < m - k → g (k + j) b = g' j b) (i : Nat) (hi : i ≤ m - k) : frF m e g (k + i) = frF (m - k) e g' i := by
  unfold frF
  rw [show m - (k + i) = m - k - i by omega]
  exact frD_cut i fun j b hj => h j b (by omega)
/-- What comes after so many steps. -/
def itF (b : (Nat → Bool) → Nat → Bool) (s : Nat → Bool) : Nat → Nat → Bool
  | 0 => s
  | j + 1 => orF (itF b s j) (b (itF b s j))
theorem itF_succ (b : (Nat → Bool) → Nat → Bool) (s : Nat → Bool) : ∀ j, itF b (orF s (b s)) j = itF b s (j + 1)
  | 0 => rfl
  | j + 1 => by show orF _ _ = orF _ _; rw [itF_succ b s j]
theorem grF_it (n : Nat) (b : (Nat → Bool) → Nat → Bool) : ∀ (f : Nat) (s : Nat → Bool), fls n s < f → ∃ J, grF n b f s = itF b s J ∧ ∀ i, i < n → itF b s (J + 1) i = itF b s J i
  | 0, s, h => by omega
  | f + 1, s, h => by
    unfold grF
    by_cases hall : (List.range n).all (fun i => s i == orF s (b s) i) = true
    · rw [if_pos hall]
      refine ⟨0, rfl, fun i hi => ?_⟩
      have := List.all_eq_true.1 hall i (by simpa using hi)
      exact (by simpa using this : s i = orF s (b s) i).symm
    · rw [if_neg hall]
      have hlt := fls_lt (n := n) (x := s) (b := b s) fun h' => hall (List.all_eq_true.2 fun i hi => by simpa using h' i (by simpa using hi))
      obtain ⟨J, h1, h2⟩ := grF_it n b f (orF s (b s)) (by omega)
      exact ⟨J + 1, by rw [h1, itF_succ], fun i hi => by have := h2 i hi; rwa [itF_succ, itF_succ] at this⟩
theorem itF_stay {n : Nat} {b : (Nat → Bool) → Nat → Bool} {s : Nat → Bool} {J : Nat} (hc : ∀ u v : Nat → Bool, (∀ i, i < n → u i = v i) → ∀ i, i < n → b u i = b v i) (h : ∀ i, i < n → itF b s (J + 1) i = itF b s J i) : ∀ d i, i < n → itF b s (J + d) i = itF b s J i
  | 0, i, hi => rfl
  | d + 1, i, hi => by
    have ih := itF_stay hc h d
    show orF (itF b s (J + d)) (b (itF b s (J + d))) i = _
    rw [← h i hi]
    show orF _ _ i = orF _ _ i
    simp only [orF]
    rw [ih i hi, hc _ _ ih i hi]
theorem grF_cut {k m : Nat} (hk : k ≤ m) {b b' : (Nat → Bool) → Nat → Bool} (h : ∀ s s' : Nat → Bool, (∀ i, i ≤ m - k → s (k + i) = s' i) → ∀ i, i ≤ m - k → b s (k + i) = b' s' i) (s s' : Nat → Bool) (hs : ∀ i, i ≤ m - k → s (k + i) = s' i) :
    ∀ i, i ≤ m - k → grF (m + 1) b (m + 2) s (k + i) = grF (m - k + 1) b' (m - k + 2) s' i := by
  have hf := fls_le (m + 1) s
  have hf' := fls_le (m - k + 1) s'
  obtain ⟨J, h1, h2⟩ := grF_it (m + 1) b (m + 2) s (by omega)
  obtain ⟨J', h1', h2'⟩ := grF_it (m - k + 1) b' (m - k + 2) s' (by omega)
  rw [h1, h1']
  have hit : ∀ j i, i ≤ m - k → itF b s j (k + i) = itF b' s' j i := by
    intro j
    induction j with
    | zero => exact hs
    | succ j ih =>
      intro i hi
      show orF _ _ _ = orF _ _ _
      simp only [orF]
      rw [ih i hi, h _ _ ih i hi]
  have hc : ∀ u v : Nat → Bool, (∀ i, i < m - k + 1 → u i = v i) → ∀ i, i < m - k + 1 → b' u i = b' v i := fun u v huv i hi => by
    have e1 := h (fun j => u (j - k)) u (fun i _ => by rw [Nat.add_sub_cancel_left]) i (by omega)
    have e2 := h (fun j => u (j - k)) v (fun i hi => by rw [Nat.add_sub_cancel_left]; exact huv i (by omega)) i (by omega)
    rw [← e1, e2]
  intro i hi
  rw [hit J i hi]
  by_cases hJ : J' ≤ J
  · obtain ⟨d, rfl⟩ := Nat.exists_eq_add_of_le hJ
    exact itF_stay hc h2' d i (by omega)
  · have hst : ∀ i, i < m - k + 1 → itF b' s' (J + 1) i = itF b' s' J i := fun i hi => by
      rw [← hit (J + 1) i (by omega), ← hit J i (by omega)]
      exact h2 (k + i) (by omega)
    obtain ⟨d, rfl⟩ := Nat.exists_eq_add_of_le (show J ≤ J' by omega)
    exact (itF_stay hc hst d i (by omega)).symm
theorem leafF_cut {k m op p : Nat} (hk : k ≤ m) (t : List Nat) (i : Nat) (hi : i ≤ m - k) : leafF m t op p (k + i) = leafF (m - k) (t.drop k) op p i := by
  have e1 : decide (k + i < m) = decide (i < m - k) := decide_eq_decide.2 (by omega)
  have e2 : decide (k + i = m) = decide (i = m - k) := decide_eq_decide.2 (by omega)
  have e3 : decide (k + i + 1 = m) = decide (i + 1 = m - k) := decide_eq_decide.2 (by omega)
  unfold leafF
  rw [e1, e2, e3, List.getElem?_drop]
theorem oneF_cut {k m op : Nat} (hk : k ≤ m) {f f' : Nat → Bool} (h : ∀ i, i ≤ m - k → f (k + i) = f' i) (i : Nat) (hi : i ≤ m - k) : oneF m op f (k + i) = oneF (m - k) op f' i := by
  unfold oneF
  split
  · dsimp only
    by_cases h1 : i + 1 < m - k
    · rw [decide_eq_true (by omega : k + i + 1 < m), decide_eq_true h1, Nat.add_assoc, h (i + 1) (by omega)]
    · rw [decide_eq_false (by omega : ¬ k + i + 1 < m), decide_eq_false h1]; rfl
  · split
    · dsimp only
      by_cases h1 : i + 1 < m - k
      · rw [decide_eq_false (by omega : ¬ m ≤ k + i + 1), decide_eq_false (by omega : ¬ m - k ≤ i + 1), Nat.add_assoc, h (i + 1) (by omega)]
      · rw [decide_eq_true (by omega : m ≤ k + i + 1), decide_eq_true (by omega : m - k ≤ i + 1)]; rfl
    · split
      · exact frF_cut hk (fun j b hj => by rw [h j (by omega)]) i hi
      · split
        · exact frF_cut hk (fun j b hj => by rw [h j (by omega)]) i hi
        · dsimp only; rw [h i hi]
theorem twoF_cut {k m op : Nat} (hk : k ≤ m) {f f' g g' : Nat → Bool} (hf : ∀ i, i ≤ m - k → f (k + i) = f' i) (hg : ∀ i, i ≤ m - k → g (k + i) = g' i) (i : Nat) (hi : i ≤ m - k) : twoF m op f g (k + i) = twoF (m - k) op f' g' i := by
  unfold twoF
  split
  · exact frF_cut hk (fun j b hj => by rw [hf j (by omega), hg j (by omega)]) i hi
  · split
    · exact frF_cut hk (fun j b hj => by rw [hf j (by omega), hg j (by omega)]) i hi
    · split
      · dsimp only; rw [hf i hi, hg i hi]
      · split
        · dsimp only; rw [hf i hi, hg i hi]
        · split <;> (dsimp only; rw [hf i hi, hg i hi])
theorem stepB_cut {k m : Nat} (hk : k ≤ m) {g g' s s' : Nat → Bool} (hg : ∀ i, i ≤ m - k → g (k + i) = g' i) (hs : ∀ i, i ≤ m - k → s (k + i) = s' i) (i : Nat) (hi : i ≤ m - k) : stepB m g s (k + i) = stepB (m - k) g' s' i := by
  unfold stepB
  by_cases h1 : i < m - k
  · rw [decide_eq_true (by omega : k + i < m), decide_eq_true h1, hg i hi, Nat.add_assoc, hs (i + 1) (by omega)]
  · rw [decide_eq_false (by omega : ¬ k + i < m), decide_eq_false h1]; rfl
theorem CutR.at {k m : Nat} {f g : Nat → Bool} (h : ∀ i, i ≤ m - k → f (k + i) = g i) : CutR k m (.at f) (.at g) := ⟨rfl, fun _ => h, fun h => by cases h⟩
theorem CutR.way {k m : Nat} {b b' o o' : (Nat → Bool) → Nat → Bool} (h : ∀ s s' : Nat → Bool, (∀ i, i ≤ m - k → s (k + i) = s' i) → ∀ i, i ≤ m - k → b s (k + i) = b' s' i) : CutR k m (.way b o) (.way b' o') := ⟨rfl, (fun h => by cases h), fun _ => h⟩
theorem valF_cut {k m : Nat} (hk : k ≤ m) (t : List Nat) (tk : Tk) (hop : tk.op ≤ 23) (a b : List Sm) (hl : a.length = b.length) (hla : a.length = takesF tk.op) (hf : fitK tk.op (a.map Sm.path) = true) (h : ∀ (i : Nat) x y, a[i]? = some x → b[i]? = some y → CutR k m x y) :
    CutR k m (valF m t tk a) (valF (m - k) (t.drop k) tk b) := by
  obtain ⟨op, p⟩ := tk
  dsimp only at hop hla hf
  have two : takesF op = 2 → ∃ x y x' y', a = [x, y] ∧ b = [x', y'] ∧ CutR k m x x' ∧ CutR k m y y' := fun h2 => by
    rw [h2] at hla
    match a, b, hla, hl with
    | [x, y], [x', y'], _, _ => exact ⟨x, y, x', y', rfl, rfl, h 0 _ _ rfl rfl, h 1 _ _ rfl rfl⟩
  have one : takesF op = 1 → ∃ x x', a = [x] ∧ b = [x'] ∧ CutR k m x x' := fun h1 => by
    rw [h1] at hla
    match a, b, hla, hl with
    | [x], [x'], _, _ => exact ⟨x, x', rfl, rfl, h 0 _ _ rfl rfl⟩
  by_cases c0 : op ≤ 5
  · unfold valF; dsimp only; rw [if_pos c0, if_pos c0]
    exact CutR.at fun i hi => leafF_cut hk t i hi
  by_cases c1 : op = 17 ∨ op = 18
  · obtain ⟨x, y, x', y', rfl, rfl, hx, hy⟩ := two (by unfold takesF; rw [if_neg (by omega), if_neg (by omega)])
    unfold fitK at hf; rw [if_pos c1] at hf
    simp at hf
    have hy' := hy.pl hf.2
    rcases c1 with rfl | rfl
    · exact CutR.at fun i hi => hx.back hf.1 _ _ hy' i hi
    · refine CutR.at fun i hi => ?_
      show (!_) = (!_)
      congr 1
      exact hx.back hf.1 _ _ (fun j hj => by show (!_) = (!_); congr 1; exact hy' j hj) i hi
  by_cases c2 : op = 19 ∨ op = 20
  · obtain ⟨x, x', rfl, rfl, hx⟩ := one (by unfold takesF; rw [if_neg (by omega), if_pos (by omega)])
    have hp : x.path = false := by unfold fitK at hf; rw [if_neg (by omega), if_neg (by omega), if_neg (by omega)] at hf; simpa using hf
    have hx' := hx.pl hp
    rcases c2 with rfl | rfl
    · exact CutR.way fun s s' hs i hi => stepB_cut hk hx' hs i hi
    · exact CutR.way fun s s' hs i hi => twoF_cut hk hx' hs i hi
  by_cases c3 : op = 21 ∨ op = 22
  · obtain ⟨x, y, x', y', rfl, rfl, hx, hy⟩ := two (by unfold takesF; rw [if_neg (by omega), if_neg (by omega)])
    unfold fitK at hf; rw [if_neg (by omega), if_pos c3] at hf
    simp at hf
    rcases c3 with rfl | rfl
    · refine CutR.way fun s s' hs i hi => ?_
      show (x.back s (k + i) || y.back s (k + i)) = (x'.back s' i || y'.back s' i)
      rw [hx.back hf.1 s s' hs i hi, hy.back hf.2 s s' hs i hi]
    · exact CutR.way fun s s' hs i hi => hx.back hf.1 _ _ (hy.back hf.2 s s' hs) i hi
  by_cases c4 : op = 23
  · subst c4
    obtain ⟨x, x', rfl, rfl, hx⟩ := one rfl
    have hp : x.path = true := by unfold fitK at hf; simpa using hf
    exact CutR.way fun s s' hs i hi => grF_cut hk (hx.back hp) s s' hs i hi
  · have hfa : ∀ z ∈ a.map Sm.path, z = false := by
      unfold fitK at hf; rw [if_neg (by omega), if_neg (by omega), if_neg (by omega)] at hf
      intro z hz
      have := List.all_eq_true.1 hf z hz
      simpa using this
    by_cases ht : takesF op = 1
    · obtain ⟨x, x', rfl, rfl, hx⟩ := one ht
      have hp : x.path = false := hfa _ (by simp)
      unfold valF; dsimp only
      rw [if_neg c0, if_neg (by omega), if_neg (by omega), if_neg (by omega), if_neg (by omega), if_neg (by omega), if_neg (by omega), if_neg (by omega), if_pos ht]
      rw [if_neg c0, if_neg (by omega), if_neg (by omega), if_neg (by omega), if_neg (by omega), if_neg (by omega), if_neg (by omega), if_neg (by omega), if_pos ht]
      exact CutR.at fun i hi => oneF_cut hk (hx.pl hp) i hi
    · have ht2 : takesF op = 2 := by
        unfold takesF at ht ⊢
        rw [if_neg c0] at ht ⊢
        split
        · rename_i h; rw [if_pos h] at ht; exact absurd rfl ht
        · rfl
      obtain ⟨x, y, x', y', rfl, rfl, hx, hy⟩ := two ht2
      have hp : x.path = false := hfa _ (by simp)
      have hq : y.path = false := hfa _ (by simp)
      unfold valF; dsimp only
      rw [if_neg c0, if_neg (by omega), if_neg (by omega), if_neg (by omega), if_neg (by omega), if_neg (by omega), if_neg (by omega), if_neg (by omega), if_neg ht]
      rw [if_neg c0, if_neg (by omega), if_neg (by omega), if_neg (by omega), if_neg (by omega), if_neg (by omega), if_neg (by omega), if_neg (by omega), if_neg ht]
      exact CutR.at fun i hi => twoF_cut hk (hx.pl hp) (hy.pl hq) i hi
/-- Two runs over the same tokens, side by side. -/
theorem eval_rel {R : Sm → Sm → Prop} {n n' : Nat} {t t' : List Nat} (hp : ∀ x y, R x y → x.path = y.path)
    (hv : ∀ (tk : Tk) (a b : List Sm), tk.op ≤ 23 → a.length = b.length → a.length = takesF tk.op → fitK tk.op (a.map Sm.path) = true → (∀ (i : Nat) x y, a[i]? = some x → b[i]? = some y → R x y) → R (valF n t tk a) (valF n' t' tk b)) :
    ∀ (ts : List Tk) (a b : List Sm) (r : List Bool), a.length = b.length → (∀ (i : Nat) x y, a[i]? = some x → b[i]? = some y → R x y) → ts.foldl stepK (some (a.map Sm.path)) = some r →
      (ts.foldl (stepV n t) a).length = (ts.foldl (stepV n' t') b).length ∧ (ts.foldl (stepV n t) a).map Sm.path = r ∧ ∀ (i : Nat) x y, (ts.foldl (stepV n t) a)[i]? = some x → (ts.foldl (stepV n' t') b)[i]? = some y → R x y
  | [], a, b, r, hl, h, hk => by simp at hk; exact ⟨hl, hk, h⟩
  | tk :: ts, a, b, r, hl, h, hk => by
    simp only [List.foldl_cons] at hk ⊢
    by_cases hc : tk.op ≤ 23 ∧ tk.p < 8 ∧ takesF tk.op ≤ (a.map Sm.path).length ∧ fitK tk.op ((a.map Sm.path).drop ((a.map Sm.path).length - takesF tk.op)) = true
    · simp only [stepK] at hk
      rw [if_pos hc] at hk
      obtain ⟨c1, c2, c3, c4⟩ := hc
      rw [List.length_map] at hk c3 c4
      obtain ⟨m, hm⟩ : ∃ m, m = a.length - takesF tk.op := ⟨_, rfl⟩
      rw [← hm, ← List.map_drop] at c4
      have hR := hv tk (a.drop m) (b.drop m) c1 (by simp [hl]) (by simp; omega) c4 fun i x y hx hy => h (m + i) x y (by rwa [List.getElem?_drop] at hx) (by rwa [List.getElem?_drop] at hy)
      have e1 : stepV n t a tk = a.take m ++ [valF n t tk (a.drop m)] := by rw [stepV, ← hm]
      have e2 : stepV n' t' b tk = b.take m ++ [valF n' t' tk (b.drop m)] := by rw [stepV, ← hl, ← hm]
      rw [e1, e2]
      have l1 : (a.take m).length = m := by simp; omega
      have l2 : (b.take m).length = m := by simp; omega
      refine eval_rel hp hv ts _ _ r (by simp [l1, l2]) (fun i x y hx hy => ?_) ?_
      · by_cases hi : i < m
        · rw [List.getElem?_append_left (by rw [l1]; exact hi), List.getElem?_take, if_pos hi] at hx
          rw [List.getElem?_append_left (by rw [l2]; exact hi), List.getElem?_take, if_pos hi] at hy
          exact h i x y hx hy
        · rw [List.getElem?_append_right (by rw [l1]; omega), l1] at hx
          rw [List.getElem?_append_right (by rw [l2]; omega), l2] at hy
          cases hd : i - m with
          | zero => rw [hd] at hx hy; simp at hx hy; subst hx; subst hy; exact hR
          | succ d => rw [hd] at hx; simp at hx
      · rw [List.map_append, List.map_take]
        simp only [List.map_cons, List.map_nil, valF_path n t tk _ c1]
        rw [← hm] at hk
        exact hk
    · simp only [stepK] at hk
      rw [if_neg hc, foldK_none] at hk; cases hk
theorem meanV_cut {k m : Nat} (hk : k ≤ m) (t : List Nat) {ts : List Tk} (h : kinds ts = some [false]) : ∀ i, i ≤ m - k → (meanV m t ts).pl (k + i) = (meanV (m - k) (t.drop k) ts).pl i := by
  obtain ⟨h1, h2, h3⟩ := eval_rel (R := CutR k m) (n := m) (n' := m - k) (t := t) (t' := t.drop k) (fun _ _ h => h.path) (fun tk a b c1 c2 c3 c4 c5 => valF_cut hk t tk c1 a b c2 c3 c4 c5) ts [] [] [false] rfl (by simp) h
  have hl : (evalV m t ts).length = 1 := by have := congrArg List.length h2; simpa [evalV] using this
  obtain ⟨x, hx⟩ := List.length_eq_one_iff.1 hl
  have hl' : (evalV (m - k) (t.drop k) ts).length = 1 := by rw [← hl]; exact h1.symm
  obtain ⟨y, hy⟩ := List.length_eq_one_iff.1 hl'
  have hR := h3 0 x y (by show (evalV m t ts)[0]? = _; rw [hx]; rfl) (by show (evalV (m - k) (t.drop k) ts)[0]? = _; rw [hy]; rfl)
  have hp : x.path = false := by
    have : (evalV m t ts).map Sm.path = [false] := h2
    rw [hx] at this; simpa using this
  unfold meanV
  rw [hx, hy]
  exact hR.pl hp
end Go.AX.Try
