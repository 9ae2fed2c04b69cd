/- Functions of the statements of layer 7. -/
import Derived.Test.YtcalhjlcnapnaaaLCut
namespace Go.AX.Try
open Go Go.AX Go.AX.Lw Go.Proofs
set_option linter.unusedVariables false
set_option linter.unusedSimpArgs false
set_option maxRecDepth 100000
theorem meanAll_ok (H : AHeap) (hw : Wf H) (a : Option Addr) (n c : Nat) (ts : List Tk) (hr : RowS H a n c 2 (ts.map Tk.cells)) (a' : Option Addr) (m c' : Nat) (t : List Nat) (ht : Row H a' m c' (natL t)) (h256 : ∀ x ∈ t, x < 256) (h0 : allE ts t = 0) :
    Does Try.prog orc 16 [.slice a n c, .slice a' m c'] H fun r H' => Ext H H' ∧ Wf H' ∧ ∃ b, r = .ret (.tuple #[.slice (some ⟨b, 0, some 0⟩) (m + 1) (m + 1), .int .i64 0]) ∧ H.next ≤ b ∧ BRow H' (some ⟨b, 0, some 0⟩) (m + 1) (m + 1) (meanV m t ts).pl :=
  (meanAll_any H hw a n c ts hr a' m c' t ht h256).mono fun r H' ⟨e, w, h⟩ => ⟨e, w, by
    rcases h with ⟨h, _⟩ | ⟨_, h⟩
    · exact absurd h0 h
    · exact h⟩
theorem small_any (H : AHeap) (hw : Wf H) (a : Option Addr) (n c : Nat) (ts : List Tk) (hr : RowS H a n c 2 (ts.map Tk.cells)) (a' : Option Addr) (m c' : Nat) :
    Does Try.prog orc 14 [.slice a n c, .slice a' m c'] H fun r H' => ∃ b, r = .ret (.bool b) ∧ (b = true → n ≤ 30 ∧ m ≤ 16 ∧ termF ts false = 0) ∧ Ext H H' ∧ Wf H' := by
  have hlen := hr.len; simp at hlen
  refine Does.of Try.func14 (fun _ _ => rfl) rfl ?_
  by_cases h1 : n ≤ 30
  · by_cases h2 : m ≤ 16
    · by_cases h3 : termF ts false = 0
      · have hc := (Check_any H hw a n c ts hr).mono (Q' := fun r H' => r = .ret (.int .i64 0) ∧ Ext H H' ∧ Wf H') fun r H' h => by rw [h3] at h; exact h
        repeat' ((conv => whnf); first
          | (refine Both.intro ?_ ?_ <;> intro _ <;> try (exfalso; omega))
          | (refine Need.intro (by omega) ?_)
          | (refine Does.mono hc ?_ ; rintro _ H' ⟨rfl, e, w⟩)
          | fail)
        all_goals (conv => whnf)
        exact ⟨true, rfl, fun _ => ⟨h1, h2, h3⟩, e, w⟩
      · skip
        repeat' ((conv => whnf); first
          | (refine Both.intro ?_ ?_ <;> intro _ <;> try (exfalso; omega))
          | (refine Need.intro (by omega) ?_)
          | (refine Does.mono (Check_any H hw a n c ts hr) ?_ ; rintro _ H' ⟨rfl, e, w⟩)
          | fail)
        all_goals (conv => whnf)
        exact ⟨false, rfl, (fun h => by cases h), e, w⟩
    · skip
      repeat' ((conv => whnf); first
        | (refine Both.intro ?_ ?_ <;> intro _ <;> try (exfalso; omega))
        | (refine Need.intro (by omega) ?_)
        | fail)
      all_goals (conv => whnf)
      exact ⟨false, rfl, (fun h => by cases h), Ext.refl _, hw⟩
  · skip
    repeat' ((conv => whnf); first
      | (refine Both.intro ?_ ?_ <;> intro _ <;> try (exfalso; omega))
      | (refine Need.intro (by omega) ?_)
      | fail)
    all_goals (conv => whnf)
    exact ⟨false, rfl, (fun h => by cases h), Ext.refl _, hw⟩
theorem pick_any (H : AHeap) (x : Int) (n : Nat) (hn : 1 ≤ n ∧ n ≤ 2 ^ 40) : Does Try.prog orc 15 [.int .i64 x, .int .i64 n] H fun r H' => ∃ k : Nat, r = .ret (.int .i64 k) ∧ k < n ∧ H = H' := by
  refine Does.of Try.func15 (fun _ _ => rfl) rfl ?_
  have h1 := Int.tmod_lt_of_pos x (show (0 : Int) < n by omega)
  have h2 : -(n : Int) < x.tmod n := by
    have := Int.lt_tmod_of_pos x (show (0 : Int) < n by omega)
    omega
  have hrem : aInt .rem .i64 x n = some (.int .i64 (x.tmod n)) := by
    simp only [aInt]
    rw [if_neg (by omega)]
  obtain ⟨y, hy⟩ : ∃ y, y = x.tmod n := ⟨_, rfl⟩
  rw [← hy] at h1 h2 hrem
  repeat' ((conv => whnf); first
    | (refine Both.intro ?_ ?_ <;> intro _ <;> try (exfalso; omega))
    | (refine Need.intro (by omega) ?_)
    | (refine Gives.intro ⟨_, hrem, ?_⟩)
    | fail)
  all_goals (conv => whnf)
  · exact ⟨(y + n).toNat, by rw [Int.toNat_of_nonneg (by omega)]; rfl, by omega, rfl⟩
  · exact ⟨y.toNat, by rw [Int.toNat_of_nonneg (by omega)]; rfl, by omega, rfl⟩
theorem sameBools_any (H : AHeap) (a a' : Option Addr) (n n' c c' : Nat) (f g : Nat → Bool) (hf : BRow H a n c f) (hg : BRow H a' n' c' g) (hn : n ≤ 2 ^ 40) :
    Does Try.prog orc 17 [.slice a n c, .slice a' n' c'] H fun r H' => ∃ b, r = .ret (.bool b) ∧ (b = true ↔ n = n' ∧ ∀ i, i < n → f i = g i) ∧ H = H' := by
  refine Does.of Try.func17 (fun _ _ => rfl) rfl ?_
  have c1 := hf.cap
  have c2 := hg.cap
  repeat' ((conv => whnf); first
    | (refine Both.intro ?_ ?_ <;> intro _ <;> try (exfalso; omega))
    | (refine Need.intro (by omega) ?_)
    | fail)
  all_goals (conv => whnf)
  · exact ⟨false, rfl, iff_of_false (by decide) (fun h => by omega), rfl⟩
  obtain rfl : n = n' := by omega
  refine Runs.loop (fun k : Nat => [(5, .int .i64 k), (1, .slice a' n c'), (0, .slice a n c)]) (fun k H' => k ≤ n ∧ (∀ i, i < k → f i = g i) ∧ H = H') (fun k => n - k) 0 ⟨rfl, rfl, rfl, trivial⟩ ⟨by omega, by simp, rfl⟩ ?_
  rintro k _ ⟨hk, hall, rfl⟩
  by_cases hlt : k < n
  · obtain ⟨b, o, s, rfl, hc⟩ := hf.at hlt
    obtain ⟨b', o', s', rfl, hc'⟩ := hg.at hlt
    by_cases hfg : f k = g k
    · rw [hfg] at hc
      have hne : aBin Try.prog .neq 4 false false (.bool (g k)) (.bool (g k)) = some (.bool false) := by cases g k <;> rfl
      repeat' ((conv => whnf); first
        | (refine Both.intro ?_ ?_ <;> intro _ <;> try (exfalso; omega))
        | (refine Need.intro (by omega) ?_)
        | (refine ⟨_, hc, ?_⟩)
        | (refine ⟨_, hc', ?_⟩)
        | (refine Gives.intro ⟨_, hne, ?_⟩)
        | (refine Need.intro (DrawP.intro (by kernel_rfl)) ?_)
        | fail)
      all_goals (conv => whnf)
      refine ⟨k + 1, ⟨rfl, rfl, rfl, trivial⟩, ⟨by omega, fun i hi => ?_, rfl⟩, by omega⟩
      by_cases h1 : i = k
      · subst h1; exact hfg
      · exact hall i (by omega)
    · have hne : aBin Try.prog .neq 4 false false (.bool (f k)) (.bool (g k)) = some (.bool true) := by
        cases h1 : f k <;> cases h2 : g k <;> rw [h1, h2] at hfg <;> first | rfl | exact absurd rfl hfg
      repeat' ((conv => whnf); first
        | (refine Both.intro ?_ ?_ <;> intro _ <;> try (exfalso; omega))
        | (refine Need.intro (by omega) ?_)
        | (refine ⟨_, hc, ?_⟩)
        | (refine ⟨_, hc', ?_⟩)
        | (refine Gives.intro ⟨_, hne, ?_⟩)
        | (refine Need.intro (DrawP.intro (by kernel_rfl)) ?_)
        | fail)
      all_goals (conv => whnf)
      exact ⟨false, rfl, iff_of_false (by decide) (fun h => hfg (h.2 k hlt)), rfl⟩
  · skip
    repeat' ((conv => whnf); first
      | (refine Both.intro ?_ ?_ <;> intro _ <;> try (exfalso; omega))
      | (refine Need.intro (by omega) ?_)
      | fail)
    all_goals (conv => whnf)
    exact ⟨true, rfl, iff_of_true rfl ⟨rfl, fun i hi => hall i (by omega)⟩, rfl⟩
/-- A row from element k on. -/
theorem Row.from {H : AHeap} {b o n c : Nat} {st : Option Nat} {xs : List Value} (h : Row H (some ⟨b, o, st⟩) n c xs) {k : Nat} (hk : k ≤ n) : Row H (some ⟨b, o + k, st⟩) (n - k) (c - k) (xs.drop k) :=
  ⟨by have := h.len; simp; omega, by have := h.cap; omega, fun i x hx => by
    rw [List.getElem?_drop] at hx
    obtain ⟨b', o', s', he, hc⟩ := h.cell (k + i) x hx
    cases he
    exact ⟨_, _, _, rfl, by rw [Nat.add_assoc]; exact hc⟩⟩
theorem Row.slice {H : AHeap} {a : Option Addr} {n c : Nat} {xs : List Value} (h : Row H a n c xs) {t e : TypeId} (ht : Try.prog.underlying t = some (.slice e)) (hs : sizeT Try.prog e = some 1) {k : Nat} (hk : k ≤ n) :
    ∃ a', aSlice Try.prog t (.slice a n c) (some (.int .i64 k)) none none = some (.slice a' (n - k) (c - k)) ∧ Row H a' (n - k) (c - k) (xs.drop k) := by
  have hcap := h.cap
  cases a with
  | none =>
    have := h.zero
    subst this
    have h0 := h.len
    simp at h0
    subst h0
    refine ⟨none, ?_, ⟨by simp, by omega, fun i x hx => by simp at hx⟩⟩
    unfold aSlice
    simp only [ht, aBound, hs]
    rw [if_pos (by omega)]
    simp only [Int.toNat_natCast, nble hcap, cond_true]
  | some a =>
    obtain ⟨b, o, st⟩ := a
    have hd := Row.from h hk
    cases st with
    | some s =>
      refine ⟨_, slice_from ht hs hk hcap (by simp), ?_⟩
      simpa [offA] using hd
    | none =>
      by_cases hkc : c = k
      · refine ⟨some ⟨b, o, none⟩, ?_, ?_⟩
        · unfold aSlice
          simp only [ht, aBound, hs]
          rw [if_pos (by omega)]
          simp only [Int.toNat_natCast, nble hcap, cond_true]
          rw [if_pos hkc]
        · have hl := h.len
          refine ⟨by simp; omega, by omega, fun i x hx => ?_⟩
          rw [List.getElem?_drop, List.getElem?_eq_none (by omega)] at hx
          cases hx
      · refine ⟨some ⟨b, o + k, none⟩, ?_, hd⟩
        unfold aSlice
        simp only [ht, aBound, hs]
        rw [if_pos (by omega)]
        simp only [Int.toNat_natCast, nble hcap, cond_true]
        rw [if_neg hkc, Nat.mul_one]
theorem bl_drop (n k : Nat) (f : Nat → Bool) : (bl n f).drop k = bl (n - k) fun i => f (k + i) := by
  apply List.ext_getElem?
  intro i
  rw [List.getElem?_drop]
  by_cases h : k + i < n
  · rw [bl_get h, bl_get (by omega)]
  · rw [List.getElem?_eq_none (by rw [bl_len]; omega), List.getElem?_eq_none (by rw [bl_len]; omega)]
theorem meanCut_any (H : AHeap) (hw : Wf H) (a : Option Addr) (n c : Nat) (ts : List Tk) (hr : RowS H a n c 2 (ts.map Tk.cells)) (a' : Option Addr) (m c' : Nat) (t : List Nat) (ht : Row H a' m c' (natL t)) (h256 : ∀ x ∈ t, x < 256) (i : Int) :
    Does Try.prog orc 3 [.slice a n c, .slice a' m c', .int .i64 i] H fun r H' => r = .ret (.bool true) := by
  have hlm := ht.len; simp at hlm
  refine Does.of Try.func3 (fun _ _ => rfl) rfl ?_
  repeat' ((conv => whnf); first
    | (refine Both.intro ?_ ?_ <;> intro _ <;> try (exfalso; omega))
    | (refine Need.intro (by omega) ?_)
    | (refine Does.mono (awake7_any H) ?_ ; rintro _ _ ⟨rfl, rfl⟩)
    | (refine Does.mono (small_any H hw a n c ts hr a' m c') ?_ ; rintro _ H1 ⟨b, rfl, hb, e1, w1⟩)
    | fail)
  all_goals (conv => whnf)
  refine Br_split (fun hbt => ?_) (fun hbf => ?_)
  · obtain ⟨h30, h16, h0⟩ := hb hbt
    have hall0 : allE ts t = 0 := by unfold allE meanE traceF; rw [if_pos h0, if_neg (by omega)]
    obtain ⟨hkd, -⟩ := termF_kinds h0
    have hall2 : ∀ k, allE ts (t.drop k) = 0 := fun k => by unfold allE meanE traceF; rw [if_pos h0, List.length_drop, if_neg (by omega)]
    have hd256 : ∀ k, ∀ x ∈ t.drop k, x < 256 := fun k x hx => h256 x (List.mem_of_mem_drop hx)
    repeat' ((conv => whnf); first
      | (refine Both.intro ?_ ?_ <;> intro _ <;> try (exfalso; omega))
      | (refine Need.intro (by omega) ?_)
      | (refine Does.mono (pick_any H1 i (m + 1) (by omega)) ?_ ; rintro _ _ ⟨k, rfl, hk, rfl⟩ ; obtain ⟨al, hsl, hrs⟩ := Row.slice (ht.ext hw e1) (t := 23) (e := 61) (by kernel_rfl) (by kernel_rfl) (show k ≤ m by omega) ; rw [← List.map_drop] at hrs)
      | (refine Does.mono (meanAll_ok H1 w1 a n c ts (hr.ext hw e1) a' m c' t (ht.ext hw e1) h256 hall0) ?_ ; rintro _ H2 ⟨e2, w2, b2, rfl, hb2, hrow⟩)
      | (refine Gives.intro ⟨_, hsl, ?_⟩)
      | (refine Does.mono (meanAll_ok H2 w2 a n c ts ((hr.ext hw e1).ext w1 e2) al (m - k) (c' - k) (t.drop k) (hrs.ext w1 e2) (hd256 k) (hall2 k)) ?_ ; rintro _ H3 ⟨e3, w3, b3, rfl, hb3, hrow3⟩ ; obtain ⟨a4, hsl4, hr4⟩ := Row.slice (hrow.ext w2 e3) (t := 27) (e := 4) (by kernel_rfl) (by kernel_rfl) (show k ≤ m + 1 by omega) ; rw [bl_drop] at hr4)
      | (refine Gives.intro ⟨_, hsl4, ?_⟩)
      | (refine Does.mono (sameBools_any H3 a4 _ (m + 1 - k) (m - k + 1) _ _ _ _ hr4 hrow3 (by omega)) ?_ ; rintro _ _ ⟨bb, rfl, hbb, rfl⟩ ; have hbt2 : bb = true := hbb.2 ⟨by omega, fun i hi => meanV_cut (show k ≤ m by omega) t hkd i (by omega)⟩ ; subst hbt2)
      | fail)
    all_goals (conv => whnf)
    rfl
  · skip
    repeat' ((conv => whnf); first
      | (refine Both.intro ?_ ?_ <;> intro _ <;> try (exfalso; omega))
      | (refine Need.intro (by omega) ?_)
      | fail)
    all_goals (conv => whnf)
    rfl
end Go.AX.Try
