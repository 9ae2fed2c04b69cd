/- mean.Ends, At; what MeanPaths leans on. -/
import Derived.Test.YtcalhjlcnapnaaaLRel
namespace Go.AX.Try
open Go Go.AX Go.AX.Lw Go.Proofs
set_option linter.unusedVariables false
set_option linter.unusedSimpArgs false
set_option maxRecDepth 100000
theorem star_eq {n : Nat} {x : Sm} {R : Nat → Nat → Prop} (h : RelOk n x R) (s : Nat → Bool) (i : Nat) (hi : i ≤ n) : grF (n + 1) x.back (n + 2) s i = (s i || x.back (grF (n + 1) x.back (n + 2) s) i) := by
  have h1 := grF_rel h.back s
  refine Bool.eq_iff_iff.2 ?_
  rw [Bool.or_eq_true, h1 i hi, h.back _ i hi]
  constructor
  · rintro ⟨k, hk, hw, hs⟩
    cases hw with
    | none => exact .inl hs
    | @more _ j _ hR hj hr => exact .inr ⟨j, hj, hR, (h1 j hj).2 ⟨k, hk, hr, hs⟩⟩
  · rintro (hs | ⟨j, hj, hR, hg⟩)
    · exact ⟨i, hi, .none _, hs⟩
    · obtain ⟨k, hk, hw, hs⟩ := (h1 j hj).1 hg
      exact ⟨k, hk, .more hR hj hw, hs⟩
theorem path_any7 (H : AHeap) (hw : Wf H) (v : Value) (ts : List Tk) (hf : Fm H v ts) :
    Does Try.prog orc 53 [v] H fun r H' => ∃ b, r = .ret (.bool b) ∧ (b = true → termF ts true = 0) ∧ Ext H H' ∧ Wf H' := by
  obtain ⟨a, n, c, rfl, hr⟩ := hf
  refine Does.of Try.func53 (fun _ _ => rfl) rfl ?_
  by_cases h1 : n ≤ 25
  · by_cases h3 : termF ts true = 0
    · have hc := (Path_any H hw a n c ts hr).mono (Q' := fun r H' => r = .ret (.int .i64 0) ∧ Ext H H' ∧ Wf H') fun r H' h => by rw [h3] at h; exact h
      repeat' ((conv => whnf); first
        | (refine Both.intro ?_ ?_ <;> intro _ <;> try (exfalso; omega))
        | (refine Need.intro (by omega) ?_)
        | (refine Does.mono hc ?_ ; rintro _ H' ⟨rfl, e, w⟩)
        | fail)
      all_goals (conv => whnf)
      exact ⟨true, rfl, fun _ => h3, e, w⟩
    · skip
      repeat' ((conv => whnf); first
        | (refine Both.intro ?_ ?_ <;> intro _ <;> try (exfalso; omega))
        | (refine Need.intro (by omega) ?_)
        | (refine Does.mono (Path_any H hw a n c ts hr) ?_ ; rintro _ H' ⟨rfl, e, w⟩)
        | fail)
      all_goals (conv => whnf)
      exact ⟨false, rfl, (fun h => by cases h), e, w⟩
  · skip
    repeat' ((conv => whnf); first
      | (refine Both.intro ?_ ?_ <;> intro _ <;> try (exfalso; omega))
      | (refine Need.intro (by omega) ?_)
      | fail)
    all_goals (conv => whnf)
    exact ⟨false, rfl, (fun h => by cases h), Ext.refl _, hw⟩
theorem meanAt_any (H : AHeap) (hw : Wf H) (v : Value) (ts : List Tk) (hf : Fm H v ts) (a' : Option Addr) (m c' : Nat) (t : List Nat) (ht : Row H a' m c' (natL t)) (h256 : ∀ x ∈ t, x < 256) (k : Nat) (hk : k ≤ m) :
    Does Try.prog orc 39 [v, .slice a' m c', .int .i64 k] H fun r H' => Ext H H' ∧ Wf H' ∧ ((allE ts t ≠ 0 ∧ r = .ret (.tuple #[.bool false, .int .i64 (allE ts t)])) ∨ (allE ts t = 0 ∧ r = .ret (.tuple #[.bool ((meanV m t ts).pl k), .int .i64 0]))) := by
  obtain ⟨a, n, c, rfl, hr⟩ := hf
  have hlen := hr.len; simp at hlen
  have hlm := ht.len; simp at hlm
  refine Does.of Try.func39 (fun _ _ => rfl) rfl ?_
  have hchk := Check_any H hw a n c ts hr
  by_cases he : allE ts t = 0
  · obtain ⟨h0, hm⟩ := allE_ok he
    obtain ⟨hkd, h512⟩ := termF_kinds h0
    have hE : meanE (termF ts false) t = 0 := he
    repeat' ((conv => whnf); first
      | (refine Both.intro ?_ ?_ <;> intro _ <;> try (exfalso; omega))
      | (refine Need.intro (by omega) ?_)
      | (refine Does.mono hchk ?_ ; rintro _ H1 ⟨rfl, e1, w1⟩)
      | (refine Does.mono (meanCheck_any H1 _ a' m c' t (ht.ext hw e1) h256) ?_ ; rintro _ _ ⟨rfl, rfl⟩ ; rw [hE])
      | (refine Does.mono (work_any H1 w1 (ht.ext hw e1) h256 (by omega) a n c ts (hr.ext hw e1) (by omega) hkd) ?_ ; rintro _ H2 ⟨x, S, mm, rfl, hx3, hv, hev, hmp, hS, e2, w2⟩ ; obtain ⟨ax, cx, rfl, rx, sx⟩ := hv.at hmp ; obtain ⟨b, o, st, rfl, hc⟩ := rx.at (show k < m + 1 by omega) ; have hcap := rx.cap)
      | (refine Gives.intro ⟨.slice (some ⟨b, o, st⟩) (m + 1) cx, by kernel_rfl, ?_⟩)
      | (refine ⟨_, hc, ?_⟩)
      | fail)
    all_goals (conv => whnf)
    have hmm : meanV m t ts = mm := by unfold meanV; rw [hev]; rfl
    exact ⟨e1.trans e2, w2, .inr ⟨he, by rw [hmm]; rfl⟩⟩
  · have hE : meanE (termF ts false) t = allE ts t := rfl
    repeat' ((conv => whnf); first
      | (refine Both.intro ?_ ?_ <;> intro _ <;> try (exfalso; omega))
      | (refine Need.intro (by omega) ?_)
      | (refine Does.mono hchk ?_ ; rintro _ H1 ⟨rfl, e1, w1⟩)
      | (refine Does.mono (meanCheck_any H1 _ a' m c' t (ht.ext hw e1) h256) ?_ ; rintro _ _ ⟨rfl, rfl⟩ ; rw [hE])
      | fail)
    all_goals (conv => whnf)
    exact ⟨e1, w1, .inl ⟨he, rfl⟩⟩
theorem ends1_any (H : AHeap) {i k b : Nat} (h : Box H b (.int .i64 k)) : Does Try.prog orc 75 [.int .i64 i, .pointer (some ⟨b, 0, none⟩)] H fun r H' => r = .ret (.bool (decide (i = k))) ∧ H = H' := by
  refine Does.of Try.func75 (fun _ _ => rfl) rfl ?_
  by_cases hik : i = k
  · subst hik
    repeat' ((conv => whnf); first
      | (refine Both.intro ?_ ?_ <;> intro _ <;> try (exfalso; omega))
      | (refine Need.intro (by omega) ?_)
      | (refine ⟨_, h, ?_⟩)
      | fail)
    all_goals (conv => whnf)
    exact ⟨by rw [decide_eq_true rfl]; rfl, rfl⟩
  · skip
    repeat' ((conv => whnf); first
      | (refine Both.intro ?_ ?_ <;> intro _ <;> try (exfalso; omega))
      | (refine Need.intro (by omega) ?_)
      | (refine ⟨_, h, ?_⟩)
      | fail)
    all_goals (conv => whnf)
    exact ⟨by rw [decide_eq_false hik]; rfl, rfl⟩
theorem intTyA : AppTyS Try.prog #[54, 54] 3 1 8 where
  t0 := by kernel_rfl
  t1 := by kernel_rfl
  size := by kernel_rfl
  bytes := by kernel_rfl
  pos := by decide
  szp := by decide
  szl := by decide
  zero := ⟨.int .i64 0, by kernel_rfl, rfl⟩
/-- The places up to n that are in. -/
def insF (g : Nat → Bool) (n : Nat) : List Nat := (List.range n).filter g
theorem insF_succ (g : Nat → Bool) (n : Nat) : insF g (n + 1) = if g n then insF g n ++ [n] else insF g n := by
  unfold insF
  rw [List.range_succ, List.filter_append]
  cases h : g n <;> simp [h]
theorem insF_len (g : Nat → Bool) (n : Nat) : (insF g n).length ≤ n := by
  have := List.length_filter_le g (List.range n)
  simpa [insF] using this
def cN (k : Nat) : List Value := [.int .i64 k]
theorem ends_any (H : AHeap) (hw : Wf H) (v : Value) (ts : List Tk) (hf : Fm H v ts) (a' : Option Addr) (m c' : Nat) (t : List Nat) (ht : Row H a' m c' (natL t)) (h256 : ∀ x ∈ t, x < 256) (k : Nat) (hk : k ≤ m) (he : meanE (termF ts true) t = 0) (h0 : termF ts true = 0) (hm : t.length ≤ 1024) :
    Does Try.prog orc 43 [v, .slice a' m c', .int .i64 k] H fun r H' => Ext H H' ∧ Wf H' ∧ ∃ ao n c, r = .ret (.tuple #[.slice ao n c, .int .i64 0]) ∧ RowS H' ao n c 1 ((insF ((meanV m t ts).on fun i => decide (i = k)) (m + 1)).map cN) := by
  obtain ⟨a, n, c, rfl, hr⟩ := hf
  have hlen := hr.len; simp at hlen
  have hlm := ht.len; simp at hlm
  obtain ⟨hkd, h512⟩ := termF_kinds h0
  refine Does.of Try.func43 (fun _ _ => rfl) rfl ?_
  obtain ⟨Z, h_Z⟩ : ∃ X, X = (H.push (.cells [.int .i64 k] 0 true)) := ⟨_, rfl⟩
  have n_Z : Z.next = H.next + 1 := by rw [h_Z]; rfl
  have e_Z : Ext H Z := by rw [h_Z]; exact (⟨by first | (simp; done) | (simp; omega), fun b hb => by (simp only [AHeap.get_push, AHeap.get_set, AHeap.next_push, AHeap.next_set]; repeat rw [if_neg (by omega)])⟩)
  have w_Z : Wf Z := by rw [h_Z]; exact (fun b hb => by (simp only [AHeap.get_push, AHeap.get_set, AHeap.next_push, AHeap.next_set] at hb ⊢; repeat rw [if_neg (by omega)]); exact hw b (by omega))
  have g_Z_0 : Z.get (H.next) = some (.cells [.int .i64 k] 0 true) := by rw [h_Z]; exact (by (simp only [AHeap.get_push, AHeap.get_set, AHeap.next_push, AHeap.next_set, if_true]); repeat (first | rw [if_pos rfl] | rw [if_neg (by omega)]))
  have o_Z : ∀ b, b < H.next → Z.get b = H.get b := e_Z.get
  have x_Z := h_Z
  have qz := cellAt_of g_Z_0 (o := 0) rfl
  have hchk := (Path_any Z w_Z a n c ts (hr.ext hw e_Z)).heap x_Z
  have qz0 : ∀ (X : AHeap), Ext Z X → cellAt X H.next 0 = some (.int .i64 k) := fun X e => cellAt_ext w_Z e qz
  have htZ := ht.ext hw e_Z
  repeat' ((conv => whnf); first
    | (refine Both.intro ?_ ?_ <;> intro _ <;> try (exfalso; omega))
    | (refine Need.intro (by omega) ?_)
    | (refine Does.mono hchk ?_ ; rintro _ H1 ⟨rfl, e1, w1⟩ ; have qz1 := qz0 H1 e1)
    | (refine Does.mono (meanCheck_any H1 _ a' m c' t (htZ.ext w_Z e1) h256) ?_ ; rintro _ _ ⟨rfl, rfl⟩ ; rw [he])
    | (refine ⟨_, qz1, ?_⟩)
    | (refine Does.mono (all_any H1 w1 a' m c' _ (fun i => decide (i = k)) ⟨_, _, _, rfl, fun H' e w i hi => Does.mono (ends1_any H' (cellAt_ext w1 e qz1)) (by rintro _ _ ⟨rfl, rfl⟩; exact ⟨rfl, Ext.refl _, w⟩)⟩ (by omega)) ?_ ; rintro _ H2 ⟨b2, rfl, r2, hb2, e2, w2⟩)
    | (refine Does.mono (work_any H2 w2 ((htZ.ext w_Z e1).ext w1 e2) h256 (by omega) a n c ts (((hr.ext hw e_Z).ext w_Z e1).ext w1 e2) (by omega) hkd) ?_ ; rintro _ H3 ⟨x, S, mm, rfl, hx3, hv, hev, hmp, hS, e3, w3⟩ ; obtain ⟨vb, vo, rfl, fb, fo⟩ := hv.way hmp ; obtain ⟨fg, ffi, fca, rfl, hrun⟩ := fo.run ; have hcall := hrun H3 ⟨fun _ _ => rfl, Nat.le_refl _⟩ w3 _ _ _ (r2.ext w2 e3))
    | (refine Gives.intro ⟨.func (.func fg) ffi fca, by kernel_rfl, ?_⟩)
    | (refine Does.mono hcall ?_ ; rintro _ H4 ⟨a4, c4, rfl, r4, o4, e4, w4⟩)
    | fail)
  all_goals (conv => whnf)
  have hmm : meanV m t ts = mm := by unfold meanV; rw [hev]; rfl
  rw [hmm]
  obtain ⟨g, hg⟩ : ∃ g, g = mm.on fun i => decide (i = k) := ⟨_, rfl⟩
  rw [← hg] at r4 ⊢
  have eH4 := (((e_Z.trans e1).trans e2).trans e3).trans e4
  have c4c := r4.cap
  refine Runs.loop (fun s : Nat × Option Addr × Nat => [(38, .int .i64 s.1), (37, .int .i64 (m + 1 : Nat)), (36, .slice a4 (m + 1) c4), (9, .slice s.2.1 (insF g s.1).length s.2.2)])
    (fun s H' => s.1 ≤ m + 1 ∧ Ext H4 H' ∧ Wf H' ∧ Stk H4 H' (rowV 3 1) 1 s.2.1 (insF g s.1).length s.2.2 ((insF g s.1).map cN)) (fun s => m + 1 - s.1) (0, none, 0) ⟨rfl, rfl, rfl, rfl, trivial⟩ ⟨Nat.zero_le _, Ext.refl _, w4, Stk.nil _ _ _ _⟩ ?_
  rintro ⟨j, sa, sc⟩ H5 ⟨hj, e5, w5, st5⟩
  dsimp only at hj st5
  show vc _ _ _ _ _ [(38, .int .i64 j), (37, .int .i64 (m + 1 : Nat)), (36, .slice a4 (m + 1) c4), (9, .slice sa (insF g j).length sc)] _ _
  have hl := insF_len g j
  by_cases hlt : j < m + 1
  · obtain ⟨b, o, st, rfl, hc⟩ := BRow.at (r4.ext w4 e5) hlt
    cases hgj : g j with
    | true =>
      rw [hgj] at hc
      have hbs : aBuildSlice Try.prog 54 1 [(0, .int .i64 j)] = mkSlice (cN j) 1 1 := by kernel_rfl
      have hs : insF g (j + 1) = insF g j ++ [j] := by rw [insF_succ, hgj]; rfl
      obtain ⟨a', c'', H9, happ, st9, e9, w9, -⟩ := stk_push (e5.trans (Ext.push H5 (.cells (cN j) 0 true))) (w5.push _) intTyA (st5.ext w5 (Ext.push H5 (.cells (cN j) 0 true))) (m := (insF g j).length) (Nat.le_refl _) (srcS (get_new _ _) rfl) rfl rfl (by omega) (by omega)
      repeat' ((conv => whnf); first
        | (refine Both.intro ?_ ?_ <;> intro _ <;> try (exfalso; omega))
        | (refine Need.intro (by omega) ?_)
        | (refine ⟨_, hc, ?_⟩)
        | (refine ⟨_, hbs, ?_⟩)
        | (refine Outs.intro ⟨_, _, _, happ, ?_⟩)
        | fail)
      all_goals (conv => whnf)
      have hln : (insF g (j + 1)).length = (insF g j).length + 1 := by rw [hs]; simp
      refine ⟨(j + 1, a', c''), ⟨rfl, rfl, rfl, by dsimp only; rw [hln]; rfl, trivial⟩, ⟨by dsimp only; omega, e9, w9, ?_⟩, by dsimp only; omega⟩
      dsimp only
      rw [hln, hs, List.map_append]
      rwa [List.take_of_length_le (by simp)] at st9
    | false =>
      rw [hgj] at hc
      have hs : insF g (j + 1) = insF g j := by rw [insF_succ, hgj]; rfl
      repeat' ((conv => whnf); first
        | (refine Both.intro ?_ ?_ <;> intro _ <;> try (exfalso; omega))
        | (refine Need.intro (by omega) ?_)
        | (refine ⟨_, hc, ?_⟩)
        | fail)
      all_goals (conv => whnf)
      exact ⟨(j + 1, sa, sc), ⟨rfl, rfl, rfl, by dsimp only; rw [hs]; rfl, trivial⟩, ⟨by dsimp only; omega, e5, w5, by dsimp only; rw [hs]; exact st5⟩, by dsimp only; omega⟩
  · obtain rfl : j = m + 1 := by omega
    repeat' ((conv => whnf); first
      | (refine Both.intro ?_ ?_ <;> intro _ <;> try (exfalso; omega))
      | (refine Need.intro (by omega) ?_)
      | fail)
    all_goals (conv => whnf)
    exact ⟨eH4.trans e5, w5, _, _, _, rfl, st5.row⟩
end Go.AX.Try
