/- sets.Least. -/
import Derived.Test.YtffnjihgboeonaaLSrtI
namespace Go.AX.Try
open Go Go.AX Go.AX.Lw Go.Proofs
set_option linter.unusedVariables false
set_option linter.unusedSimpArgs false
set_option maxRecDepth 100000
theorem sort0_any (H : AHeap) (hw : Wf H) (a : Option Addr) (c : Nat) : Does Try.prog orc 20 [.slice a 0 c] H fun r H' => r = .ret (.tuple #[]) ∧ H = H' := by
  have ins : Does Try.prog orc 30 [.slice a 0 c, .int .i64 0, .int .i64 0] H fun r H' => r = .ret (.tuple #[]) ∧ H = H' := by
    refine Does.of Try.func30 (fun _ _ => rfl) rfl ?_
    repeat' ((conv => whnf); first
      | (refine Both.intro ?_ ?_ <;> intro _ <;> try (exfalso; omega))
      | (refine Need.intro (by omega) ?_)
      | fail)
    all_goals (conv => whnf)
    refine Runs.loop (fun s : Unit => [(6, .int .i64 1), (2, .int .i64 0)]) (fun s H' => H = H') (fun _ => 0) () ⟨rfl, rfl, trivial⟩ rfl ?_
    rintro _ _ rfl
    repeat' ((conv => whnf); first
      | (refine Both.intro ?_ ?_ <;> intro _ <;> try (exfalso; omega))
      | (refine Need.intro (by omega) ?_)
      | fail)
    all_goals (conv => whnf)
    exact ⟨rfl, rfl⟩
  have pdq : ∀ z : Int, z = 0 → Does Try.prog orc 26 [.slice a 0 c, .int .i64 0, .int .i64 0, .int .i64 z] H fun r H' => r = .ret (.tuple #[]) ∧ H = H' := fun z hz => by
    refine Does.of Try.func26 (fun _ _ => rfl) rfl ?_
    repeat' ((conv => whnf); first
      | (refine Both.intro ?_ ?_ <;> intro _ <;> try (exfalso; omega))
      | (refine Need.intro (by omega) ?_)
      | fail)
    all_goals (conv => whnf)
    refine Runs.loop (fun s : Unit => [(0, .slice a 0 c), (1, .int .i64 0), (2, .int .i64 0)]) (fun s H' => H = H') (fun _ => 0) () ⟨rfl, rfl, rfl, trivial⟩ rfl ?_
    rintro _ _ rfl
    repeat' ((conv => whnf); first
      | (refine Both.intro ?_ ?_ <;> intro _ <;> try (exfalso; omega))
      | (refine Need.intro (by omega) ?_)
      | (refine Does.mono ins ?_ ; rintro _ _ ⟨rfl, rfl⟩)
      | fail)
    all_goals (conv => whnf)
    exact ⟨rfl, rfl⟩
  refine Does.of Try.func20 (fun _ _ => rfl) rfl ?_
  repeat' ((conv => whnf); first
    | (refine Both.intro ?_ ?_ <;> intro _ <;> try (exfalso; omega))
    | (refine Need.intro (by omega) ?_)
    | (refine Gives.intro ⟨_, cUi 0 (by decide), ?_⟩)
    | (refine Does.mono (len_any H 0 (by decide)) ?_ ; rintro _ _ ⟨rfl, rfl⟩)
    | (refine Does.mono (pdq _ rfl) ?_ ; rintro _ _ ⟨rfl, rfl⟩)
    | fail)
  all_goals (conv => whnf)
  exact ⟨rfl, rfl⟩
theorem compact0_any (H : AHeap) (a : Option Addr) (c : Nat) : Does Try.prog orc 21 [.slice a 0 c] H fun r H' => r = .ret (.slice a 0 c) ∧ H = H' := by
  refine Does.of Try.func21 (fun _ _ => rfl) rfl ?_
  repeat' ((conv => whnf); first
    | (refine Both.intro ?_ ?_ <;> intro _ <;> try (exfalso; omega))
    | (refine Need.intro (by omega) ?_)
    | fail)
  all_goals (conv => whnf)
  exact ⟨rfl, rfl⟩
theorem Upd.ext {b e : Nat} {H0 H H' : AHeap} {d : Array Nat} (h : Upd b e H H' d) (e0 : Ext H0 H) (hb : H0.next ≤ b) : Ext H0 H' :=
  ⟨Nat.le_trans e0.next h.next, fun c hc => (h.old c (Nat.lt_of_lt_of_le hc e0.next) (by omega)).trans (e0.get c hc)⟩
/-- The least sets of a list, rising. -/
def isLeast (L : List Nat) (s : Nat) : Bool := !(L.any fun x => decide (x ≠ s ∧ Sub x s))
def leastF (l : List Nat) : List Nat := (compF (srt l)).filter (isLeast (compF (srt l)))
theorem compF_mem : ∀ (l : List Nat) (x : Nat), x ∈ compF l ↔ x ∈ l
  | [], x => Iff.rfl
  | [a], x => Iff.rfl
  | a :: b :: r, x => by
    have ih := compF_mem (b :: r) x
    show x ∈ (if a = b then compF (b :: r) else a :: compF (b :: r)) ↔ _
    by_cases h : a = b
    · subst h; rw [if_pos rfl, ih]; simp
    · rw [if_neg h, List.mem_cons, ih, List.mem_cons (b := a)]
theorem srt_mem (l : List Nat) (x : Nat) : x ∈ srt l ↔ x ∈ l := by unfold srt; rw [List.mem_mergeSort]
theorem srt_len (l : List Nat) : (srt l).length = l.length := by unfold srt; rw [List.length_mergeSort]
theorem grown_root {H0 H1 H : AHeap} {code : Nat} {v : Value} {xs : List Value} (h : Grown H1 H code v xs) (e : H0.next ≤ H1.next) : Grown H0 H code v xs := by
  rcases h with h | ⟨b, h1, h2, h3, h4⟩
  · exact .inl h
  · exact .inr ⟨b, h1, h2, Nat.le_trans e h3, h4⟩
theorem uStore {H : AHeap} {v ev : Nat} {x : Value} (z : Int) (hv : H.get v = some (.cells [x] ev true)) : aStore Try.prog H 27 (.pointer (some ⟨v, 0, none⟩)) (.int .u64 z) = some (.val undef (H.set v (.cells [.int .u64 z] ev true)) (.eff H (H.set v (.cells [.int .u64 z] ev true)))) :=
  store_ok (P := Try.prog) (t := 27) (H := H) (b := v) (o := 0) (v := .int .u64 z) (cs := [x]) (by kernel_rfl) rfl rfl hv (by simp)
theorem least_any (H : AHeap) (hw : Wf H) (a : Option Addr) (n c : Nat) (l : List Nat) (hl : Row H a n c (nums l)) (hn : n ≤ 4096) (hx : ∀ x ∈ l, x < 18446744073709551616) :
    Does Try.prog orc 10 [.slice a n c] H fun r H' => ∃ v, r = .ret v ∧ Grown H H' (rowV 27 1) v (nums (leastF l)) ∧ Ext H H' ∧ Wf H' := by
  have h1 := hl.len; simp at h1
  have hcap := hl.cap
  refine Does.of Try.func10 (fun _ _ => rfl) rfl ?_
  by_cases h0 : n = 0
  · have hl0 : l = [] := List.eq_nil_of_length_eq_zero (by omega)
    subst h0
    repeat' ((conv => whnf); first
      | (refine Both.intro ?_ ?_ <;> intro _ <;> try (exfalso; omega))
      | (refine Need.intro (by omega) ?_)
      | (refine Does.mono (clone_any H hw a 0 c l hl (by omega)) ?_ ; rintro _ H1 ⟨a1, c1, rfl, e1, w1, -, -⟩)
      | (refine Does.mono (sort0_any H1 w1 a1 c1) ?_ ; rintro _ _ ⟨rfl, rfl⟩)
      | (refine Does.mono (compact0_any H1 a1 c1) ?_ ; rintro _ _ ⟨rfl, rfl⟩)
      | fail)
    all_goals (conv => whnf)
    refine Runs.loop (fun s : Unit => [(15, .int .i64 0), (14, .int .i64 0), (4, .slice none 0 0)]) (fun s H' => H1 = H') (fun _ => 0) () ⟨rfl, rfl, rfl, trivial⟩ rfl ?_
    rintro _ _ rfl
    repeat' ((conv => whnf); first
      | (refine Both.intro ?_ ?_ <;> intro _ <;> try (exfalso; omega))
      | (refine Need.intro (by omega) ?_)
      | fail)
    all_goals (conv => whnf)
    subst hl0
    have : leastF [] = [] := by unfold leastF srt; simp [compF]
    rw [this]
    exact ⟨_, rfl, .inl ⟨rfl, rfl⟩, e1, w1⟩
  · have hs := srt_len l
    repeat' ((conv => whnf); first
      | (refine Both.intro ?_ ?_ <;> intro _ <;> try (exfalso; omega))
      | (refine Need.intro (by omega) ?_)
      | (refine Does.mono (clone_any H hw a n c l hl (by omega)) ?_ ; rintro _ H1 ⟨a1, c1, rfl, e1, w1, hc1, hh⟩ ; obtain ⟨b, rfl, hb, hcn, g1⟩ := hh.resolve_left h0 ; rw [hcn] ; have ar1 : Arr H1 b (rowV 27 1) l.toArray := by (unfold Arr; rw [nums_arr]; exact g1))
      | (refine Does.mono (Sort_any H1 w1 b _ n (some 0) l n h1 ar1 (Nat.le_refl _) hn) ?_ ; rintro _ H2 ⟨rfl, u2⟩)
      | (refine Does.mono (compact_any H2 u2.wf b _ n (srt l) n (by omega) u2.arr (Nat.le_refl _) hn) ?_ ; rintro _ H3 ⟨rfl, d', u3, hs3, ht3⟩)
      | fail)
    all_goals (conv => whnf)
    have e3 : Ext H H3 := (u2.trans u3).ext e1 hb
    have w3 := u3.wf
    obtain ⟨L, hL⟩ : ∃ L, L = compF (srt l) := ⟨_, rfl⟩
    obtain ⟨m, hm⟩ : ∃ m, m = L.length := ⟨_, rfl⟩
    rw [← hL, ← hm] at ht3
    rw [← hL, ← hm]
    have hmn : m ≤ n := by rw [hm, hL]; have := compF_len (srt l); omega
    have hrow : Row H3 (some ⟨b, 0, some 0⟩) m n (nums L) := Row.of_block u3.arr (by rw [hm]; simp [nums]) hmn (by
      unfold u64s nums
      rw [← ht3]
      exact (List.take_prefix _ _).map _)
    have hLx : ∀ x ∈ L, x < 18446744073709551616 := fun x hx' => hx x ((srt_mem l x).1 ((compF_mem _ x).1 (hL ▸ hx')))
    have hF : leastF l = L.filter (isLeast L) := by rw [hL]; rfl
    rw [hF]
    refine Runs.loop (fun s : Nat × Value => [(15, .int .i64 (s.1 : Nat)), (14, .int .i64 m), (13, .slice (some ⟨b, 0, some 0⟩) m n), (3, .slice (some ⟨b, 0, some 0⟩) m n), (4, s.2)])
      (fun s H' => s.1 ≤ m ∧ Ext H3 H' ∧ Wf H' ∧ Grown H3 H' (rowV 27 1) s.2 (nums ((L.take s.1).filter (isLeast L)))) (fun s => m - s.1) (0, .slice none 0 0) ⟨rfl, rfl, rfl, rfl, rfl, trivial⟩ ⟨Nat.zero_le _, Ext.refl _, w3, .inl ⟨rfl, rfl⟩⟩ ?_
    rintro ⟨k, v⟩ H4 ⟨hk, e4, w4, gr⟩
    dsimp only at hk gr
    show vc _ _ _ _ _ [(15, .int .i64 (k : Nat)), (14, .int .i64 m), (13, .slice (some ⟨b, 0, some 0⟩) m n), (3, .slice (some ⟨b, 0, some 0⟩) m n), (4, v)] _ _
    by_cases hlt : k < m
    · obtain ⟨s, hsk⟩ := get_of (l := L) (k := k) (by omega)
      obtain ⟨b', o', st', hbb, hcell⟩ := (hrow.ext w3 e4).cell k _ (nums_get hsk)
      cases hbb
      have hsx := hLx s (List.mem_of_getElem? hsk)
      have hz0 : zeroOf Try.prog 27 = some (.int .u64 0) := by kernel_rfl
      obtain ⟨Z, hZ⟩ : ∃ Z, Z = (H4.push (.cells [.int .u64 0] (typedV 27) true)).set H4.next (.cells [.int .u64 (s : Int)] (typedV 27) true) := ⟨_, rfl⟩
      have gZ : Z.get H4.next = some (.cells [.int .u64 (s : Int)] (typedV 27) true) := by rw [hZ, AHeap.get_set, if_pos rfl]
      have cZ : cellAt Z H4.next 0 = some (.int .u64 (s : Int)) := cellAt_of gZ (o := 0) rfl
      have eZ : Ext H4 Z := by rw [hZ]; exact (Ext.push _ _).set (Nat.le_refl _) _
      have wZ : Wf Z := by rw [hZ]; exact (w4.push _).set (get_new _ _) _
      have hC := containsf_any Z _ m n L (hrow.ext w3 (e4.trans eZ)) (by omega) 23 (.pointer (some ⟨H4.next, 0, none⟩)) (fun x => decide (x ≠ s ∧ Sub x s)) (fun x hx' => least1_any Z x s H4.next cZ (hLx x hx') hsx)
      rw [hZ] at hC cZ
      have htk : L.take (k + 1) = L.take k ++ [s] := by rw [List.take_add_one, hsk]; rfl
      cases hany : L.any (fun x => decide (x ≠ s ∧ Sub x s)) with
      | true =>
        rw [hany] at hC
        have hil : isLeast L s = false := by unfold isLeast; rw [hany]; rfl
        repeat' ((conv => whnf); first
          | (refine Both.intro ?_ ?_ <;> intro _ <;> try (exfalso; omega))
          | (refine Need.intro (by omega) ?_)
          | (refine ⟨_, hcell, ?_⟩)
          | (refine Gives.intro ⟨_, hz0, ?_⟩)
          | (refine Outs.intro ⟨_, _, _, uStore _ (get_new _ _), ?_⟩)
          | (refine Does.mono hC ?_ ; rintro _ _ ⟨rfl, rfl⟩)
          | (refine Need.intro (DrawP.intro (by kernel_rfl)) ?_)
          | (refine Need.intro (draw_mix ⟨lookMix_same, True.intro⟩) ?_)
          | fail)
        all_goals (conv => whnf)
        exact ⟨(k + 1, v), ⟨rfl, rfl, rfl, rfl, rfl, trivial⟩, ⟨by dsimp only; omega, hZ ▸ e4.trans eZ, hZ ▸ wZ, by dsimp only; rw [show (L.take (k + 1)).filter (isLeast L) = (L.take k).filter (isLeast L) by rw [htk, List.filter_append]; simp [hil]]; exact hZ ▸ gr.ext w4 eZ⟩, by dsimp only; omega⟩
      | false =>
        rw [hany] at hC
        have hil : isLeast L s = true := by unfold isLeast; rw [hany]; rfl
        have hbs : aBuildSlice Try.prog 22 1 [(0, .int .u64 (s : Int))] = mkSlice [.int .u64 (s : Int)] 1 1 := by kernel_rfl
        have hlen : (nums ((L.take k).filter (isLeast L))).length ≤ k := by simp only [nums, List.length_map]; exact Nat.le_trans (List.length_filter_le _ _) (by rw [List.length_take]; exact Nat.min_le_left _ _)
        obtain ⟨v', H9, ev, happ, gr9, e9, w9⟩ := grown_ok (x := .slice (some ⟨Z.next, 0, none⟩) 1 1) (new := [.int .u64 (s : Int)]) (m := 1) ((e4.trans eZ).trans (Ext.push Z (.cells [.int .u64 (s : Int)] 0 true))) (wZ.push _) u64Ty ((gr.ext w4 eZ).ext wZ (Ext.push _ _)) (src_slice (get_new _ _) rfl (Nat.le_refl _) (by decide)) rfl rfl (by decide) (by omega) (by omega)
        rw [hZ] at happ
        repeat' ((conv => whnf); first
          | (refine Both.intro ?_ ?_ <;> intro _ <;> try (exfalso; omega))
          | (refine Need.intro (by omega) ?_)
          | (refine ⟨_, hcell, ?_⟩)
          | (refine Gives.intro ⟨_, hz0, ?_⟩)
          | (refine Outs.intro ⟨_, _, _, uStore _ (get_new _ _), ?_⟩)
          | (refine Does.mono hC ?_ ; rintro _ _ ⟨rfl, rfl⟩)
          | (refine Need.intro (DrawP.intro (by kernel_rfl)) ?_)
          | (refine Need.intro (draw_mix ⟨lookMix_same, True.intro⟩) ?_)
          | (refine ⟨_, cZ, ?_⟩)
          | (refine ⟨_, hbs, ?_⟩)
          | (refine Outs.intro ⟨_, _, _, happ, ?_⟩)
          | fail)
        all_goals (conv => whnf)
        exact ⟨(k + 1, v'), ⟨rfl, rfl, rfl, rfl, rfl, trivial⟩, ⟨by dsimp only; omega, e9, w9, by dsimp only; rw [show (L.take (k + 1)).filter (isLeast L) = (L.take k).filter (isLeast L) ++ [s] by rw [htk, List.filter_append]; simp [hil]]; unfold nums at gr9 ⊢; rw [List.map_append]; exact gr9⟩, by dsimp only; omega⟩
    · obtain rfl : k = m := by omega
      rw [hm, List.take_length] at gr
      repeat' ((conv => whnf); first
        | (refine Both.intro ?_ ?_ <;> intro _ <;> try (exfalso; omega))
        | (refine Need.intro (by omega) ?_)
        | fail)
      all_goals (conv => whnf)
      exact ⟨v, rfl, grown_root gr e3.next, e3.trans e4, w4⟩
end Go.AX.Try
