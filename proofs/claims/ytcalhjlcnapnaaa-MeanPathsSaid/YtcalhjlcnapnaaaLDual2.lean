/- MeanDuals. -/
import Derived.Test.YtcalhjlcnapnaaaLDual
namespace Go.AX.Try
open Go Go.AX Go.AX.Lw Go.Proofs
set_option linter.unusedVariables false
set_option linter.unusedSimpArgs false
set_option maxRecDepth 100000
theorem frF_congr {n : Nat} {e : Bool} {g g' : Nat → Bool → Bool} (h : ∀ i, i < n → ∀ b, g i b = g' i b) {i : Nat} (hi : i ≤ n) : frF n e g i = frF n e g' i := by
  have := frF_cut (k := 0) (m := n) (Nat.zero_le _) (e := e) (g := g) (g' := g') (fun j b hj => by rw [Nat.zero_add]; exact h j (by omega) b) i hi
  simpa using this
theorem frD_not (e : Bool) (g : Nat → Bool → Bool) : ∀ d i, (!frD e g d i) = frD (!e) (fun i b => !g i (!b)) d i
  | 0, i => rfl
  | d + 1, i => by
    show (!g i (frD e g d (i + 1))) = (!g i (!frD (!e) (fun i b => !g i (!b)) d (i + 1)))
    rw [← frD_not e g d (i + 1), Bool.not_not]
theorem tk_leaf {op : Nat} (h : op ≤ 5) (h2 : op ≠ 2) : Mn [tokT (100 + op)] false fun n t => .at (leafF n t op 0) := by
  have e : tokT (100 + op) = ⟨op, 0⟩ := by unfold tokT; rw [if_neg (by omega), Nat.add_sub_cancel_left]
  rw [e]
  have htk : takesF op = 0 := by unfold takesF; rw [if_pos h]
  refine .inr ⟨?_, fun n t => ?_⟩
  · show stepK (some []) ⟨op, 0⟩ = _
    unfold stepK
    have hf : fitK op [] = true := by unfold fitK; rw [if_neg (by omega), if_neg (by omega), if_neg (by omega)]; rfl
    dsimp only
    rw [htk]
    rw [if_pos ⟨by omega, by decide, Nat.le_refl _, hf⟩, decide_eq_false (by omega)]; rfl
  · show ((stepV n t [] ⟨op, 0⟩)[0]?).getD smNo = _
    unfold stepV
    dsimp only
    rw [htk]
    show valF n t ⟨op, 0⟩ [] = _
    unfold valF; dsimp only; rw [if_pos h]
set_option maxHeartbeats 16000000 in
theorem meanDuals_any (H : AHeap) (hw : Wf H) (va vb vt : Value) (a b : List Tk) (t : List Nat) (fa : Fm H va a) (fb : Fm H vb b) (ft : Tr H vt t) (h256 : ∀ x ∈ t, x < 256) :
    Does Try.prog orc 10 [va, vb, vt] H fun r H' => r = .ret (.bool true) := by
  refine Does.of Try.func10 (fun _ _ => rfl) rfl ?_
  have sm : ∀ (H : AHeap) (hw : Wf H) (v : Value) (ts : List Tk), Fm H v ts → Tr H vt t → Does Try.prog orc 14 [v, vt] H fun r H' => ∃ b, r = .ret (.bool b) ∧ (b = true → termF ts false = 0) ∧ Ext H H' ∧ Wf H' := fun H hw v ts hf ht => by
    obtain ⟨a1, n1, c1, rfl, hr1⟩ := hf
    obtain ⟨a3, m, c3, hv, hr3⟩ := ht
    rw [hv]
    exact (small_any H hw a1 n1 c1 ts hr1 a3 m c3).mono fun r H' ⟨b, h1, h2, h3, h4⟩ => ⟨b, h1, fun h => (h2 h).2.2, h3, h4⟩
  have bs0 : aBuildSlice Try.prog 54 1 [(0, .int .i64 ((100 : Nat) : Int))] = mkSlice [.int .i64 ((100 : Nat) : Int)] 1 1 := by kernel_rfl
  have bs1 : aBuildSlice Try.prog 54 1 [(0, .int .i64 ((101 : Nat) : Int))] = mkSlice [.int .i64 ((101 : Nat) : Int)] 1 1 := by kernel_rfl
  have bs3 : aBuildSlice Try.prog 54 1 [(0, .int .i64 ((103 : Nat) : Int))] = mkSlice [.int .i64 ((103 : Nat) : Int)] 1 1 := by kernel_rfl
  have bs4 : aBuildSlice Try.prog 54 1 [(0, .int .i64 ((104 : Nat) : Int))] = mkSlice [.int .i64 ((104 : Nat) : Int)] 1 1 := by kernel_rfl
  have bs5 : aBuildSlice Try.prog 54 1 [(0, .int .i64 ((105 : Nat) : Int))] = mkSlice [.int .i64 ((105 : Nat) : Int)] 1 1 := by kernel_rfl
  repeat' ((conv => whnf); first
    | (refine Both.intro ?_ ?_ <;> intro _ <;> try (exfalso; omega))
    | (refine Need.intro (by omega) ?_)
    | (refine Does.mono (awake7_any H) ?_ ; rintro _ _ ⟨rfl, rfl⟩)
    | (refine Does.mono (sm H hw va a fa ft) ?_ ; rintro _ H1 ⟨b1, rfl, hb1, e1, w1⟩)
    | fail)
  all_goals (conv => whnf)
  refine Br_split (fun hbt => ?_) (fun hbf => ?_)
  case refine_2 =>
    repeat' ((conv => whnf); first
      | (refine Both.intro ?_ ?_ <;> intro _ <;> try (exfalso; omega))
      | (refine Need.intro (by omega) ?_)
      | fail)
    all_goals (conv => whnf)
    rfl
  have ha0 := hb1 hbt
  repeat' ((conv => whnf); first
    | (refine Both.intro ?_ ?_ <;> intro _ <;> try (exfalso; omega))
    | (refine Need.intro (by omega) ?_)
    | (refine Does.mono (sm H1 w1 vb b (fb.ext hw e1) (ft.ext hw e1)) ?_ ; rintro _ H2 ⟨b2, rfl, hb2, e2, w2⟩)
    | fail)
  all_goals (conv => whnf)
  refine Br_split (fun hbt2 => ?_) (fun hbf2 => ?_)
  case refine_2 =>
    repeat' ((conv => whnf); first
      | (refine Both.intro ?_ ?_ <;> intro _ <;> try (exfalso; omega))
      | (refine Need.intro (by omega) ?_)
      | fail)
    all_goals (conv => whnf)
    rfl
  have hb0 := hb2 hbt2
  have w0 := hw
  have ma := Mn.of (termF_kinds ha0).1
  have mb := Mn.of (termF_kinds hb0).1
  have yes := tk_leaf (op := 0) (by decide) (by decide)
  have no := tk_leaf (op := 1) (by decide) (by decide)
  have more := tk_leaf (op := 4) (by decide) (by decide)
  have last := tk_leaf (op := 3) (by decide) (by decide)
  have over := tk_leaf (op := 5) (by decide) (by decide)
  have na := un_mn (op := 6) ma rfl
  have nb := un_mn (op := 6) mb rfl
  have mu := bin_mn (op := 15) ma mb rfl
  have mr := bin_mn (op := 16) ma mb rfl
  obtain ⟨n, hn⟩ : ∃ n, n = t.length := ⟨_, rfl⟩
  have nx : ∀ (f : Nat → Bool) i, oneF t.length 7 f i = (decide (i + 1 < t.length) && f (i + 1)) := fun f i => rfl
  have wk : ∀ (f : Nat → Bool) i, oneF t.length 8 f i = (decide (t.length ≤ i + 1) || f (i + 1)) := fun f i => rfl
  have m1 := mn_alike (un_mn (op := 9) ma rfl) (bin_mn (op := 15) yes ma rfl) t fun i hi => frF_congr (fun j hj x => by show ((meanV t.length t a).pl j || x) = ((meanV t.length t a).pl j || (leafF t.length t 0 0 j && x)); rfl) (by omega)
  have m2 := mn_alike (un_mn (op := 10) ma rfl) (bin_mn (op := 16) no ma rfl) t fun i hi => frF_congr (fun j hj x => by show ((meanV t.length t a).pl j && x) = ((meanV t.length t a).pl j && (leafF t.length t 1 0 j || x)); rfl) (by omega)
  have m3 := mn_alike (un_mn (op := 8) ma rfl) (un_mn (op := 6) (un_mn (op := 7) na rfl) rfl) t fun i hi => by
    show (decide (t.length ≤ i + 1) || (meanV t.length t a).pl (i + 1)) = !(decide (i + 1 < t.length) && !(meanV t.length t a).pl (i + 1))
    by_cases h : i + 1 < t.length
    · rw [decide_eq_true h, decide_eq_false (by omega)]; simp
    · rw [decide_eq_false h, decide_eq_true (by omega)]; simp
  have m4 := mn_alike mr (un_mn (op := 6) (bin_mn (op := 15) na nb rfl) rfl) t fun i hi => by
    show frF t.length true _ i = !frF t.length false _ i
    unfold frF
    rw [frD_not]
    refine frF_congr (n := t.length) (e := true) (fun j hj x => ?_) (by omega)
    show (_ && (_ || x)) = !((!_) || ((!_) && (!x)))
    simp
  have m5 := mn_alike (bin_mn (op := 13) ma mb rfl) (bin_mn (op := 12) na mb rfl) t fun i hi => rfl
  have m6 := mn_alike (bin_mn (op := 14) ma mb rfl) (bin_mn (op := 11) (bin_mn (op := 13) ma mb rfl) (bin_mn (op := 13) mb ma rfl) rfl) t fun i hi => by
    show ((meanV t.length t a).pl i == (meanV t.length t b).pl i) = ((!(meanV t.length t a).pl i || (meanV t.length t b).pl i) && (!(meanV t.length t b).pl i || (meanV t.length t a).pl i))
    cases (meanV t.length t a).pl i <;> cases (meanV t.length t b).pl i <;> rfl
  have m7 := mn_alike last (bin_mn (op := 11) more (un_mn (op := 8) no rfl) rfl) t fun i hi => by
    show decide (i + 1 = t.length) = (decide (i < t.length) && (decide (t.length ≤ i + 1) || false))
    by_cases h1 : i + 1 = t.length
    · rw [decide_eq_true h1, decide_eq_true (by omega : i < t.length), decide_eq_true (by omega : t.length ≤ i + 1)]; rfl
    · rw [decide_eq_false h1]
      by_cases h2 : i < t.length
      · rw [decide_eq_true h2, decide_eq_false (by omega : ¬ t.length ≤ i + 1)]; rfl
      · rw [decide_eq_false h2]; rfl
  have m8 := mn_alike over (un_mn (op := 6) more rfl) t fun i hi => by
    show decide (i = t.length) = !decide (i < t.length)
    by_cases h1 : i = t.length
    · rw [decide_eq_true h1, decide_eq_false (by omega : ¬ i < t.length)]; rfl
    · rw [decide_eq_false h1, decide_eq_true (by omega : i < t.length)]; rfl
  have m9 := mn_alike mu (bin_mn (op := 11) more (bin_mn (op := 12) mb (bin_mn (op := 11) ma (un_mn (op := 7) mu rfl) rfl) rfl) rfl) t fun i hi => by
    show frF t.length false _ i = (decide (i < t.length) && ((meanV t.length t b).pl i || ((meanV t.length t a).pl i && (decide (i + 1 < t.length) && frF t.length false _ (i + 1)))))
    by_cases h1 : i < t.length
    · rw [decide_eq_true h1, frF_step h1]
      show (_ || (_ && _)) = (true && (_ || (_ && (_ && _))))
      by_cases h2 : i + 1 < t.length
      · rw [decide_eq_true h2]; rfl
      · have h3 : i + 1 = t.length := by omega
        rw [decide_eq_false h2, h3, frF_end]; simp
    · have h3 : i = t.length := by omega
      rw [decide_eq_false h1, h3, frF_end]; rfl
  have m10 := mn_alike mr (bin_mn (op := 13) more (bin_mn (op := 11) mb (bin_mn (op := 12) ma (un_mn (op := 8) mr rfl) rfl) rfl) rfl) t fun i hi => by
    show frF t.length true _ i = (!decide (i < t.length) || ((meanV t.length t b).pl i && ((meanV t.length t a).pl i || (decide (t.length ≤ i + 1) || frF t.length true _ (i + 1)))))
    by_cases h1 : i < t.length
    · rw [decide_eq_true h1, frF_step h1]
      show (_ && (_ || _)) = (!true || (_ && (_ || (_ || _))))
      by_cases h2 : i + 1 < t.length
      · rw [decide_eq_false (by omega : ¬ t.length ≤ i + 1)]; rfl
      · have h3 : i + 1 = t.length := by omega
        rw [decide_eq_true (by omega : t.length ≤ i + 1), h3, frF_end]; simp
    · have h3 : i = t.length := by omega
      rw [decide_eq_false h1, h3, frF_end]; rfl
  repeat' ((conv => whnf); first
    | (refine Both.intro ?_ ?_ <;> intro _ <;> try (exfalso; omega))
    | (refine Need.intro (by omega) ?_)
    | (refine Does.mono (Op_any H2 0 (by decide)) ?_ ; rintro _ _ ⟨rfl, rfl⟩)
    | (refine ⟨_, bs0, ?_⟩)
    | (refine Does.mono (TOp_any H2 w2 100 (by decide) bs0) ?_ ; rintro _ H3 ⟨v3, rfl, f3, e3, w3⟩)
    | (refine Does.mono (Op_any H3 1 (by decide)) ?_ ; rintro _ _ ⟨rfl, rfl⟩)
    | (refine ⟨_, bs1, ?_⟩)
    | (refine Does.mono (TOp_any H3 w3 101 (by decide) bs1) ?_ ; rintro _ H4 ⟨v4, rfl, f4, e4, w4⟩)
    | (refine Does.mono (un_any H4 w4 6 _ _ ((((fa.ext w0 e1).ext w1 e2).ext w2 e3).ext w3 e4)) ?_ ; rintro _ H5 ⟨v5, rfl, f5, e5, w5⟩)
    | (refine Does.mono (un_any H5 w5 6 _ _ (((((fb.ext w0 e1).ext w1 e2).ext w2 e3).ext w3 e4).ext w4 e5)) ?_ ; rintro _ H6 ⟨v6, rfl, f6, e6, w6⟩)
    | (refine Does.mono (bin_any H6 w6 15 _ _ _ _ ((((((fa.ext w0 e1).ext w1 e2).ext w2 e3).ext w3 e4).ext w4 e5).ext w5 e6) ((((((fb.ext w0 e1).ext w1 e2).ext w2 e3).ext w3 e4).ext w4 e5).ext w5 e6)) ?_ ; rintro _ H7 ⟨v7, rfl, f7, e7, w7⟩)
    | (refine Does.mono (bin_any H7 w7 16 _ _ _ _ (((((((fa.ext w0 e1).ext w1 e2).ext w2 e3).ext w3 e4).ext w4 e5).ext w5 e6).ext w6 e7) (((((((fb.ext w0 e1).ext w1 e2).ext w2 e3).ext w3 e4).ext w4 e5).ext w5 e6).ext w6 e7)) ?_ ; rintro _ H8 ⟨v8, rfl, f8, e8, w8⟩)
    | (refine Does.mono (un_any H8 w8 9 _ _ ((((((((fa.ext w0 e1).ext w1 e2).ext w2 e3).ext w3 e4).ext w4 e5).ext w5 e6).ext w6 e7).ext w7 e8)) ?_ ; rintro _ H9 ⟨v9, rfl, f9, e9, w9⟩)
    | (refine Does.mono (bin_any H9 w9 15 _ _ _ _ ((((((f3.ext w3 e4).ext w4 e5).ext w5 e6).ext w6 e7).ext w7 e8).ext w8 e9) (((((((((fa.ext w0 e1).ext w1 e2).ext w2 e3).ext w3 e4).ext w4 e5).ext w5 e6).ext w6 e7).ext w7 e8).ext w8 e9)) ?_ ; rintro _ H10 ⟨v10, rfl, f10, e10, w10⟩)
    | (refine Does.mono (alike_any H10 w10 _ _ _ _ _ t (f9.ext w9 e10) f10 ((((((((((ft.ext w0 e1).ext w1 e2).ext w2 e3).ext w3 e4).ext w4 e5).ext w5 e6).ext w6 e7).ext w7 e8).ext w8 e9).ext w9 e10) h256 m1) ?_ ; rintro _ H11 ⟨rfl, e11, w11⟩)
    | (refine Does.mono (un_any H11 w11 10 _ _ (((((((((((fa.ext w0 e1).ext w1 e2).ext w2 e3).ext w3 e4).ext w4 e5).ext w5 e6).ext w6 e7).ext w7 e8).ext w8 e9).ext w9 e10).ext w10 e11)) ?_ ; rintro _ H12 ⟨v12, rfl, f12, e12, w12⟩)
    | (refine Does.mono (bin_any H12 w12 16 _ _ _ _ ((((((((f4.ext w4 e5).ext w5 e6).ext w6 e7).ext w7 e8).ext w8 e9).ext w9 e10).ext w10 e11).ext w11 e12) ((((((((((((fa.ext w0 e1).ext w1 e2).ext w2 e3).ext w3 e4).ext w4 e5).ext w5 e6).ext w6 e7).ext w7 e8).ext w8 e9).ext w9 e10).ext w10 e11).ext w11 e12)) ?_ ; rintro _ H13 ⟨v13, rfl, f13, e13, w13⟩)
    | (refine Does.mono (alike_any H13 w13 _ _ _ _ _ t (f12.ext w12 e13) f13 (((((((((((((ft.ext w0 e1).ext w1 e2).ext w2 e3).ext w3 e4).ext w4 e5).ext w5 e6).ext w6 e7).ext w7 e8).ext w8 e9).ext w9 e10).ext w10 e11).ext w11 e12).ext w12 e13) h256 m2) ?_ ; rintro _ H14 ⟨rfl, e14, w14⟩)
    | (refine Does.mono (un_any H14 w14 8 _ _ ((((((((((((((fa.ext w0 e1).ext w1 e2).ext w2 e3).ext w3 e4).ext w4 e5).ext w5 e6).ext w6 e7).ext w7 e8).ext w8 e9).ext w9 e10).ext w10 e11).ext w11 e12).ext w12 e13).ext w13 e14)) ?_ ; rintro _ H15 ⟨v15, rfl, f15, e15, w15⟩)
    | (refine Does.mono (un_any H15 w15 7 _ _ ((((((((((f5.ext w5 e6).ext w6 e7).ext w7 e8).ext w8 e9).ext w9 e10).ext w10 e11).ext w11 e12).ext w12 e13).ext w13 e14).ext w14 e15)) ?_ ; rintro _ H16 ⟨v16, rfl, f16, e16, w16⟩)
    | (refine Does.mono (un_any H16 w16 6 _ _ f16) ?_ ; rintro _ H17 ⟨v17, rfl, f17, e17, w17⟩)
    | (refine Does.mono (alike_any H17 w17 _ _ _ _ _ t ((f15.ext w15 e16).ext w16 e17) f17 (((((((((((((((((ft.ext w0 e1).ext w1 e2).ext w2 e3).ext w3 e4).ext w4 e5).ext w5 e6).ext w6 e7).ext w7 e8).ext w8 e9).ext w9 e10).ext w10 e11).ext w11 e12).ext w12 e13).ext w13 e14).ext w14 e15).ext w15 e16).ext w16 e17) h256 m3) ?_ ; rintro _ H18 ⟨rfl, e18, w18⟩)
    | (refine Does.mono (bin_any H18 w18 15 _ _ _ _ (((((((((((((f5.ext w5 e6).ext w6 e7).ext w7 e8).ext w8 e9).ext w9 e10).ext w10 e11).ext w11 e12).ext w12 e13).ext w13 e14).ext w14 e15).ext w15 e16).ext w16 e17).ext w17 e18) ((((((((((((f6.ext w6 e7).ext w7 e8).ext w8 e9).ext w9 e10).ext w10 e11).ext w11 e12).ext w12 e13).ext w13 e14).ext w14 e15).ext w15 e16).ext w16 e17).ext w17 e18)) ?_ ; rintro _ H19 ⟨v19, rfl, f19, e19, w19⟩)
    | (refine Does.mono (un_any H19 w19 6 _ _ f19) ?_ ; rintro _ H20 ⟨v20, rfl, f20, e20, w20⟩)
    | (refine Does.mono (alike_any H20 w20 _ _ _ _ _ t ((((((((((((f8.ext w8 e9).ext w9 e10).ext w10 e11).ext w11 e12).ext w12 e13).ext w13 e14).ext w14 e15).ext w15 e16).ext w16 e17).ext w17 e18).ext w18 e19).ext w19 e20) f20 ((((((((((((((((((((ft.ext w0 e1).ext w1 e2).ext w2 e3).ext w3 e4).ext w4 e5).ext w5 e6).ext w6 e7).ext w7 e8).ext w8 e9).ext w9 e10).ext w10 e11).ext w11 e12).ext w12 e13).ext w13 e14).ext w14 e15).ext w15 e16).ext w16 e17).ext w17 e18).ext w18 e19).ext w19 e20) h256 m4) ?_ ; rintro _ H21 ⟨rfl, e21, w21⟩)
    | (refine Does.mono (bin_any H21 w21 13 _ _ _ _ (((((((((((((((((((((fa.ext w0 e1).ext w1 e2).ext w2 e3).ext w3 e4).ext w4 e5).ext w5 e6).ext w6 e7).ext w7 e8).ext w8 e9).ext w9 e10).ext w10 e11).ext w11 e12).ext w12 e13).ext w13 e14).ext w14 e15).ext w15 e16).ext w16 e17).ext w17 e18).ext w18 e19).ext w19 e20).ext w20 e21) (((((((((((((((((((((fb.ext w0 e1).ext w1 e2).ext w2 e3).ext w3 e4).ext w4 e5).ext w5 e6).ext w6 e7).ext w7 e8).ext w8 e9).ext w9 e10).ext w10 e11).ext w11 e12).ext w12 e13).ext w13 e14).ext w14 e15).ext w15 e16).ext w16 e17).ext w17 e18).ext w18 e19).ext w19 e20).ext w20 e21)) ?_ ; rintro _ H22 ⟨v22, rfl, f22, e22, w22⟩)
    | (refine Does.mono (bin_any H22 w22 12 _ _ _ _ (((((((((((((((((f5.ext w5 e6).ext w6 e7).ext w7 e8).ext w8 e9).ext w9 e10).ext w10 e11).ext w11 e12).ext w12 e13).ext w13 e14).ext w14 e15).ext w15 e16).ext w16 e17).ext w17 e18).ext w18 e19).ext w19 e20).ext w20 e21).ext w21 e22) ((((((((((((((((((((((fb.ext w0 e1).ext w1 e2).ext w2 e3).ext w3 e4).ext w4 e5).ext w5 e6).ext w6 e7).ext w7 e8).ext w8 e9).ext w9 e10).ext w10 e11).ext w11 e12).ext w12 e13).ext w13 e14).ext w14 e15).ext w15 e16).ext w16 e17).ext w17 e18).ext w18 e19).ext w19 e20).ext w20 e21).ext w21 e22)) ?_ ; rintro _ H23 ⟨v23, rfl, f23, e23, w23⟩)
    | (refine Does.mono (alike_any H23 w23 _ _ _ _ _ t (f22.ext w22 e23) f23 (((((((((((((((((((((((ft.ext w0 e1).ext w1 e2).ext w2 e3).ext w3 e4).ext w4 e5).ext w5 e6).ext w6 e7).ext w7 e8).ext w8 e9).ext w9 e10).ext w10 e11).ext w11 e12).ext w12 e13).ext w13 e14).ext w14 e15).ext w15 e16).ext w16 e17).ext w17 e18).ext w18 e19).ext w19 e20).ext w20 e21).ext w21 e22).ext w22 e23) h256 m5) ?_ ; rintro _ H24 ⟨rfl, e24, w24⟩)
    | (refine Does.mono (bin_any H24 w24 14 _ _ _ _ ((((((((((((((((((((((((fa.ext w0 e1).ext w1 e2).ext w2 e3).ext w3 e4).ext w4 e5).ext w5 e6).ext w6 e7).ext w7 e8).ext w8 e9).ext w9 e10).ext w10 e11).ext w11 e12).ext w12 e13).ext w13 e14).ext w14 e15).ext w15 e16).ext w16 e17).ext w17 e18).ext w18 e19).ext w19 e20).ext w20 e21).ext w21 e22).ext w22 e23).ext w23 e24) ((((((((((((((((((((((((fb.ext w0 e1).ext w1 e2).ext w2 e3).ext w3 e4).ext w4 e5).ext w5 e6).ext w6 e7).ext w7 e8).ext w8 e9).ext w9 e10).ext w10 e11).ext w11 e12).ext w12 e13).ext w13 e14).ext w14 e15).ext w15 e16).ext w16 e17).ext w17 e18).ext w18 e19).ext w19 e20).ext w20 e21).ext w21 e22).ext w22 e23).ext w23 e24)) ?_ ; rintro _ H25 ⟨v25, rfl, f25, e25, w25⟩)
    | (refine Does.mono (bin_any H25 w25 13 _ _ _ _ (((((((((((((((((((((((((fa.ext w0 e1).ext w1 e2).ext w2 e3).ext w3 e4).ext w4 e5).ext w5 e6).ext w6 e7).ext w7 e8).ext w8 e9).ext w9 e10).ext w10 e11).ext w11 e12).ext w12 e13).ext w13 e14).ext w14 e15).ext w15 e16).ext w16 e17).ext w17 e18).ext w18 e19).ext w19 e20).ext w20 e21).ext w21 e22).ext w22 e23).ext w23 e24).ext w24 e25) (((((((((((((((((((((((((fb.ext w0 e1).ext w1 e2).ext w2 e3).ext w3 e4).ext w4 e5).ext w5 e6).ext w6 e7).ext w7 e8).ext w8 e9).ext w9 e10).ext w10 e11).ext w11 e12).ext w12 e13).ext w13 e14).ext w14 e15).ext w15 e16).ext w16 e17).ext w17 e18).ext w18 e19).ext w19 e20).ext w20 e21).ext w21 e22).ext w22 e23).ext w23 e24).ext w24 e25)) ?_ ; rintro _ H26 ⟨v26, rfl, f26, e26, w26⟩)
    | (refine Does.mono (bin_any H26 w26 13 _ _ _ _ ((((((((((((((((((((((((((fb.ext w0 e1).ext w1 e2).ext w2 e3).ext w3 e4).ext w4 e5).ext w5 e6).ext w6 e7).ext w7 e8).ext w8 e9).ext w9 e10).ext w10 e11).ext w11 e12).ext w12 e13).ext w13 e14).ext w14 e15).ext w15 e16).ext w16 e17).ext w17 e18).ext w18 e19).ext w19 e20).ext w20 e21).ext w21 e22).ext w22 e23).ext w23 e24).ext w24 e25).ext w25 e26) ((((((((((((((((((((((((((fa.ext w0 e1).ext w1 e2).ext w2 e3).ext w3 e4).ext w4 e5).ext w5 e6).ext w6 e7).ext w7 e8).ext w8 e9).ext w9 e10).ext w10 e11).ext w11 e12).ext w12 e13).ext w13 e14).ext w14 e15).ext w15 e16).ext w16 e17).ext w17 e18).ext w18 e19).ext w19 e20).ext w20 e21).ext w21 e22).ext w22 e23).ext w23 e24).ext w24 e25).ext w25 e26)) ?_ ; rintro _ H27 ⟨v27, rfl, f27, e27, w27⟩)
    | (refine Does.mono (bin_any H27 w27 11 _ _ _ _ (f26.ext w26 e27) f27) ?_ ; rintro _ H28 ⟨v28, rfl, f28, e28, w28⟩)
    | (refine Does.mono (alike_any H28 w28 _ _ _ _ _ t (((f25.ext w25 e26).ext w26 e27).ext w27 e28) f28 ((((((((((((((((((((((((((((ft.ext w0 e1).ext w1 e2).ext w2 e3).ext w3 e4).ext w4 e5).ext w5 e6).ext w6 e7).ext w7 e8).ext w8 e9).ext w9 e10).ext w10 e11).ext w11 e12).ext w12 e13).ext w13 e14).ext w14 e15).ext w15 e16).ext w16 e17).ext w17 e18).ext w18 e19).ext w19 e20).ext w20 e21).ext w21 e22).ext w22 e23).ext w23 e24).ext w24 e25).ext w25 e26).ext w26 e27).ext w27 e28) h256 m6) ?_ ; rintro _ H29 ⟨rfl, e29, w29⟩)
    | (refine Does.mono (Op_any H29 4 (by decide)) ?_ ; rintro _ _ ⟨rfl, rfl⟩)
    | (refine ⟨_, bs4, ?_⟩)
    | (refine Does.mono (TOp_any H29 w29 104 (by decide) bs4) ?_ ; rintro _ H30 ⟨v30, rfl, f30, e30, w30⟩)
    | (refine Does.mono (Op_any H30 3 (by decide)) ?_ ; rintro _ _ ⟨rfl, rfl⟩)
    | (refine ⟨_, bs3, ?_⟩)
    | (refine Does.mono (TOp_any H30 w30 103 (by decide) bs3) ?_ ; rintro _ H31 ⟨v31, rfl, f31, e31, w31⟩)
    | (refine Does.mono (un_any H31 w31 8 _ _ (((((((((((((((((((((((((((f4.ext w4 e5).ext w5 e6).ext w6 e7).ext w7 e8).ext w8 e9).ext w9 e10).ext w10 e11).ext w11 e12).ext w12 e13).ext w13 e14).ext w14 e15).ext w15 e16).ext w16 e17).ext w17 e18).ext w18 e19).ext w19 e20).ext w20 e21).ext w21 e22).ext w22 e23).ext w23 e24).ext w24 e25).ext w25 e26).ext w26 e27).ext w27 e28).ext w28 e29).ext w29 e30).ext w30 e31)) ?_ ; rintro _ H32 ⟨v32, rfl, f32, e32, w32⟩)
    | (refine Does.mono (bin_any H32 w32 11 _ _ _ _ ((f30.ext w30 e31).ext w31 e32) f32) ?_ ; rintro _ H33 ⟨v33, rfl, f33, e33, w33⟩)
    | (refine Does.mono (alike_any H33 w33 _ _ _ _ _ t ((f31.ext w31 e32).ext w32 e33) f33 (((((((((((((((((((((((((((((((((ft.ext w0 e1).ext w1 e2).ext w2 e3).ext w3 e4).ext w4 e5).ext w5 e6).ext w6 e7).ext w7 e8).ext w8 e9).ext w9 e10).ext w10 e11).ext w11 e12).ext w12 e13).ext w13 e14).ext w14 e15).ext w15 e16).ext w16 e17).ext w17 e18).ext w18 e19).ext w19 e20).ext w20 e21).ext w21 e22).ext w22 e23).ext w23 e24).ext w24 e25).ext w25 e26).ext w26 e27).ext w27 e28).ext w28 e29).ext w29 e30).ext w30 e31).ext w31 e32).ext w32 e33) h256 m7) ?_ ; rintro _ H34 ⟨rfl, e34, w34⟩)
    | (refine Does.mono (Op_any H34 5 (by decide)) ?_ ; rintro _ _ ⟨rfl, rfl⟩)
    | (refine ⟨_, bs5, ?_⟩)
    | (refine Does.mono (TOp_any H34 w34 105 (by decide) bs5) ?_ ; rintro _ H35 ⟨v35, rfl, f35, e35, w35⟩)
    | (refine Does.mono (un_any H35 w35 6 _ _ (((((f30.ext w30 e31).ext w31 e32).ext w32 e33).ext w33 e34).ext w34 e35)) ?_ ; rintro _ H36 ⟨v36, rfl, f36, e36, w36⟩)
    | (refine Does.mono (alike_any H36 w36 _ _ _ _ _ t (f35.ext w35 e36) f36 ((((((((((((((((((((((((((((((((((((ft.ext w0 e1).ext w1 e2).ext w2 e3).ext w3 e4).ext w4 e5).ext w5 e6).ext w6 e7).ext w7 e8).ext w8 e9).ext w9 e10).ext w10 e11).ext w11 e12).ext w12 e13).ext w13 e14).ext w14 e15).ext w15 e16).ext w16 e17).ext w17 e18).ext w18 e19).ext w19 e20).ext w20 e21).ext w21 e22).ext w22 e23).ext w23 e24).ext w24 e25).ext w25 e26).ext w26 e27).ext w27 e28).ext w28 e29).ext w29 e30).ext w30 e31).ext w31 e32).ext w32 e33).ext w33 e34).ext w34 e35).ext w35 e36) h256 m8) ?_ ; rintro _ H37 ⟨rfl, e37, w37⟩)
    | (refine Does.mono (un_any H37 w37 7 _ _ ((((((((((((((((((((((((((((((f7.ext w7 e8).ext w8 e9).ext w9 e10).ext w10 e11).ext w11 e12).ext w12 e13).ext w13 e14).ext w14 e15).ext w15 e16).ext w16 e17).ext w17 e18).ext w18 e19).ext w19 e20).ext w20 e21).ext w21 e22).ext w22 e23).ext w23 e24).ext w24 e25).ext w25 e26).ext w26 e27).ext w27 e28).ext w28 e29).ext w29 e30).ext w30 e31).ext w31 e32).ext w32 e33).ext w33 e34).ext w34 e35).ext w35 e36).ext w36 e37)) ?_ ; rintro _ H38 ⟨v38, rfl, f38, e38, w38⟩)
    | (refine Does.mono (bin_any H38 w38 11 _ _ _ _ ((((((((((((((((((((((((((((((((((((((fa.ext w0 e1).ext w1 e2).ext w2 e3).ext w3 e4).ext w4 e5).ext w5 e6).ext w6 e7).ext w7 e8).ext w8 e9).ext w9 e10).ext w10 e11).ext w11 e12).ext w12 e13).ext w13 e14).ext w14 e15).ext w15 e16).ext w16 e17).ext w17 e18).ext w18 e19).ext w19 e20).ext w20 e21).ext w21 e22).ext w22 e23).ext w23 e24).ext w24 e25).ext w25 e26).ext w26 e27).ext w27 e28).ext w28 e29).ext w29 e30).ext w30 e31).ext w31 e32).ext w32 e33).ext w33 e34).ext w34 e35).ext w35 e36).ext w36 e37).ext w37 e38) f38) ?_ ; rintro _ H39 ⟨v39, rfl, f39, e39, w39⟩)
    | (refine Does.mono (bin_any H39 w39 12 _ _ _ _ (((((((((((((((((((((((((((((((((((((((fb.ext w0 e1).ext w1 e2).ext w2 e3).ext w3 e4).ext w4 e5).ext w5 e6).ext w6 e7).ext w7 e8).ext w8 e9).ext w9 e10).ext w10 e11).ext w11 e12).ext w12 e13).ext w13 e14).ext w14 e15).ext w15 e16).ext w16 e17).ext w17 e18).ext w18 e19).ext w19 e20).ext w20 e21).ext w21 e22).ext w22 e23).ext w23 e24).ext w24 e25).ext w25 e26).ext w26 e27).ext w27 e28).ext w28 e29).ext w29 e30).ext w30 e31).ext w31 e32).ext w32 e33).ext w33 e34).ext w34 e35).ext w35 e36).ext w36 e37).ext w37 e38).ext w38 e39) f39) ?_ ; rintro _ H40 ⟨v40, rfl, f40, e40, w40⟩)
    | (refine Does.mono (bin_any H40 w40 11 _ _ _ _ ((((((((((f30.ext w30 e31).ext w31 e32).ext w32 e33).ext w33 e34).ext w34 e35).ext w35 e36).ext w36 e37).ext w37 e38).ext w38 e39).ext w39 e40) f40) ?_ ; rintro _ H41 ⟨v41, rfl, f41, e41, w41⟩)
    | (refine Does.mono (alike_any H41 w41 _ _ _ _ _ t ((((((((((((((((((((((((((((((((((f7.ext w7 e8).ext w8 e9).ext w9 e10).ext w10 e11).ext w11 e12).ext w12 e13).ext w13 e14).ext w14 e15).ext w15 e16).ext w16 e17).ext w17 e18).ext w18 e19).ext w19 e20).ext w20 e21).ext w21 e22).ext w22 e23).ext w23 e24).ext w24 e25).ext w25 e26).ext w26 e27).ext w27 e28).ext w28 e29).ext w29 e30).ext w30 e31).ext w31 e32).ext w32 e33).ext w33 e34).ext w34 e35).ext w35 e36).ext w36 e37).ext w37 e38).ext w38 e39).ext w39 e40).ext w40 e41) f41 (((((((((((((((((((((((((((((((((((((((((ft.ext w0 e1).ext w1 e2).ext w2 e3).ext w3 e4).ext w4 e5).ext w5 e6).ext w6 e7).ext w7 e8).ext w8 e9).ext w9 e10).ext w10 e11).ext w11 e12).ext w12 e13).ext w13 e14).ext w14 e15).ext w15 e16).ext w16 e17).ext w17 e18).ext w18 e19).ext w19 e20).ext w20 e21).ext w21 e22).ext w22 e23).ext w23 e24).ext w24 e25).ext w25 e26).ext w26 e27).ext w27 e28).ext w28 e29).ext w29 e30).ext w30 e31).ext w31 e32).ext w32 e33).ext w33 e34).ext w34 e35).ext w35 e36).ext w36 e37).ext w37 e38).ext w38 e39).ext w39 e40).ext w40 e41) h256 m9) ?_ ; rintro _ H42 ⟨rfl, e42, w42⟩)
    | (refine Does.mono (un_any H42 w42 8 _ _ ((((((((((((((((((((((((((((((((((f8.ext w8 e9).ext w9 e10).ext w10 e11).ext w11 e12).ext w12 e13).ext w13 e14).ext w14 e15).ext w15 e16).ext w16 e17).ext w17 e18).ext w18 e19).ext w19 e20).ext w20 e21).ext w21 e22).ext w22 e23).ext w23 e24).ext w24 e25).ext w25 e26).ext w26 e27).ext w27 e28).ext w28 e29).ext w29 e30).ext w30 e31).ext w31 e32).ext w32 e33).ext w33 e34).ext w34 e35).ext w35 e36).ext w36 e37).ext w37 e38).ext w38 e39).ext w39 e40).ext w40 e41).ext w41 e42)) ?_ ; rintro _ H43 ⟨v43, rfl, f43, e43, w43⟩)
    | (refine Does.mono (bin_any H43 w43 12 _ _ _ _ (((((((((((((((((((((((((((((((((((((((((((fa.ext w0 e1).ext w1 e2).ext w2 e3).ext w3 e4).ext w4 e5).ext w5 e6).ext w6 e7).ext w7 e8).ext w8 e9).ext w9 e10).ext w10 e11).ext w11 e12).ext w12 e13).ext w13 e14).ext w14 e15).ext w15 e16).ext w16 e17).ext w17 e18).ext w18 e19).ext w19 e20).ext w20 e21).ext w21 e22).ext w22 e23).ext w23 e24).ext w24 e25).ext w25 e26).ext w26 e27).ext w27 e28).ext w28 e29).ext w29 e30).ext w30 e31).ext w31 e32).ext w32 e33).ext w33 e34).ext w34 e35).ext w35 e36).ext w36 e37).ext w37 e38).ext w38 e39).ext w39 e40).ext w40 e41).ext w41 e42).ext w42 e43) f43) ?_ ; rintro _ H44 ⟨v44, rfl, f44, e44, w44⟩)
    | (refine Does.mono (bin_any H44 w44 11 _ _ _ _ ((((((((((((((((((((((((((((((((((((((((((((fb.ext w0 e1).ext w1 e2).ext w2 e3).ext w3 e4).ext w4 e5).ext w5 e6).ext w6 e7).ext w7 e8).ext w8 e9).ext w9 e10).ext w10 e11).ext w11 e12).ext w12 e13).ext w13 e14).ext w14 e15).ext w15 e16).ext w16 e17).ext w17 e18).ext w18 e19).ext w19 e20).ext w20 e21).ext w21 e22).ext w22 e23).ext w23 e24).ext w24 e25).ext w25 e26).ext w26 e27).ext w27 e28).ext w28 e29).ext w29 e30).ext w30 e31).ext w31 e32).ext w32 e33).ext w33 e34).ext w34 e35).ext w35 e36).ext w36 e37).ext w37 e38).ext w38 e39).ext w39 e40).ext w40 e41).ext w41 e42).ext w42 e43).ext w43 e44) f44) ?_ ; rintro _ H45 ⟨v45, rfl, f45, e45, w45⟩)
    | (refine Does.mono (bin_any H45 w45 13 _ _ _ _ (((((((((((((((f30.ext w30 e31).ext w31 e32).ext w32 e33).ext w33 e34).ext w34 e35).ext w35 e36).ext w36 e37).ext w37 e38).ext w38 e39).ext w39 e40).ext w40 e41).ext w41 e42).ext w42 e43).ext w43 e44).ext w44 e45) f45) ?_ ; rintro _ H46 ⟨v46, rfl, f46, e46, w46⟩)
    | (refine Does.mono (alike_any H46 w46 _ _ _ _ _ t ((((((((((((((((((((((((((((((((((((((f8.ext w8 e9).ext w9 e10).ext w10 e11).ext w11 e12).ext w12 e13).ext w13 e14).ext w14 e15).ext w15 e16).ext w16 e17).ext w17 e18).ext w18 e19).ext w19 e20).ext w20 e21).ext w21 e22).ext w22 e23).ext w23 e24).ext w24 e25).ext w25 e26).ext w26 e27).ext w27 e28).ext w28 e29).ext w29 e30).ext w30 e31).ext w31 e32).ext w32 e33).ext w33 e34).ext w34 e35).ext w35 e36).ext w36 e37).ext w37 e38).ext w38 e39).ext w39 e40).ext w40 e41).ext w41 e42).ext w42 e43).ext w43 e44).ext w44 e45).ext w45 e46) f46 ((((((((((((((((((((((((((((((((((((((((((((((ft.ext w0 e1).ext w1 e2).ext w2 e3).ext w3 e4).ext w4 e5).ext w5 e6).ext w6 e7).ext w7 e8).ext w8 e9).ext w9 e10).ext w10 e11).ext w11 e12).ext w12 e13).ext w13 e14).ext w14 e15).ext w15 e16).ext w16 e17).ext w17 e18).ext w18 e19).ext w19 e20).ext w20 e21).ext w21 e22).ext w22 e23).ext w23 e24).ext w24 e25).ext w25 e26).ext w26 e27).ext w27 e28).ext w28 e29).ext w29 e30).ext w30 e31).ext w31 e32).ext w32 e33).ext w33 e34).ext w34 e35).ext w35 e36).ext w36 e37).ext w37 e38).ext w38 e39).ext w39 e40).ext w40 e41).ext w41 e42).ext w42 e43).ext w43 e44).ext w44 e45).ext w45 e46) h256 m10) ?_ ; rintro _ H47 ⟨rfl, e47, w47⟩)
    | fail)
  all_goals (conv => whnf)
  rfl
end Go.AX.Try
