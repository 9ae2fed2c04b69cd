/- MeanPaths. -/
import Derived.Test.YtcalhjlcnapnaaaLPaths
namespace Go.AX.Try
open Go Go.AX Go.AX.Lw Go.Proofs
set_option linter.unusedVariables false
set_option linter.unusedSimpArgs false
set_option maxRecDepth 100000
theorem tk_prop0 : Mn [tokT 0] false fun n t => .at (leafF n t 2 0) := .inr ⟨rfl, fun n t => rfl⟩
theorem meanAt_ok (H : AHeap) (hw : Wf H) (v : Value) (ts : List Tk) (hf : Fm H v ts) (a' : Option Addr) (m c' : Nat) (t : List Nat) (ht : Row H a' m c' (natL t)) (h256 : ∀ x ∈ t, x < 256) (k : Nat) (hk : k ≤ m) (h : allE ts t = 0) :
    Does Try.prog orc 39 [v, .slice a' m c', .int .i64 k] H fun r H' => r = .ret (.tuple #[.bool ((meanV m t ts).pl k), .int .i64 0]) ∧ Ext H H' ∧ Wf H' :=
  (meanAt_any H hw v ts hf a' m c' t ht h256 k hk).mono fun r H' ⟨e, w, hr⟩ => ⟨hr.elim (fun g => absurd h g.1) (fun g => g.2), e, w⟩
theorem meanAt_no (H : AHeap) (hw : Wf H) (v : Value) (ts : List Tk) (hf : Fm H v ts) (a' : Option Addr) (m c' : Nat) (t : List Nat) (ht : Row H a' m c' (natL t)) (h256 : ∀ x ∈ t, x < 256) (k : Nat) (hk : k ≤ m) (h : allE ts t ≠ 0) :
    Does Try.prog orc 39 [v, .slice a' m c', .int .i64 k] H fun r H' => r = .ret (.tuple #[.bool false, .int .i64 (allE ts t)]) ∧ Ext H H' ∧ Wf H' :=
  (meanAt_any H hw v ts hf a' m c' t ht h256 k hk).mono fun r H' ⟨e, w, hr⟩ => ⟨hr.elim (fun g => g.2) (fun g => absurd g.1 h), e, w⟩
theorem endRow {H : AHeap} {a : Option Addr} {n c : Nat} {xs : List Nat} (h : RowS H a n c 1 (xs.map cN)) {i k : Nat} (hx : xs[i]? = some k) : ∃ b o st, a = some ⟨b, o, st⟩ ∧ cellAt H b (o + i) = some (.int .i64 k) := by
  obtain ⟨b, o, st, ha, hc⟩ := h.cell i (cN k) (by simp [hx])
  refine ⟨b, o, st, ha, ?_⟩
  have := cellsAt_cell hc (j := 0) (v := .int .i64 k) rfl
  simpa using this
theorem insF_get {g : Nat → Bool} {n j e : Nat} (h : (insF g n)[j]? = some e) : e < n ∧ g e = true := by
  have := List.mem_of_getElem? h
  unfold insF at this
  rw [List.mem_filter, List.mem_range] at this
  exact this
theorem insF_up {g : Nat → Bool} {n j e e' : Nat} (h : (insF g n)[j]? = some e) (h' : (insF g n)[j + 1]? = some e') : e < e' := by
  have hp : (insF g n).Pairwise (· < ·) := List.Pairwise.filter _ List.pairwise_lt_range
  rw [List.pairwise_iff_getElem] at hp
  obtain ⟨h1, rfl⟩ := List.getElem?_eq_some_iff.1 h
  obtain ⟨h2, rfl⟩ := List.getElem?_eq_some_iff.1 h'
  exact hp j (j + 1) h1 h2 (by omega)
theorem ends_in {m : Nat} {x : Sm} {R : Nat → Nat → Prop} (hR : RelOk m x R) {k : Nat} (hk : k ≤ m) {j e : Nat} (h : (insF (x.on fun i => decide (i = k)) (m + 1))[j]? = some e) : k ≤ e ∧ e ≤ m := by
  obtain ⟨h1, h2⟩ := insF_get h
  obtain ⟨i, hi, hr, hd⟩ := (hR.on _ e (by omega)).1 h2
  have := of_decide_eq_true hd
  subst this
  exact ⟨hR.le _ _ hr, by omega⟩
theorem ends_back {m : Nat} {x : Sm} {R : Nat → Nat → Prop} (hR : RelOk m x R) {k : Nat} (hk : k ≤ m) (s : Nat → Bool) : (insF (x.on fun i => decide (i = k)) (m + 1)).any s = x.back s k := by
  refine Bool.eq_iff_iff.2 ?_
  rw [List.any_eq_true, hR.back s k hk]
  constructor
  · rintro ⟨e, he, hs⟩
    unfold insF at he
    rw [List.mem_filter, List.mem_range] at he
    obtain ⟨i, hi, hr, hd⟩ := (hR.on _ e (by omega)).1 he.2
    have := of_decide_eq_true hd
    subst this
    exact ⟨e, by omega, hr, hs⟩
  · rintro ⟨e, he, hr, hs⟩
    refine ⟨e, ?_, hs⟩
    unfold insF
    rw [List.mem_filter, List.mem_range]
    exact ⟨by omega, (hR.on _ e he).2 ⟨k, hk, hr, decide_eq_true rfl⟩⟩
set_option maxHeartbeats 16000000 in
theorem meanPaths_any (H : AHeap) (hw : Wf H) (vp vq vf vt : Value) (p q f : List Tk) (t : List Nat) (fp : Fm H vp p) (fq : Fm H vq q) (ff : Fm H vf f) (ft : Tr H vt t) (h256 : ∀ x ∈ t, x < 256) (z : Int) :
    Does Try.prog orc 11 [vp, vq, vf, vt, .int .i64 z] H fun r H' => r = .ret (.bool true) := by
  refine Does.of Try.func11 (fun _ _ => rfl) rfl ?_
  have sm : ∀ (H : AHeap) (hw : Wf H) (v : Value) (ts : List Tk), Fm H v ts → Tr H vt t → Does Try.prog orc 14 [v, vt] H fun r H' => ∃ b, r = .ret (.bool b) ∧ (b = true → termF ts false = 0 ∧ t.length ≤ 16) ∧ Ext H H' ∧ Wf H' := fun H hw v ts hf ht => by
    obtain ⟨a1, n1, c1, rfl, hr1⟩ := hf
    obtain ⟨a3, m, c3, hv, hr3⟩ := ht
    have hlm := hr3.len; simp at hlm
    rw [hv]
    exact (small_any H hw a1 n1 c1 ts hr1 a3 m c3).mono fun r H' ⟨b, h1, h2, h3, h4⟩ => ⟨b, h1, fun h => ⟨(h2 h).2.2, by have := (h2 h).2.1; omega⟩, h3, h4⟩
  have bs0 : aBuildSlice Try.prog 54 1 [(0, .int .i64 ((100 : Nat) : Int))] = mkSlice [.int .i64 ((100 : Nat) : Int)] 1 1 := by kernel_rfl
  have bsZ : aBuildSlice Try.prog 54 1 [(0, .int .i64 ((0 : Nat) : Int))] = mkSlice [.int .i64 ((0 : Nat) : Int)] 1 1 := by kernel_rfl
  repeat' ((conv => whnf); first
    | (refine Both.intro ?_ ?_ <;> intro _ <;> try (exfalso; omega))
    | (refine Need.intro (by omega) ?_)
    | (refine Does.mono (awake7_any H) ?_ ; rintro _ _ ⟨rfl, rfl⟩)
    | (refine Does.mono (path_any7 H hw vp p fp) ?_ ; rintro _ H1 ⟨b1, rfl, hb1, e1, w1⟩)
    | fail)
  all_goals (conv => whnf)
  refine Br_split (fun hbt => ?_) (fun hbf => ?_)
  case refine_2 =>
    repeat' ((conv => whnf); first
      | (refine Both.intro ?_ ?_ <;> intro _ <;> try (exfalso; omega))
      | (refine Need.intro (by omega) ?_)
      | fail)
    all_goals (conv => whnf)
    rfl
  have hp0 := hb1 hbt
  repeat' ((conv => whnf); first
    | (refine Both.intro ?_ ?_ <;> intro _ <;> try (exfalso; omega))
    | (refine Need.intro (by omega) ?_)
    | (refine Does.mono (path_any7 H1 w1 vq q (fq.ext hw e1)) ?_ ; rintro _ H2 ⟨b2, rfl, hb2, e2, w2⟩)
    | fail)
  all_goals (conv => whnf)
  refine Br_split (fun hbt2 => ?_) (fun hbf2 => ?_)
  case refine_2 =>
    repeat' ((conv => whnf); first
      | (refine Both.intro ?_ ?_ <;> intro _ <;> try (exfalso; omega))
      | (refine Need.intro (by omega) ?_)
      | fail)
    all_goals (conv => whnf)
    rfl
  have hq0 := hb2 hbt2
  repeat' ((conv => whnf); first
    | (refine Both.intro ?_ ?_ <;> intro _ <;> try (exfalso; omega))
    | (refine Need.intro (by omega) ?_)
    | (refine Does.mono (sm H2 w2 vf f ((ff.ext hw e1).ext w1 e2) ((ft.ext hw e1).ext w1 e2)) ?_ ; rintro _ H3 ⟨b3, rfl, hb3, e3, w3⟩)
    | fail)
  all_goals (conv => whnf)
  refine Br_split (fun hbt3 => ?_) (fun hbf3 => ?_)
  case refine_2 =>
    repeat' ((conv => whnf); first
      | (refine Both.intro ?_ ?_ <;> intro _ <;> try (exfalso; omega))
      | (refine Need.intro (by omega) ?_)
      | fail)
    all_goals (conv => whnf)
    rfl
  obtain ⟨hf0, h16⟩ := hb3 hbt3
  have w0 := hw
  have kp := (termF_kinds hp0).1
  have kq := (termF_kinds hq0).1
  have kf := (termF_kinds hf0).1
  have mp := Mn.of kp
  have mq := Mn.of kq
  have mf := Mn.of kf
  have mdia := bin_mn (op := 17) mp mf rfl
  have mstar := un_mn (op := 23) mp rfl
  obtain ⟨R, hR⟩ := path_rel t.length t kp
  have m1 := mn_alike (bin_mn (op := 18) mp mf rfl) (un_mn (op := 6) (bin_mn (op := 17) mp (un_mn (op := 6) mf rfl) rfl) rfl) t fun i hi => rfl
  have m2 := mn_alike (bin_mn (op := 17) (bin_mn (op := 21) mp mq rfl) mf rfl) (bin_mn (op := 12) mdia (bin_mn (op := 17) mq mf rfl) rfl) t fun i hi => rfl
  have m3 := mn_alike (bin_mn (op := 17) (bin_mn (op := 22) mp mq rfl) mf rfl) (bin_mn (op := 17) mp (bin_mn (op := 17) mq mf rfl) rfl) t fun i hi => rfl
  have m4 := mn_alike (bin_mn (op := 17) mstar mf rfl) (bin_mn (op := 12) mf (bin_mn (op := 17) mp (bin_mn (op := 17) mstar mf rfl) rfl) rfl) t fun i hi => star_eq hR (meanV t.length t f).pl i (by omega)
  have m5 := mn_alike (bin_mn (op := 17) (un_mn (op := 20) mf rfl) tk_prop0 rfl) (bin_mn (op := 11) mf tk_prop0 rfl) t fun i hi => rfl
  have m6 := mn_alike (bin_mn (op := 17) (un_mn (op := 19) tk_prop0 rfl) mf rfl) (bin_mn (op := 11) tk_prop0 (bin_mn (op := 17) (un_mn (op := 19) (tk_leaf (op := 0) (by decide) (by decide)) rfl) mf rfl) rfl) t fun i hi => by
    show (decide (i < t.length) && leafF t.length t 2 0 i && (meanV t.length t f).pl (i + 1)) = (leafF t.length t 2 0 i && (decide (i < t.length) && leafF t.length t 0 0 i && (meanV t.length t f).pl (i + 1)))
    show _ = (leafF t.length t 2 0 i && (decide (i < t.length) && true && (meanV t.length t f).pl (i + 1)))
    cases decide (i < t.length) <;> cases leafF t.length t 2 0 i <;> simp
  repeat' ((conv => whnf); first
    | (refine Both.intro ?_ ?_ <;> intro _ <;> try (exfalso; omega))
    | (refine Need.intro (by omega) ?_)
    | (refine Does.mono (bin_any H3 w3 17 _ _ _ _ (((fp.ext w0 e1).ext w1 e2).ext w2 e3) (((ff.ext w0 e1).ext w1 e2).ext w2 e3)) ?_ ; rintro _ H4 ⟨v4, rfl, f4, e4, w4⟩)
    | (refine Does.mono (un_any H4 w4 23 _ _ ((((fp.ext w0 e1).ext w1 e2).ext w2 e3).ext w3 e4)) ?_ ; rintro _ H5 ⟨v5, rfl, f5, e5, w5⟩)
    | (refine Does.mono (bin_any H5 w5 18 _ _ _ _ (((((fp.ext w0 e1).ext w1 e2).ext w2 e3).ext w3 e4).ext w4 e5) (((((ff.ext w0 e1).ext w1 e2).ext w2 e3).ext w3 e4).ext w4 e5)) ?_ ; rintro _ H6 ⟨v6, rfl, f6, e6, w6⟩)
    | (refine Does.mono (un_any H6 w6 6 _ _ ((((((ff.ext w0 e1).ext w1 e2).ext w2 e3).ext w3 e4).ext w4 e5).ext w5 e6)) ?_ ; rintro _ H7 ⟨v7, rfl, f7, e7, w7⟩)
    | (refine Does.mono (bin_any H7 w7 17 _ _ _ _ (((((((fp.ext w0 e1).ext w1 e2).ext w2 e3).ext w3 e4).ext w4 e5).ext w5 e6).ext w6 e7) f7) ?_ ; rintro _ H8 ⟨v8, rfl, f8, e8, w8⟩)
    | (refine Does.mono (un_any H8 w8 6 _ _ f8) ?_ ; rintro _ H9 ⟨v9, rfl, f9, e9, w9⟩)
    | (refine Does.mono (alike_any H9 w9 _ _ _ _ _ t (((f6.ext w6 e7).ext w7 e8).ext w8 e9) f9 (((((((((ft.ext w0 e1).ext w1 e2).ext w2 e3).ext w3 e4).ext w4 e5).ext w5 e6).ext w6 e7).ext w7 e8).ext w8 e9) h256 m1) ?_ ; rintro _ H10 ⟨rfl, e10, w10⟩)
    | (refine Does.mono (bin_any H10 w10 21 _ _ _ _ ((((((((((fp.ext w0 e1).ext w1 e2).ext w2 e3).ext w3 e4).ext w4 e5).ext w5 e6).ext w6 e7).ext w7 e8).ext w8 e9).ext w9 e10) ((((((((((fq.ext w0 e1).ext w1 e2).ext w2 e3).ext w3 e4).ext w4 e5).ext w5 e6).ext w6 e7).ext w7 e8).ext w8 e9).ext w9 e10)) ?_ ; rintro _ H11 ⟨v11, rfl, f11, e11, w11⟩)
    | (refine Does.mono (bin_any H11 w11 17 _ _ _ _ f11 (((((((((((ff.ext w0 e1).ext w1 e2).ext w2 e3).ext w3 e4).ext w4 e5).ext w5 e6).ext w6 e7).ext w7 e8).ext w8 e9).ext w9 e10).ext w10 e11)) ?_ ; rintro _ H12 ⟨v12, rfl, f12, e12, w12⟩)
    | (refine Does.mono (bin_any H12 w12 17 _ _ _ _ ((((((((((((fq.ext w0 e1).ext w1 e2).ext w2 e3).ext w3 e4).ext w4 e5).ext w5 e6).ext w6 e7).ext w7 e8).ext w8 e9).ext w9 e10).ext w10 e11).ext w11 e12) ((((((((((((ff.ext w0 e1).ext w1 e2).ext w2 e3).ext w3 e4).ext w4 e5).ext w5 e6).ext w6 e7).ext w7 e8).ext w8 e9).ext w9 e10).ext w10 e11).ext w11 e12)) ?_ ; rintro _ H13 ⟨v13, rfl, f13, e13, w13⟩)
    | (refine Does.mono (bin_any H13 w13 12 _ _ _ _ (((((((((f4.ext w4 e5).ext w5 e6).ext w6 e7).ext w7 e8).ext w8 e9).ext w9 e10).ext w10 e11).ext w11 e12).ext w12 e13) f13) ?_ ; rintro _ H14 ⟨v14, rfl, f14, e14, w14⟩)
    | (refine Does.mono (alike_any H14 w14 _ _ _ _ _ t ((f12.ext w12 e13).ext w13 e14) f14 ((((((((((((((ft.ext w0 e1).ext w1 e2).ext w2 e3).ext w3 e4).ext w4 e5).ext w5 e6).ext w6 e7).ext w7 e8).ext w8 e9).ext w9 e10).ext w10 e11).ext w11 e12).ext w12 e13).ext w13 e14) h256 m2) ?_ ; rintro _ H15 ⟨rfl, e15, w15⟩)
    | (refine Does.mono (bin_any H15 w15 22 _ _ _ _ (((((((((((((((fp.ext w0 e1).ext w1 e2).ext w2 e3).ext w3 e4).ext w4 e5).ext w5 e6).ext w6 e7).ext w7 e8).ext w8 e9).ext w9 e10).ext w10 e11).ext w11 e12).ext w12 e13).ext w13 e14).ext w14 e15) (((((((((((((((fq.ext w0 e1).ext w1 e2).ext w2 e3).ext w3 e4).ext w4 e5).ext w5 e6).ext w6 e7).ext w7 e8).ext w8 e9).ext w9 e10).ext w10 e11).ext w11 e12).ext w12 e13).ext w13 e14).ext w14 e15)) ?_ ; rintro _ H16 ⟨v16, rfl, f16, e16, w16⟩)
    | (refine Does.mono (bin_any H16 w16 17 _ _ _ _ f16 ((((((((((((((((ff.ext w0 e1).ext w1 e2).ext w2 e3).ext w3 e4).ext w4 e5).ext w5 e6).ext w6 e7).ext w7 e8).ext w8 e9).ext w9 e10).ext w10 e11).ext w11 e12).ext w12 e13).ext w13 e14).ext w14 e15).ext w15 e16)) ?_ ; rintro _ H17 ⟨v17, rfl, f17, e17, w17⟩)
    | (refine Does.mono (bin_any H17 w17 17 _ _ _ _ (((((((((((((((((fq.ext w0 e1).ext w1 e2).ext w2 e3).ext w3 e4).ext w4 e5).ext w5 e6).ext w6 e7).ext w7 e8).ext w8 e9).ext w9 e10).ext w10 e11).ext w11 e12).ext w12 e13).ext w13 e14).ext w14 e15).ext w15 e16).ext w16 e17) (((((((((((((((((ff.ext w0 e1).ext w1 e2).ext w2 e3).ext w3 e4).ext w4 e5).ext w5 e6).ext w6 e7).ext w7 e8).ext w8 e9).ext w9 e10).ext w10 e11).ext w11 e12).ext w12 e13).ext w13 e14).ext w14 e15).ext w15 e16).ext w16 e17)) ?_ ; rintro _ H18 ⟨v18, rfl, f18, e18, w18⟩)
    | (refine Does.mono (bin_any H18 w18 17 _ _ _ _ ((((((((((((((((((fp.ext w0 e1).ext w1 e2).ext w2 e3).ext w3 e4).ext w4 e5).ext w5 e6).ext w6 e7).ext w7 e8).ext w8 e9).ext w9 e10).ext w10 e11).ext w11 e12).ext w12 e13).ext w13 e14).ext w14 e15).ext w15 e16).ext w16 e17).ext w17 e18) f18) ?_ ; rintro _ H19 ⟨v19, rfl, f19, e19, w19⟩)
    | (refine Does.mono (alike_any H19 w19 _ _ _ _ _ t ((f17.ext w17 e18).ext w18 e19) f19 (((((((((((((((((((ft.ext w0 e1).ext w1 e2).ext w2 e3).ext w3 e4).ext w4 e5).ext w5 e6).ext w6 e7).ext w7 e8).ext w8 e9).ext w9 e10).ext w10 e11).ext w11 e12).ext w12 e13).ext w13 e14).ext w14 e15).ext w15 e16).ext w16 e17).ext w17 e18).ext w18 e19) h256 m3) ?_ ; rintro _ H20 ⟨rfl, e20, w20⟩)
    | (refine Does.mono (bin_any H20 w20 17 _ _ _ _ (((((((((((((((f5.ext w5 e6).ext w6 e7).ext w7 e8).ext w8 e9).ext w9 e10).ext w10 e11).ext w11 e12).ext w12 e13).ext w13 e14).ext w14 e15).ext w15 e16).ext w16 e17).ext w17 e18).ext w18 e19).ext w19 e20) ((((((((((((((((((((ff.ext w0 e1).ext w1 e2).ext w2 e3).ext w3 e4).ext w4 e5).ext w5 e6).ext w6 e7).ext w7 e8).ext w8 e9).ext w9 e10).ext w10 e11).ext w11 e12).ext w12 e13).ext w13 e14).ext w14 e15).ext w15 e16).ext w16 e17).ext w17 e18).ext w18 e19).ext w19 e20)) ?_ ; rintro _ H21 ⟨v21, rfl, f21, e21, w21⟩)
    | (refine Does.mono (bin_any H21 w21 17 _ _ _ _ ((((((((((((((((f5.ext w5 e6).ext w6 e7).ext w7 e8).ext w8 e9).ext w9 e10).ext w10 e11).ext w11 e12).ext w12 e13).ext w13 e14).ext w14 e15).ext w15 e16).ext w16 e17).ext w17 e18).ext w18 e19).ext w19 e20).ext w20 e21) (((((((((((((((((((((ff.ext w0 e1).ext w1 e2).ext w2 e3).ext w3 e4).ext w4 e5).ext w5 e6).ext w6 e7).ext w7 e8).ext w8 e9).ext w9 e10).ext w10 e11).ext w11 e12).ext w12 e13).ext w13 e14).ext w14 e15).ext w15 e16).ext w16 e17).ext w17 e18).ext w18 e19).ext w19 e20).ext w20 e21)) ?_ ; rintro _ H22 ⟨v22, rfl, f22, e22, w22⟩)
    | (refine Does.mono (bin_any H22 w22 17 _ _ _ _ ((((((((((((((((((((((fp.ext w0 e1).ext w1 e2).ext w2 e3).ext w3 e4).ext w4 e5).ext w5 e6).ext w6 e7).ext w7 e8).ext w8 e9).ext w9 e10).ext w10 e11).ext w11 e12).ext w12 e13).ext w13 e14).ext w14 e15).ext w15 e16).ext w16 e17).ext w17 e18).ext w18 e19).ext w19 e20).ext w20 e21).ext w21 e22) f22) ?_ ; rintro _ H23 ⟨v23, rfl, f23, e23, w23⟩)
    | (refine Does.mono (bin_any H23 w23 12 _ _ _ _ (((((((((((((((((((((((ff.ext w0 e1).ext w1 e2).ext w2 e3).ext w3 e4).ext w4 e5).ext w5 e6).ext w6 e7).ext w7 e8).ext w8 e9).ext w9 e10).ext w10 e11).ext w11 e12).ext w12 e13).ext w13 e14).ext w14 e15).ext w15 e16).ext w16 e17).ext w17 e18).ext w18 e19).ext w19 e20).ext w20 e21).ext w21 e22).ext w22 e23) f23) ?_ ; rintro _ H24 ⟨v24, rfl, f24, e24, w24⟩)
    | (refine Does.mono (alike_any H24 w24 _ _ _ _ _ t (((f21.ext w21 e22).ext w22 e23).ext w23 e24) f24 ((((((((((((((((((((((((ft.ext w0 e1).ext w1 e2).ext w2 e3).ext w3 e4).ext w4 e5).ext w5 e6).ext w6 e7).ext w7 e8).ext w8 e9).ext w9 e10).ext w10 e11).ext w11 e12).ext w12 e13).ext w13 e14).ext w14 e15).ext w15 e16).ext w16 e17).ext w17 e18).ext w18 e19).ext w19 e20).ext w20 e21).ext w21 e22).ext w22 e23).ext w23 e24) h256 m4) ?_ ; rintro _ H25 ⟨rfl, e25, w25⟩)
    | (refine Does.mono (un_any H25 w25 20 _ _ (((((((((((((((((((((((((ff.ext w0 e1).ext w1 e2).ext w2 e3).ext w3 e4).ext w4 e5).ext w5 e6).ext w6 e7).ext w7 e8).ext w8 e9).ext w9 e10).ext w10 e11).ext w11 e12).ext w12 e13).ext w13 e14).ext w14 e15).ext w15 e16).ext w16 e17).ext w17 e18).ext w18 e19).ext w19 e20).ext w20 e21).ext w21 e22).ext w22 e23).ext w23 e24).ext w24 e25)) ?_ ; rintro _ H26 ⟨v26, rfl, f26, e26, w26⟩)
    | (refine ⟨_, bsZ, ?_⟩)
    | (refine Does.mono (TOp_any H26 w26 0 (by decide) bsZ) ?_ ; rintro _ H27 ⟨v27, rfl, f27, e27, w27⟩)
    | (refine Does.mono (bin_any H27 w27 17 _ _ _ _ (f26.ext w26 e27) f27) ?_ ; rintro _ H28 ⟨v28, rfl, f28, e28, w28⟩)
    | (refine ⟨_, bsZ, ?_⟩)
    | (refine Does.mono (TOp_any H28 w28 0 (by decide) bsZ) ?_ ; rintro _ H29 ⟨v29, rfl, f29, e29, w29⟩)
    | (refine Does.mono (bin_any H29 w29 11 _ _ _ _ (((((((((((((((((((((((((((((ff.ext w0 e1).ext w1 e2).ext w2 e3).ext w3 e4).ext w4 e5).ext w5 e6).ext w6 e7).ext w7 e8).ext w8 e9).ext w9 e10).ext w10 e11).ext w11 e12).ext w12 e13).ext w13 e14).ext w14 e15).ext w15 e16).ext w16 e17).ext w17 e18).ext w18 e19).ext w19 e20).ext w20 e21).ext w21 e22).ext w22 e23).ext w23 e24).ext w24 e25).ext w25 e26).ext w26 e27).ext w27 e28).ext w28 e29) f29) ?_ ; rintro _ H30 ⟨v30, rfl, f30, e30, w30⟩)
    | (refine Does.mono (alike_any H30 w30 _ _ _ _ _ t ((f28.ext w28 e29).ext w29 e30) f30 ((((((((((((((((((((((((((((((ft.ext w0 e1).ext w1 e2).ext w2 e3).ext w3 e4).ext w4 e5).ext w5 e6).ext w6 e7).ext w7 e8).ext w8 e9).ext w9 e10).ext w10 e11).ext w11 e12).ext w12 e13).ext w13 e14).ext w14 e15).ext w15 e16).ext w16 e17).ext w17 e18).ext w18 e19).ext w19 e20).ext w20 e21).ext w21 e22).ext w22 e23).ext w23 e24).ext w24 e25).ext w25 e26).ext w26 e27).ext w27 e28).ext w28 e29).ext w29 e30) h256 m5) ?_ ; rintro _ H31 ⟨rfl, e31, w31⟩)
    | (refine ⟨_, bsZ, ?_⟩)
    | (refine Does.mono (TOp_any H31 w31 0 (by decide) bsZ) ?_ ; rintro _ H32 ⟨v32, rfl, f32, e32, w32⟩)
    | (refine Does.mono (un_any H32 w32 19 _ _ f32) ?_ ; rintro _ H33 ⟨v33, rfl, f33, e33, w33⟩)
    | (refine Does.mono (bin_any H33 w33 17 _ _ _ _ f33 (((((((((((((((((((((((((((((((((ff.ext w0 e1).ext w1 e2).ext w2 e3).ext w3 e4).ext w4 e5).ext w5 e6).ext w6 e7).ext w7 e8).ext w8 e9).ext w9 e10).ext w10 e11).ext w11 e12).ext w12 e13).ext w13 e14).ext w14 e15).ext w15 e16).ext w16 e17).ext w17 e18).ext w18 e19).ext w19 e20).ext w20 e21).ext w21 e22).ext w22 e23).ext w23 e24).ext w24 e25).ext w25 e26).ext w26 e27).ext w27 e28).ext w28 e29).ext w29 e30).ext w30 e31).ext w31 e32).ext w32 e33)) ?_ ; rintro _ H34 ⟨v34, rfl, f34, e34, w34⟩)
    | (refine ⟨_, bsZ, ?_⟩)
    | (refine Does.mono (TOp_any H34 w34 0 (by decide) bsZ) ?_ ; rintro _ H35 ⟨v35, rfl, f35, e35, w35⟩)
    | (refine Does.mono (Op_any H35 0 (by decide)) ?_ ; rintro _ _ ⟨rfl, rfl⟩)
    | (refine ⟨_, bs0, ?_⟩)
    | (refine Does.mono (TOp_any H35 w35 100 (by decide) bs0) ?_ ; rintro _ H36 ⟨v36, rfl, f36, e36, w36⟩)
    | (refine Does.mono (un_any H36 w36 19 _ _ f36) ?_ ; rintro _ H37 ⟨v37, rfl, f37, e37, w37⟩)
    | (refine Does.mono (bin_any H37 w37 17 _ _ _ _ f37 (((((((((((((((((((((((((((((((((((((ff.ext w0 e1).ext w1 e2).ext w2 e3).ext w3 e4).ext w4 e5).ext w5 e6).ext w6 e7).ext w7 e8).ext w8 e9).ext w9 e10).ext w10 e11).ext w11 e12).ext w12 e13).ext w13 e14).ext w14 e15).ext w15 e16).ext w16 e17).ext w17 e18).ext w18 e19).ext w19 e20).ext w20 e21).ext w21 e22).ext w22 e23).ext w23 e24).ext w24 e25).ext w25 e26).ext w26 e27).ext w27 e28).ext w28 e29).ext w29 e30).ext w30 e31).ext w31 e32).ext w32 e33).ext w33 e34).ext w34 e35).ext w35 e36).ext w36 e37)) ?_ ; rintro _ H38 ⟨v38, rfl, f38, e38, w38⟩)
    | (refine Does.mono (bin_any H38 w38 11 _ _ _ _ (((f35.ext w35 e36).ext w36 e37).ext w37 e38) f38) ?_ ; rintro _ H39 ⟨v39, rfl, f39, e39, w39⟩)
    | (refine Does.mono (alike_any H39 w39 _ _ _ _ _ t (((((f34.ext w34 e35).ext w35 e36).ext w36 e37).ext w37 e38).ext w38 e39) f39 (((((((((((((((((((((((((((((((((((((((ft.ext w0 e1).ext w1 e2).ext w2 e3).ext w3 e4).ext w4 e5).ext w5 e6).ext w6 e7).ext w7 e8).ext w8 e9).ext w9 e10).ext w10 e11).ext w11 e12).ext w12 e13).ext w13 e14).ext w14 e15).ext w15 e16).ext w16 e17).ext w17 e18).ext w18 e19).ext w19 e20).ext w20 e21).ext w21 e22).ext w22 e23).ext w23 e24).ext w24 e25).ext w25 e26).ext w26 e27).ext w27 e28).ext w28 e29).ext w29 e30).ext w30 e31).ext w31 e32).ext w32 e33).ext w33 e34).ext w34 e35).ext w35 e36).ext w36 e37).ext w37 e38).ext w38 e39) h256 m6) ?_ ; rintro _ H40 ⟨rfl, e40, w40⟩)
    | fail)
  all_goals (conv => whnf)
  have fpL := ((((((((((((((((((((((((((((((((((((((((fp.ext w0 e1).ext w1 e2).ext w2 e3).ext w3 e4).ext w4 e5).ext w5 e6).ext w6 e7).ext w7 e8).ext w8 e9).ext w9 e10).ext w10 e11).ext w11 e12).ext w12 e13).ext w13 e14).ext w14 e15).ext w15 e16).ext w16 e17).ext w17 e18).ext w18 e19).ext w19 e20).ext w20 e21).ext w21 e22).ext w22 e23).ext w23 e24).ext w24 e25).ext w25 e26).ext w26 e27).ext w27 e28).ext w28 e29).ext w29 e30).ext w30 e31).ext w31 e32).ext w32 e33).ext w33 e34).ext w34 e35).ext w35 e36).ext w36 e37).ext w37 e38).ext w38 e39).ext w39 e40)
  have ffL := ((((((((((((((((((((((((((((((((((((((((ff.ext w0 e1).ext w1 e2).ext w2 e3).ext w3 e4).ext w4 e5).ext w5 e6).ext w6 e7).ext w7 e8).ext w8 e9).ext w9 e10).ext w10 e11).ext w11 e12).ext w12 e13).ext w13 e14).ext w14 e15).ext w15 e16).ext w16 e17).ext w17 e18).ext w18 e19).ext w19 e20).ext w20 e21).ext w21 e22).ext w22 e23).ext w23 e24).ext w24 e25).ext w25 e26).ext w26 e27).ext w27 e28).ext w28 e29).ext w29 e30).ext w30 e31).ext w31 e32).ext w32 e33).ext w33 e34).ext w34 e35).ext w35 e36).ext w36 e37).ext w37 e38).ext w38 e39).ext w39 e40)
  have ftL := ((((((((((((((((((((((((((((((((((((((((ft.ext w0 e1).ext w1 e2).ext w2 e3).ext w3 e4).ext w4 e5).ext w5 e6).ext w6 e7).ext w7 e8).ext w8 e9).ext w9 e10).ext w10 e11).ext w11 e12).ext w12 e13).ext w13 e14).ext w14 e15).ext w15 e16).ext w16 e17).ext w17 e18).ext w18 e19).ext w19 e20).ext w20 e21).ext w21 e22).ext w22 e23).ext w23 e24).ext w24 e25).ext w25 e26).ext w26 e27).ext w27 e28).ext w28 e29).ext w29 e30).ext w30 e31).ext w31 e32).ext w32 e33).ext w33 e34).ext w34 e35).ext w35 e36).ext w36 e37).ext w37 e38).ext w38 e39).ext w39 e40)
  have fdL := ((((((((((((((((((((((((((((((((((((f4.ext w4 e5).ext w5 e6).ext w6 e7).ext w7 e8).ext w8 e9).ext w9 e10).ext w10 e11).ext w11 e12).ext w12 e13).ext w13 e14).ext w14 e15).ext w15 e16).ext w16 e17).ext w17 e18).ext w18 e19).ext w19 e20).ext w20 e21).ext w21 e22).ext w22 e23).ext w23 e24).ext w24 e25).ext w25 e26).ext w26 e27).ext w27 e28).ext w28 e29).ext w29 e30).ext w30 e31).ext w31 e32).ext w32 e33).ext w33 e34).ext w34 e35).ext w35 e36).ext w36 e37).ext w37 e38).ext w38 e39).ext w39 e40)
  obtain ⟨ap, np, cp, rfl, rp⟩ := fpL
  obtain ⟨af, nf, cf, rfl, rf⟩ := ffL
  obtain ⟨at1, m, ct, rfl, rt⟩ := ftL
  obtain ⟨ad, nd, cd, hvd, rd⟩ := fdL
  have hlm := rt.len; simp at hlm
  have hallf : allE f t = 0 := by unfold allE meanE traceF; rw [if_pos hf0, if_neg (by omega)]
  have hallp : meanE (termF p true) t = 0 := by unfold meanE traceF; rw [if_pos hp0, if_neg (by omega)]
  subst hlm
  have hdia : allE (binF 17 p f) t = 0 → (meanV t.length t (binF 17 p f)).pl = (meanV t.length t p).back (meanV t.length t f).pl := fun hd => by
    rcases mdia with h | ⟨_, h⟩
    · exact absurd hd (by rw [h]; exact allE_nil t)
    · rw [h]; rfl
  have fdL : Fm H40 v4 (binF 17 p f) := ⟨ad, nd, cd, hvd, rd⟩
  by_cases hd : allE (binF 17 p f) t = 0
  case neg =>
    repeat' ((conv => whnf); first
      | (refine Both.intro ?_ ?_ <;> intro _ <;> try (exfalso; omega))
      | (refine Need.intro (by omega) ?_)
      | (refine Does.mono (pick_any H40 z (t.length + 1) (by omega)) ?_ ; rintro _ _ ⟨k, rfl, hk, rfl⟩)
      | (refine Does.mono (ends_any H40 w40 _ p ⟨ap, np, cp, rfl, rp⟩ at1 t.length ct t rt h256 k (by omega) hallp hp0 (by omega)) ?_ ; rintro _ H41 ⟨e41, w41, ao, en, ec, rfl, re⟩)
      | (refine Does.mono (meanAll_ok H41 w41 af nf cf f (rf.ext w40 e41) at1 _ ct t (rt.ext w40 e41) h256 hallf) ?_ ; rintro _ H42 ⟨e42, w42, bv, rfl, hbv, rv⟩)
      | (refine Does.mono (meanAt_no H42 w42 v4 (binF 17 p f) ((fdL.ext w40 e41).ext w41 e42) at1 t.length ct t ((rt.ext w40 e41).ext w41 e42) h256 k (by omega) hd) ?_ ; rintro _ H43 ⟨rfl, e43, w43⟩)
      | fail)
    all_goals (conv => whnf)
    rfl
  repeat' ((conv => whnf); first
    | (refine Both.intro ?_ ?_ <;> intro _ <;> try (exfalso; omega))
    | (refine Need.intro (by omega) ?_)
    | (refine Does.mono (pick_any H40 z (t.length + 1) (by omega)) ?_ ; rintro _ _ ⟨k, rfl, hk, rfl⟩)
    | (refine Does.mono (ends_any H40 w40 _ p ⟨ap, np, cp, rfl, rp⟩ at1 t.length ct t rt h256 k (by omega) hallp hp0 (by omega)) ?_ ; rintro _ H41 ⟨e41, w41, ao, en, ec, rfl, re⟩)
    | (refine Does.mono (meanAll_ok H41 w41 af nf cf f (rf.ext w40 e41) at1 _ ct t (rt.ext w40 e41) h256 hallf) ?_ ; rintro _ H42 ⟨e42, w42, bv, rfl, hbv, rv⟩)
    | (refine Does.mono (meanAt_ok H42 w42 v4 (binF 17 p f) ((fdL.ext w40 e41).ext w41 e42) at1 t.length ct t ((rt.ext w40 e41).ext w41 e42) h256 k (by omega) hd) ?_ ; rintro _ H43 ⟨rfl, e43, w43⟩)
    | fail)
  all_goals (conv => whnf)
  rw [hdia hd]
  have hback := ends_back hR (k := k) (by omega) (meanV t.length t f).pl
  have hE : ∀ (j e : Nat), (insF ((meanV t.length t p).on fun i => decide (i = k)) (t.length + 1))[j]? = some e → k ≤ e ∧ e ≤ t.length := fun j e h => ends_in hR (by omega) h
  have hU : ∀ (j e e' : Nat), (insF ((meanV t.length t p).on fun i => decide (i = k)) (t.length + 1))[j]? = some e → (insF ((meanV t.length t p).on fun i => decide (i = k)) (t.length + 1))[j + 1]? = some e' → e < e' := fun j e e' h h' => insF_up h h'
  have hen := re.len
  rw [List.length_map] at hen
  have hel := insF_len ((meanV t.length t p).on fun i => decide (i = k)) (t.length + 1)
  have re3 := (re.ext w41 e42).ext w42 e43
  have rv3 := rv.ext w42 e43
  generalize insF ((meanV t.length t p).on fun i => decide (i = k)) (t.length + 1) = E at hback hE hU hen re3 hel
  rw [← hback]
  generalize (meanV t.length t f).pl = V at rv3 ⊢
  subst hen
  have hcap := re3.cap
  have heq : ∀ x : Bool, aBin Try.prog .eql 4 false false (.bool x) (.bool x) = some (.bool true) := fun x => by cases x <;> rfl
  refine Runs.loop (fun s : Nat × Bool => [(25, .int .i64 s.1), (24, .bool s.2), (22, .bool (E.any V)), (20, .slice (some ⟨bv, 0, some 0⟩) (t.length + 1) (t.length + 1)), (18, .slice ao E.length ec), (17, .int .i64 k), (11, .bool true), (3, .slice at1 t.length ct)])
    (fun s H' => s.1 ≤ E.length ∧ s.2 = (E.take s.1).any V ∧ H43 = H') (fun s => E.length - s.1) (0, false) ⟨rfl, rfl, rfl, rfl, rfl, rfl, rfl, rfl, trivial⟩ ⟨Nat.zero_le _, rfl, rfl⟩ ?_
  rintro ⟨j, sm⟩ _ ⟨hj, hsm, rfl⟩
  dsimp only at hj hsm
  show vc _ _ _ _ _ [(25, .int .i64 j), (24, .bool sm), (22, .bool (E.any V)), (20, .slice (some ⟨bv, 0, some 0⟩) (t.length + 1) (t.length + 1)), (18, .slice ao E.length ec), (17, .int .i64 k), (11, .bool true), (3, .slice at1 t.length ct)] _ _
  by_cases hlt : j < E.length
  · obtain ⟨e, he⟩ := get_of (l := E) (k := j) (by omega)
    obtain ⟨b, o, st, rfl, hc⟩ := endRow re3 he
    obtain ⟨bv', ov, sv, hva, hv⟩ := BRow.at rv3 (i := e) (by have := (hE j e he).2; omega)
    cases hva
    have h1 := hE j e he
    have hs : (E.take (j + 1)).any V = ((E.take j).any V || V e) := by rw [List.take_add_one, he, List.any_append]; simp
    have fin : ∀ s', s' = (E.take (j + 1)).any V → j + 1 ≤ E.length ∧ s' = (E.take (j + 1)).any V ∧ H43 = H43 := fun s' h => ⟨by omega, h, rfl⟩
    cases j with
    | zero =>
      cases sm with
      | true =>
        repeat' ((conv => whnf); first
          | (refine Both.intro ?_ ?_ <;> intro _ <;> try (exfalso; omega))
          | (refine Need.intro (by omega) ?_)
          | (refine ⟨_, hc, ?_⟩)
          | (refine ⟨_, hv, ?_⟩)
          | (refine Need.intro (DrawP.intro (by kernel_rfl)) ?_)
          | fail)
        all_goals (conv => whnf)
        exact ⟨(0 + 1, true), ⟨rfl, rfl, rfl, rfl, rfl, rfl, rfl, rfl, trivial⟩, fin true (by rw [hs, ← hsm]; rfl), by dsimp only; omega⟩
      | false =>
        repeat' ((conv => whnf); first
          | (refine Both.intro ?_ ?_ <;> intro _ <;> try (exfalso; omega))
          | (refine Need.intro (by omega) ?_)
          | (refine ⟨_, hc, ?_⟩)
          | (refine ⟨_, hv, ?_⟩)
          | (refine Need.intro (DrawP.intro (by kernel_rfl)) ?_)
          | fail)
        all_goals (conv => whnf)
        exact ⟨(0 + 1, V e), ⟨rfl, rfl, rfl, rfl, rfl, rfl, rfl, rfl, trivial⟩, fin (V e) (by rw [hs, ← hsm]; rfl), by dsimp only; omega⟩
    | succ j =>
      obtain ⟨e0, he0⟩ := get_of (l := E) (k := j) (by omega)
      obtain ⟨b0, o0, st0, hb0, hc0⟩ := endRow re3 he0
      cases hb0
      have hix : (((j + 1 : Nat) : Int) - 1).toNat = j := by omega
      rw [← hix] at hc0
      have hu := hU j e0 e he0 he
      cases sm with
      | true =>
        repeat' ((conv => whnf); first
          | (refine Both.intro ?_ ?_ <;> intro _ <;> try (exfalso; omega))
          | (refine Need.intro (by omega) ?_)
          | (refine ⟨_, hc, ?_⟩)
          | (refine ⟨_, hc0, ?_⟩)
          | (refine ⟨_, hv, ?_⟩)
          | (refine Need.intro (DrawP.intro (by kernel_rfl)) ?_)
          | fail)
        all_goals (conv => whnf)
        exact ⟨(j + 1 + 1, true), ⟨rfl, rfl, rfl, rfl, rfl, rfl, rfl, rfl, trivial⟩, fin true (by rw [hs, ← hsm]; rfl), by dsimp only; omega⟩
      | false =>
        repeat' ((conv => whnf); first
          | (refine Both.intro ?_ ?_ <;> intro _ <;> try (exfalso; omega))
          | (refine Need.intro (by omega) ?_)
          | (refine ⟨_, hc, ?_⟩)
          | (refine ⟨_, hc0, ?_⟩)
          | (refine ⟨_, hv, ?_⟩)
          | (refine Need.intro (DrawP.intro (by kernel_rfl)) ?_)
          | fail)
        all_goals (conv => whnf)
        exact ⟨(j + 1 + 1, V e), ⟨rfl, rfl, rfl, rfl, rfl, rfl, rfl, rfl, trivial⟩, fin (V e) (by rw [hs, ← hsm]; rfl), by dsimp only; omega⟩
  · obtain rfl : j = E.length := by omega
    rw [List.take_length] at hsm
    subst hsm
    repeat' ((conv => whnf); first
      | (refine Both.intro ?_ ?_ <;> intro _ <;> try (exfalso; omega))
      | (refine Need.intro (by omega) ?_)
      | (refine Gives.intro ⟨_, heq _, ?_⟩)
      | fail)
    all_goals (conv => whnf)
    rfl
end Go.AX.Try
