/- rejoinderref29.Auto: an automaton's text. -/
import Derived.Test.YtkngijdjkcdcjaaDoorLRcE
namespace Go.AX.Tryd
open Go Go.AX Go.AX.Lw Go.Proofs
set_option linter.unusedVariables false
set_option linter.unusedSimpArgs false
set_option maxRecDepth 100000
theorem zeroNd : zeroOf Tryd.prog 53 = some (.agg #[.int .i64 0, .int .i64 0, .int .i64 0]) := by kernel_rfl
abbrev wordsC (w : List UInt8) (zs : List Int) : List Value := .string (mkS w) :: zs.map fun z => .string (mkS (Lib.itoa z))
theorem refLineR_any (H : AHeap) (a : Option Addr) (n c : Nat) (w : List UInt8) (zs : List Int) (hr : Row H a n c (wordsC w zs)) (hz : SmallZ zs) (hn : zs.length ≤ 2 ^ 20) (hwl : w.length ≤ 100) :
    Does Tryd.prog orc 21 [.slice a n c] H fun r H' => r = .ret (.string (mkS (lineT w zs))) ∧ H = H' := by
  have hlen := hr.len; simp [wordsC] at hlen
  have e1 : (mkS w :: zs.map fun z => mkS (Lib.itoa z)).map Value.string = wordsC w zs := by simp [wordsC, Function.comp_def]
  have e2 : (mkS w :: zs.map fun z => mkS (Lib.itoa z)).map (·.data.toList) = w :: zs.map Lib.itoa := by simp [mkS, Function.comp_def]
  have hnl := numsT_len hz
  have h := refLine_any H a n c (mkS w :: zs.map fun z => mkS (Lib.itoa z)) (by rw [e1]; exact hr) (by omega) (by rw [e2, join_line, List.length_append]; omega)
  rw [e2, join_line] at h
  exact h
theorem refLineB_any (H : AHeap) (w : List UInt8) (zs : List Int) (hz : SmallZ zs) (hn : zs.length ≤ 2 ^ 20) (hwl : w.length ≤ 100) :
    Does Tryd.prog orc 21 [.slice (some ⟨H.next, 0, none⟩) (zs.length + 1) (zs.length + 1)] (H.push (.cells (wordsC w zs) 0 true)) fun r H' => r = .ret (.string (mkS (lineT w zs))) ∧ H.push (.cells (wordsC w zs) 0 true) = H' :=
  refLineR_any _ _ _ _ w zs (Row.of_block (get_new _ _) (by simp) (Nat.le_refl _) (List.prefix_refl _)) hz hn hwl
theorem refAuto_any (H : AHeap) (hw : Wf H) (A : Aut) (a1 a2 a3 : Option Addr) (n1 c1 n2 c2 n3 c3 : Nat) (R : AutR H A a1 n1 c1 a2 n2 c2 a3 n3 c3) (h1 : n1 ≤ 2 ^ 40) (h2 : n2 ≤ 2 ^ 40) (h3 : n3 ≤ 2 ^ 40) :
    Does Tryd.prog orc 8 [autV A a1 n1 c1 a2 n2 c2 a3 n3 c3] H fun r H' => r = .ret (.tuple #[.string (mkS (autT A)), .int .i64 (errA A)]) ∧ Ext H H' ∧ Wf H' := by
  have l1 := R.acc.len; simp at l1
  have l2 := R.gd.len; simp at l2
  have l3 := R.nd.len; simp at l3
  have hc1 := R.acc.cap
  have hc2 := R.gd.cap
  have hc3 := R.nd.cap
  refine Does.of Tryd.func8 (fun _ _ => rfl) rfl ?_
  have g0 := get_new H (.cells (autC A a1 n1 c1 a2 n2 c2 a3 n3 c3) 0 true)
  have w0 := hw.push (.cells (autC A a1 n1 c1 a2 n2 c2 a3 n3 c3) 0 true)
  have e0 := Ext.push H (.cells (autC A a1 n1 c1 a2 n2 c2 a3 n3 c3) 0 true)
  have q0 := cellAt_of g0 (o := 0) rfl
  have q1 := cellAt_of g0 (o := 1) rfl
  have q2 := cellAt_of g0 (o := 2) rfl
  have q3 := cellAt_of g0 (o := 3) rfl
  have qa := cellsAt_all g0 rfl (n := 4)
  have hck := refCheck_any _ w0 A _ _ _ _ _ _ _ _ _ (R.ext hw e0) h1 h2 h3
  by_cases hok : OkA A
  case neg =>
    rw [errA_no hok] at hck ⊢
    repeat' ((conv => whnf); first
      | (refine Both.intro ?_ ?_ <;> intro _ <;> try (exfalso; omega))
      | (refine Need.intro (by omega) ?_)
      | (refine ⟨_, qa, ?_⟩)
      | (refine Does.mono hck ?_ ; rintro _ H1 ⟨rfl, e1, w1⟩)
      | fail)
    all_goals (conv => whnf)
    exact ⟨by unfold autT; rw [if_neg hok]; rfl, e0.trans e1, w1⟩
  rw [errA_ok hok] at hck ⊢
  have hgd := hok.gd
  have hnd := hok.nd
  have hHd := hok.1
  unfold HeadP at hHd
  have hz0 : SmallZ [A.pr, ((n1 : Nat) : Int), ((n3 : Nat) : Int)] := fun z hz => by
    simp only [List.mem_cons, List.not_mem_nil, or_false] at hz
    rcases hz with rfl | rfl | rfl <;> omega
  repeat' ((conv => whnf); first
    | (refine Both.intro ?_ ?_ <;> intro _ <;> try (exfalso; omega))
    | (refine Need.intro (by omega) ?_)
    | (refine ⟨_, qa, ?_⟩)
    | (refine Does.mono hck ?_ ; rintro _ H1 ⟨rfl, e1, w1⟩)
    | fail)
  all_goals (conv => whnf)
  have p0 := cellAt_ext w0 e1 q0
  repeat' ((conv => whnf); first
    | (refine Both.intro ?_ ?_ <;> intro _ <;> try (exfalso; omega))
    | (refine Need.intro (by omega) ?_)
    | (refine ⟨_, p0, ?_⟩)
    | (refine Does.mono (text_any H1 w1 A.pr (hz0 _ (by simp)).1 (hz0 _ (by simp)).2) ?_ ; rintro _ H2 ⟨rfl, e2, w2⟩)
    | fail)
  all_goals (conv => whnf)
  have p1 := cellAt_ext w0 (e1.trans e2) q1
  repeat' ((conv => whnf); first
    | (refine Both.intro ?_ ?_ <;> intro _ <;> try (exfalso; omega))
    | (refine Need.intro (by omega) ?_)
    | (refine ⟨_, p1, ?_⟩)
    | (refine Does.mono (text_any H2 w2 n1 (hz0 _ (by simp)).1 (hz0 _ (by simp)).2) ?_ ; rintro _ H3 ⟨rfl, e3, w3⟩)
    | fail)
  all_goals (conv => whnf)
  have p3 := cellAt_ext w0 (e1.trans (e2.trans e3)) q3
  repeat' ((conv => whnf); first
    | (refine Both.intro ?_ ?_ <;> intro _ <;> try (exfalso; omega))
    | (refine Need.intro (by omega) ?_)
    | (refine ⟨_, p3, ?_⟩)
    | (refine Does.mono (text_any H3 w3 n3 (hz0 _ (by simp)).1 (hz0 _ (by simp)).2) ?_ ; rintro _ H4 ⟨rfl, e4, w4⟩)
    | fail)
  all_goals (conv => whnf)
  repeat' ((conv => whnf); first
    | (refine Both.intro ?_ ?_ <;> intro _ <;> try (exfalso; omega))
    | (refine Need.intro (by omega) ?_)
    | (refine ⟨wordsC [97, 117, 116, 111] [A.pr, (n1 : Nat), (n3 : Nat)], by kernel_rfl, ?_⟩)
    | (refine Does.mono (refLineB_any H4 [97, 117, 116, 111] [A.pr, (n1 : Nat), (n3 : Nat)] hz0 (by simp) (by simp)) ?_ ; rintro _ _ ⟨rfl, rfl⟩)
    | fail)
  all_goals (conv => whnf)
  have m1 : H.next + 1 ≤ H1.next := e1.next
  have m2 := e2.next
  have m3 := e3.next
  have m4 := e4.next
  repeat' ((conv => whnf); first
    | (refine Both.intro ?_ ?_ <;> intro _ <;> try (exfalso; omega))
    | (refine Need.intro (by omega) ?_)
    | (refine Need.intro (draw_keep (N := H.next + 1) (by (simp only [effKeep]; repeat' apply And.intro) <;> first | exact True.intro | exact fun _ _ => True.intro | exact fun _ _ => rfl | exact fun b hb => e2.get b (by omega) | exact fun b hb => e3.get b (by omega) | exact fun b hb => e4.get b (by omega)) (by (simp only [lookOld]; repeat' apply And.intro) <;> first | exact True.intro | omega) (by kernel_rfl)) ?_)
    | fail)
  all_goals (conv => whnf)
  have eP := Ext.push H4 (.cells (wordsC [97, 117, 116, 111] [A.pr, (n1 : Nat), (n3 : Nat)]) 0 true)
  have wP := w4.push (.cells (wordsC [97, 117, 116, 111] [A.pr, (n1 : Nat), (n3 : Nat)]) 0 true)
  have eQ := e1.trans (e2.trans (e3.trans (e4.trans eP)))
  have hhead : lineT [97, 117, 116, 111] [A.pr, (n1 : Nat), (n3 : Nat)] = headT A := by unfold headT; rw [← l1, ← l3]
  rw [hhead]
  revert eQ wP
  generalize H4.push (.cells (wordsC [97, 117, 116, 111] [A.pr, (n1 : Nat), (n3 : Nat)]) 0 true) = H5
  intro wP eQ
  have hHl : (headT A).length ≤ 100 := by
    have := lineT_len (w := [97, 117, 116, 111]) hz0
    rw [← hhead]; simp at this ⊢; omega
  have hzl : (A.acc.zip A.gd).length = n2 := by rw [List.length_zip]; omega
  have hzs : ∀ p ∈ A.acc.zip A.gd, SmallZ [p.2] := fun p hp z hz => by
    simp only [List.mem_singleton] at hz
    subst hz
    exact hgd _ (List.of_mem_zip hp).2
  refine Runs.loop (fun k : Nat => [(5, .int .i64 k), (4, .string (mkS (headT A ++ stT ((A.acc.zip A.gd).take k)))), (1, .pointer (some ⟨H.next, 0, none⟩))])
    (fun k H' => k ≤ n1 ∧ Ext (H.push (.cells (autC A a1 n1 c1 a2 n2 c2 a3 n3 c3) 0 true)) H' ∧ Wf H') (fun k => n1 - k) 0 ⟨rfl, by simp only [stT, List.take_zero, List.flatMap_nil, List.append_nil]; rfl, rfl, trivial⟩
    ⟨by omega, eQ, wP⟩ ?_
  rintro k H3 ⟨hk, e3, w3⟩
  have u1 := cellAt_ext w0 e3 q1
  have hsl : (headT A ++ stT ((A.acc.zip A.gd).take k)).length ≤ 2 ^ 20 := by
    have := stT_len (l := (A.acc.zip A.gd).take k) fun p hp => hzs p (List.mem_of_mem_take hp)
    rw [List.length_take] at this
    rw [List.length_append]; omega
  by_cases hlt : k < n1
  · obtain ⟨z, hx⟩ := get_of (l := A.gd) (k := k) (by omega)
    obtain ⟨y, hy⟩ := get_of (l := A.acc) (k := k) (by omega)
    have hp : (A.acc.zip A.gd)[k]? = some (y, z) := by rw [List.getElem?_zip_eq_some]; exact ⟨hy, hx⟩
    obtain ⟨b2, o2, st2, ha2, hcell⟩ := (R.gd.ext hw (e0.trans e3)).cell k (.int .i64 z) (by simp [ints, hx])
    obtain ⟨b1, o1, st1, ha1, hcellb⟩ := (R.acc.ext hw (e0.trans e3)).cell k (.bool y) (by simp [bools, hy])
    subst ha1 ha2
    have u2 := cellAt_ext w0 e3 q2
    have hs1 := sgT_len y
    have hzz := hgd z (List.mem_of_getElem? hx)
    have hz1 : SmallZ [z] := fun x hx' => by simp only [List.mem_singleton] at hx'; subst hx'; exact hzz
    have hil := itoa_len z hzz.1 hzz.2
    have hsa := strAdd (x := mkS (headT A ++ stT ((A.acc.zip A.gd).take k))) (y := mkS (lineT (sgT y) [z])) rfl rfl (by have := lineT_len (w := sgT y) hz1; simp at this; omega)
    cases y
    · skip
      repeat' ((conv => whnf); first
        | (refine Both.intro ?_ ?_ <;> intro _ <;> try (exfalso; omega))
        | (refine Need.intro (by omega) ?_)
        | (refine ⟨_, u1, ?_⟩)
        | (refine ⟨_, hcellb, ?_⟩)
        | (refine ⟨_, u2, ?_⟩)
        | (refine ⟨_, hcell, ?_⟩)
        | (refine Does.mono (text_any H3 w3 z hzz.1 hzz.2) ?_ ; rintro _ H4 ⟨rfl, e4, w4⟩)
        | (refine ⟨wordsC (sgT false) [z], by kernel_rfl, ?_⟩)
        | (refine Does.mono (refLineB_any H4 (sgT false) [z] hz1 (by simp) (by simp [sgT])) ?_ ; rintro _ _ ⟨rfl, rfl⟩)
        | (refine Gives.intro ⟨_, hsa, ?_⟩)
        | fail)
      all_goals (conv => whnf)
      exact ⟨k + 1, ⟨rfl, by rw [stT_take hp, ← List.append_assoc]; rfl, rfl, trivial⟩, ⟨by omega, e3.trans (e4.trans (Ext.push _ _)), w4.push _⟩, by omega⟩
    · skip
      repeat' ((conv => whnf); first
        | (refine Both.intro ?_ ?_ <;> intro _ <;> try (exfalso; omega))
        | (refine Need.intro (by omega) ?_)
        | (refine ⟨_, u1, ?_⟩)
        | (refine ⟨_, hcellb, ?_⟩)
        | (refine ⟨_, u2, ?_⟩)
        | (refine ⟨_, hcell, ?_⟩)
        | (refine Does.mono (text_any H3 w3 z hzz.1 hzz.2) ?_ ; rintro _ H4 ⟨rfl, e4, w4⟩)
        | (refine ⟨wordsC (sgT true) [z], by kernel_rfl, ?_⟩)
        | (refine Does.mono (refLineB_any H4 (sgT true) [z] hz1 (by simp) (by simp [sgT])) ?_ ; rintro _ _ ⟨rfl, rfl⟩)
        | (refine Gives.intro ⟨_, hsa, ?_⟩)
        | fail)
      all_goals (conv => whnf)
      exact ⟨k + 1, ⟨rfl, by rw [stT_take hp, ← List.append_assoc]; rfl, rfl, trivial⟩, ⟨by omega, e3.trans (e4.trans (Ext.push _ _)), w4.push _⟩, by omega⟩
  · obtain rfl : k = n1 := by omega
    rw [List.take_of_length_le (by omega)] at hsl ⊢
    have u3 := cellAt_ext w0 e3 q3
    repeat' ((conv => whnf); first
      | (refine Both.intro ?_ ?_ <;> intro _ <;> try (exfalso; omega))
      | (refine Need.intro (by omega) ?_)
      | (refine ⟨_, u1, ?_⟩)
      | fail)
    all_goals (conv => whnf)
    refine Runs.loop (fun i : Nat => [(7, .int .i64 i), (4, .string (mkS (headT A ++ stT (A.acc.zip A.gd) ++ ndT (A.nd.take i)))), (1, .pointer (some ⟨H.next, 0, none⟩))])
      (fun i H' => i ≤ n3 ∧ Ext (H.push (.cells (autC A a1 _ c1 a2 n2 c2 a3 n3 c3) 0 true)) H' ∧ Wf H') (fun i => n3 - i) 0 ⟨rfl, by simp only [ndT, List.take_zero, List.flatMap_nil, List.append_nil]; rfl, rfl, trivial⟩
      ⟨by omega, e3, w3⟩ ?_
    rintro i H5 ⟨hi, e5, w5⟩
    have hsl5 : (headT A ++ stT (A.acc.zip A.gd) ++ ndT (A.nd.take i)).length ≤ 2 ^ 22 := by
      have := ndT_len (l := A.nd.take i) fun p hp => hnd p (List.mem_of_mem_take hp)
      rw [List.length_take] at this
      rw [List.length_append]; omega
    have v3 := cellAt_ext w0 e5 q3
    by_cases hlt3 : i < n3
    · obtain ⟨x, hx⟩ := get_of (l := A.nd) (k := i) (by omega)
      obtain ⟨b, o, st, rfl, hcell⟩ := (R.nd.ext hw (e0.trans e5)).cell i (ndC x) (by simp [hx])
      have hxs := hnd x (List.mem_of_getElem? hx)
      obtain ⟨T, hT5⟩ : ∃ T, T = (H5.push (.cells [.int .i64 0, .int .i64 0, .int .i64 0] (typedV 53) true)).set H5.next (.cells (ndC x) (typedV 53) true) := ⟨_, rfl⟩
      have gp := get_new H5 (.cells [.int .i64 0, .int .i64 0, .int .i64 0] (typedV 53) true)
      have eT : Ext H5 T := by rw [hT5]; exact (Ext.push _ _).set (Nat.le_refl _) _
      have wT : Wf T := by rw [hT5]; exact (w5.push _).set gp _
      have gT : T.get H5.next = some (.cells (ndC x) (typedV 53) true) := by rw [hT5, AHeap.get_set, if_pos rfl]
      have t0 := cellAt_of gT (o := 0) rfl
      have t1 := cellAt_of gT (o := 1) rfl
      have t2 := cellAt_of gT (o := 2) rfl
      have hst := storeAgg_ok (P := Tryd.prog) (t := 53) (vs := ndC x) (by kernel_rfl) rfl gp rfl
      rw [← hT5] at hst
      have hil := itoa_len x.1 (hxs x.1 (by simp)).1 (hxs x.1 (by simp)).2
      have hzx : SmallZ [x.2.1, x.2.2] := fun z hz => hxs z (by simp only [List.mem_cons] at hz ⊢; exact .inr hz)
      have hsa := strAdd (x := mkS (headT A ++ stT (A.acc.zip A.gd) ++ ndT (A.nd.take i))) (y := mkS (lineT (Lib.itoa x.1) [x.2.1, x.2.2])) rfl rfl (by have := lineT_len (w := Lib.itoa x.1) hzx; simp at this; omega)
      repeat' ((conv => whnf); first
        | (refine Both.intro ?_ ?_ <;> intro _ <;> try (exfalso; omega))
        | (refine Need.intro (by omega) ?_)
        | (refine ⟨_, v3, ?_⟩)
        | (refine ⟨_, hcell, ?_⟩)
        | (refine Gives.intro ⟨.agg (ndC x).toArray, rfl, ?_⟩)
        | (refine Gives.intro ⟨_, zeroNd, ?_⟩)
        | (refine Outs.intro ⟨_, _, _, hst, ?_⟩)
        | (refine ⟨_, t0, ?_⟩)
        | (refine Does.mono (text_any T wT x.1 (hxs x.1 (by simp)).1 (hxs x.1 (by simp)).2) ?_ ; rintro _ H6 ⟨rfl, e6, w6⟩ ; have k1 := cellAt_ext wT e6 t1)
        | (refine ⟨_, k1, ?_⟩)
        | (refine Does.mono (text_any H6 w6 x.2.1 (hxs _ (by simp)).1 (hxs _ (by simp)).2) ?_ ; rintro _ H7 ⟨rfl, e7, w7⟩ ; have k2 := cellAt_ext wT (e6.trans e7) t2)
        | (refine ⟨_, k2, ?_⟩)
        | (refine Does.mono (text_any H7 w7 x.2.2 (hxs _ (by simp)).1 (hxs _ (by simp)).2) ?_ ; rintro _ H8 ⟨rfl, e8, w8⟩)
        | (refine ⟨wordsC (Lib.itoa x.1) [x.2.1, x.2.2], by kernel_rfl, ?_⟩)
        | (refine Does.mono (refLineB_any H8 (Lib.itoa x.1) [x.2.1, x.2.2] hzx (by simp) (by omega)) ?_ ; rintro _ _ ⟨rfl, rfl⟩)
        | (refine Gives.intro ⟨_, hsa, ?_⟩)
        | fail)
      all_goals (conv => whnf)
      have mT : H5.next + 1 = T.next := by rw [hT5]; rfl
      have m6 := e6.next
      have m7 := e7.next
      repeat' ((conv => whnf); first
        | (refine Both.intro ?_ ?_ <;> intro _ <;> try (exfalso; omega))
        | (refine Need.intro (by omega) ?_)
        | (refine Need.intro (draw_keep (N := H5.next + 1) (by (simp only [effKeep]; repeat' apply And.intro) <;> first | exact True.intro | exact fun _ _ => True.intro | exact fun _ _ => rfl | exact fun b hb => e6.get b (by omega) | exact fun b hb => e7.get b (by omega) | exact fun b hb => e8.get b (by omega)) (by (simp only [lookOld]; repeat' apply And.intro) <;> first | exact True.intro | omega) (by kernel_rfl)) ?_)
        | fail)
      all_goals (conv => whnf)
      exact ⟨i + 1, ⟨rfl, by rw [ndT_take hx, ← List.append_assoc]; rfl, rfl, trivial⟩, ⟨by omega, e5.trans (eT.trans (e6.trans (e7.trans (e8.trans (Ext.push _ _))))), w8.push _⟩, by omega⟩
    · obtain rfl : i = n3 := by omega
      rw [List.take_of_length_le (by omega)]
      repeat' ((conv => whnf); first
        | (refine Both.intro ?_ ?_ <;> intro _ <;> try (exfalso; omega))
        | (refine Need.intro (by omega) ?_)
        | (refine ⟨_, v3, ?_⟩)
        | fail)
      all_goals (conv => whnf)
      exact ⟨by unfold autT; rw [if_pos hok]; rfl, e0.trans e5, w5⟩
end Go.AX.Tryd
