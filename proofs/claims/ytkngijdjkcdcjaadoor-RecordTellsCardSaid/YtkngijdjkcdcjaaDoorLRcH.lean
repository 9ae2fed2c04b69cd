/- rejoinderref29.Strategy: a strategy's text. -/
import Derived.Test.YtkngijdjkcdcjaaDoorLRcG
namespace Go.AX.Tryd
open Go Go.AX Go.AX.Lw Go.Proofs
set_option linter.unusedVariables false
set_option linter.unusedSimpArgs false
set_option maxRecDepth 100000
theorem strTyR : AppTy Tryd.prog #[58, 58] 9 16 := ⟨by kernel_rfl, by kernel_rfl, by kernel_rfl, by kernel_rfl, by decide, ⟨.string ⟨#[]⟩, by kernel_rfl, by kernel_rfl⟩⟩
abbrev STG : ByteArray := ⟨#[115, 116, 114, 97, 116, 101, 103, 121]⟩
abbrev SDE (b : Bool) : ByteArray := if b then ⟨#[115, 121, 115]⟩ else ⟨#[101, 110, 118]⟩
theorem join_head (b : Bool) (n : Int) : Lib.join ([STG, SDE b, mkS (Lib.itoa n)].map (·.data.toList)) [32] ++ [10] = lineT (sideT b) [n] := by
  cases b <;> (simp [Lib.join_cons, Lib.joinTail, lineT, numsT, sideT, mkS]; rfl)
theorem bs_head (b : Bool) (s : ByteArray) : aBuildSlice Tryd.prog 58 3 [(0, .string STG), (1, .string (SDE b)), (2, .string s)] = mkSlice ([STG, SDE b, s].map .string) 3 3 := by cases b <;> kernel_rfl
theorem refStr_any (H : AHeap) (hw : Wf H) (X : Str) (a1 a2 a3 : Option Addr) (n1 c1 n2 c2 n3 c3 : Nat) (R : StrR H X a1 n1 c1 a2 n2 c2 a3 n3 c3) (hL : LetX X) (h1 : n1 ≤ 2 ^ 40) (h2 : n2 ≤ 2 ^ 40) (h3 : n3 ≤ 2 ^ 40) :
    Does Tryd.prog orc 10 [strV X a1 n1 c1 a2 n2 c2 a3 n3 c3] H fun r H' => r = .ret (.tuple #[.string (mkS (strT X)), .int .i64 (errX X)]) ∧ Ext H H' ∧ Wf H' := by
  have l1 := R.ranks.len; simp at l1
  have l2 := R.reply.len
  have l3 := R.choice.len; simp at l3
  have hc1 := R.ranks.cap
  have hc3 := R.choice.cap
  refine Does.of Tryd.func10 (fun _ _ => rfl) rfl ?_
  have g0 := get_new H (.cells (strC X a1 n1 c1 a2 n2 c2 a3 n3 c3) 0 true)
  have w0 := hw.push (.cells (strC X a1 n1 c1 a2 n2 c2 a3 n3 c3) 0 true)
  have e0 := Ext.push H (.cells (strC X a1 n1 c1 a2 n2 c2 a3 n3 c3) 0 true)
  have q0 := cellAt_of g0 (o := 0) rfl
  have q1 := cellAt_of g0 (o := 1) rfl
  have q2 := cellAt_of g0 (o := 2) rfl
  have q3 := cellAt_of g0 (o := 3) rfl
  have hbad : ¬ OkX X → errX X = 2 ∧ strT X = [] := fun h => ⟨by unfold errX; rw [if_neg h], by unfold strT; rw [if_neg h]⟩
  have hgood : OkX X → errX X = 0 ∧ strT X = textX X := fun h => ⟨by unfold errX; rw [if_pos h], by unfold strT; rw [if_pos h]⟩
  by_cases hh : HeadX X
  case neg =>
    obtain ⟨k1, k2⟩ := hbad fun h => hh h.1
    rw [k1, k2]
    unfold HeadX at hh
    repeat' ((conv => whnf); first
      | (refine Both.intro ?_ ?_ <;> intro _ <;> try (exfalso; omega))
      | (refine Need.intro (by omega) ?_)
      | (refine ⟨_, q1, ?_⟩)
      | (refine ⟨_, q2, ?_⟩)
      | (refine ⟨_, q3, ?_⟩)
      | fail)
    all_goals (conv => whnf)
    all_goals first
      | exact ⟨rfl, e0, w0⟩
      | (exfalso; omega)
  have hHd := hh
  unfold HeadX at hHd
  obtain ⟨bw, hbw⟩ : ∃ bw, bw = X.wins := ⟨_, rfl⟩
  have q0 : cellAt (H.push (.cells (strC X a1 n1 c1 a2 n2 c2 a3 n3 c3) 0 true)) H.next (0 + 0) = some (.bool bw) := by rw [hbw]; exact q0
  have hz0 : SmallZ [((n1 : Nat) : Int)] := fun z hz => by
    simp only [List.mem_cons, List.not_mem_nil, or_false] at hz
    rcases hz with rfl
    omega
  have htx : textX X = lineT (sideT bw) [((n1 : Nat) : Int)] ++ trT (trs X) := by unfold textX; rw [← hbw, ← l1]
  rw [htx] at hgood
  have hsl : (sideT bw).length = 12 := by cases bw <;> rfl
  have hhl : (lineT (sideT bw) [((n1 : Nat) : Int)]).length ≤ 100 := by have := lineT_len (w := sideT bw) hz0; simp at this; omega
  have htl : (trs X).length = n1 := by unfold trs; rw [List.length_zip, List.length_zip]; omega
  have hj0 : (Lib.join ([STG, SDE bw, mkS (Lib.itoa (n1 : Nat))].map (·.data.toList)) [32]).length ≤ 2 ^ 40 := by have := congrArg List.length (join_head bw (n1 : Nat)); rw [List.length_append] at this; omega
  have FP := fun H1 (e1 : Ext (H.push (.cells (strC X a1 n1 c1 a2 n2 c2 a3 n3 c3) 0 true)) H1) (w1 : Wf H1) => And.intro (e1.trans (Ext.push H1 (.cells ([STG, SDE bw, mkS (Lib.itoa (n1 : Nat))].map .string) 0 true))) (w1.push (.cells ([STG, SDE bw, mkS (Lib.itoa (n1 : Nat))].map .string) 0 true))
  cases bw
  all_goals
    repeat' ((conv => whnf); first
      | (refine Both.intro ?_ ?_ <;> intro _ <;> try (exfalso; omega))
      | (refine Need.intro (by omega) ?_)
      | (refine ⟨_, q1, ?_⟩)
      | (refine ⟨_, q2, ?_⟩)
      | (refine ⟨_, q3, ?_⟩)
      | (refine ⟨_, q0, ?_⟩)
      | (refine Does.mono (text_any _ w0 (n1 : Nat) (by omega) (by omega)) ?_ ; rintro _ H1 ⟨rfl, e1, w1⟩)
      | fail)
    all_goals (conv => whnf)
    repeat' ((conv => whnf); first
      | (refine Both.intro ?_ ?_ <;> intro _ <;> try (exfalso; omega))
      | (refine Need.intro (by omega) ?_)
      | (refine ⟨_, bs_head true _, ?_⟩)
      | (refine ⟨_, bs_head false _, ?_⟩)
      | (refine Does.mono (refLine_any (H1.push (.cells ([STG, SDE _, mkS (Lib.itoa (n1 : Nat))].map .string) 0 true)) (some ⟨H1.next, 0, none⟩) 3 3 [STG, SDE _, mkS (Lib.itoa (n1 : Nat))] (Row.of_block (get_new _ _) rfl (Nat.le_refl _) (List.prefix_refl _)) (by decide) hj0) ?_ ; rw [join_head] ; rintro _ _ ⟨rfl, rfl⟩)
      | fail)
    all_goals (conv => whnf)
    obtain ⟨eP, wP⟩ := FP H1 e1 w1
    refine Runs.loop (fun k : Nat => [(7, .int .i64 k), (6, .string (mkS (lineT (sideT _) [((n1 : Nat) : Int)] ++ trT ((trs X).take k)))), (4, .int .i64 n1), (1, .pointer (some ⟨H.next, 0, none⟩))])
      (fun k H' => k ≤ n1 ∧ Ext (H.push (.cells (strC X a1 n1 c1 a2 n2 c2 a3 n3 c3) 0 true)) H' ∧ Wf H' ∧ RanksTo X k) (fun k => n1 - k) 0 ⟨rfl, by simp only [trT, List.take_zero, List.flatMap_nil, List.append_nil]; rfl, rfl, rfl, trivial⟩
      ⟨by omega, eP, wP, fun q r hq => by omega⟩ ?_
    rintro k H3 ⟨hk, e3, w3, hR⟩
    have hsk := fun bw => show (lineT (sideT bw) [((n1 : Nat) : Int)] ++ trT ((trs X).take k)).length ≤ 2 ^ 22 from by
      have hq := trT_len (l := (trs X).take k) (trs_small hh hR hL)
      have hq2 := lineT_len (w := sideT bw) hz0
      have hq3 : (sideT bw).length = 12 := by cases bw <;> rfl
      rw [List.length_take] at hq
      simp at hq2
      rw [List.length_append]; omega
    have u1 := cellAt_ext w0 e3 q1
    have u2 := cellAt_ext w0 e3 q2
    have u3 := cellAt_ext w0 e3 q3
    by_cases hlt : k < n1
    · obtain ⟨r, hx⟩ := get_of (l := X.ranks) (k := k) (by omega)
      obtain ⟨z, hy⟩ := get_of (l := X.choice) (k := k) (by omega)
      obtain ⟨b2, o2, st2, ha2, hcell⟩ := (R.ranks.ext hw (e0.trans e3)).cell k (.int .i64 r) (by simp [ints, hx])
      obtain ⟨b4, o4, st4, ha4, hcell4⟩ := (R.choice.ext hw (e0.trans e3)).cell k (.int .u8 z) (by simp [lets, hy])
      obtain ⟨b3, o3, st3, bb, m, kk, zs, ha3, hcell3, hzs, hrow, hm⟩ := (R.reply.ext hw (e0.trans e3)).at (j := k) (by omega)
      subst ha2 ha3 ha4
      have hlz := hrow.len; simp at hlz
      have hkc := hrow.cap
      have hone : OneX X k r ↔ -1 ≤ r ∧ r ≤ 255 ∧ m ≤ 256 := by
        unfold OneX
        simp only [hzs, Option.some.injEq, forall_eq', hlz]
      have hno : ¬ OneX X k r → errX X = 2 ∧ strT X = [] := fun h => hbad fun ho => h (ho.2 k r (List.getElem?_eq_some_iff.1 hx).1 hx)
      by_cases h1x : OneX X k r
      case neg =>
        obtain ⟨k1, k2⟩ := hno h1x
        rw [hone] at h1x
        rw [k1, k2]
        repeat' ((conv => whnf); first
          | (refine Both.intro ?_ ?_ <;> intro _ <;> try (exfalso; omega))
          | (refine Need.intro (by omega) ?_)
          | (refine ⟨_, u1, ?_⟩)
          | (refine ⟨_, hcell, ?_⟩)
          | (refine ⟨_, u2, ?_⟩)
          | (refine ⟨_, hcell3, ?_⟩)
          | fail)
        all_goals (conv => whnf)
        all_goals exact ⟨rfl, e0.trans e3, w3⟩
      have hk1 : RanksTo X (k + 1) := (ranksTo_succ hx).2 ⟨hR, h1x⟩
      rw [hone] at h1x
      have hzc := hL.1 z (List.mem_of_getElem? hy)
      have hzr := hL.2 zs (List.mem_of_getElem? hzs)
      have hp : (trs X)[k]? = some (r, z, zs) := by unfold trs; rw [List.getElem?_zip_eq_some, List.getElem?_zip_eq_some]; exact ⟨hx, hy, hzs⟩
      have hcv : ∀ y : Int, 0 ≤ y ∧ y < 256 → aConv Tryd.prog 59 3 (.int .u8 y) = some (.int .i64 y) := fun y hy => by
        have h0 : aConv Tryd.prog 59 3 (.int .u8 y) = some (.int .i64 (IntKind.i64.wrap y)) := by kernel_rfl
        rw [h0, wrap_i64 (by omega)]
      repeat' ((conv => whnf); first
        | (refine Both.intro ?_ ?_ <;> intro _ <;> try (exfalso; omega))
        | (refine Need.intro (by omega) ?_)
        | (refine ⟨_, u1, ?_⟩)
        | (refine ⟨_, hcell, ?_⟩)
        | (refine ⟨_, u2, ?_⟩)
        | (refine ⟨_, hcell3, ?_⟩)
        | (refine Does.mono (text_any H3 w3 r (by omega) (by omega)) ?_ ; rintro _ H4 ⟨rfl, e4, w4⟩)
        | fail)
      all_goals (conv => whnf)
      have u3' := cellAt_ext w3 e4 u3
      have hcell4' := cellAt_ext w3 e4 hcell4
      have m3 : H.next + 1 ≤ H3.next := e3.next
      have m4 := e4.next
      have hb4 := cellAt_lt w3 hcell4
      have hb3 := cellAt_lt w3 hcell3
      have hb2 := cellAt_lt w3 hcell
      repeat' ((conv => whnf); first
        | (refine Both.intro ?_ ?_ <;> intro _ <;> try (exfalso; omega))
        | (refine Need.intro (by omega) ?_)
        | (refine ⟨_, u3', ?_⟩)
        | (refine ⟨_, hcell4', ?_⟩)
        | (refine Gives.intro ⟨_, hcv z hzc, ?_⟩)
        | (refine Does.mono (text_any H4 w4 z (by omega) (by omega)) ?_ ; rintro _ H5 ⟨rfl, e5, w5⟩)
        | (refine ⟨wordsC (Lib.itoa r) [z], by kernel_rfl, ?_⟩)
        | (refine Need.intro (draw_keep (N := H3.next) (by (simp only [effKeep]; repeat' apply And.intro) <;> first | exact True.intro | exact fun _ _ => True.intro | exact fun _ _ => rfl | exact fun b hb => e4.get b (by omega) | exact fun b hb => e5.get b (by omega)) (by (simp only [lookOld]; repeat' apply And.intro) <;> first | exact True.intro | omega) (by kernel_rfl)) ?_)
        | fail)
      all_goals (conv => whnf)
      have eP5 := Ext.push H5 (.cells (wordsC (Lib.itoa r) [z]) 0 true)
      have e35 := e4.trans (e5.trans eP5)
      have m5 := e5.next
      refine Runs.loop (fun s : Nat × Value => [(9, .int .i64 s.1), (8, s.2), (7, .int .i64 k), (6, .string (mkS (lineT (sideT _) [((n1 : Nat) : Int)] ++ trT ((trs X).take k)))), (4, .int .i64 n1), (1, .pointer (some ⟨H.next, 0, none⟩))])
        (fun s H' => s.1 ≤ m ∧ Starts H3 H' (rowV 9 1) s.2 (wordsC (Lib.itoa r) (z :: zs.take s.1)) ∧ Ext H3 H' ∧ Wf H') (fun s => m - s.1) (0, _) ⟨rfl, rfl, rfl, rfl, rfl, rfl, trivial⟩
        ⟨by simp, .inl ⟨H5.next, rfl, get_new _ _, by omega, by simp⟩, e35, w5.push _⟩ ?_
      rintro ⟨i, v⟩ H6 ⟨hi, hS, e6, w6⟩
      dsimp only at hi hS
      show vc _ _ _ _ _ [(9, .int .i64 (i : Nat)), (8, v), (7, .int .i64 k), (6, .string (mkS (lineT (sideT _) [((n1 : Nat) : Int)] ++ trT ((trs X).take k)))), (4, .int .i64 n1), (1, .pointer (some ⟨H.next, 0, none⟩))] _ _
      have x2 := cellAt_ext w3 e6 u2
      have y3 := cellAt_ext w3 e6 hcell3
      have m6 := e6.next
      obtain ⟨av, rfl, hrw⟩ := hS.row
      have hln : (wordsC (Lib.itoa r) (z :: zs.take i)).length = i + 2 := by simp; omega
      by_cases hlt2 : i < m
      · obtain ⟨y, hyz⟩ := get_of (l := zs) (k := i) (by omega)
        obtain ⟨b6, o6, st6, ha6, hcell6⟩ := (hrow.ext w3 e6).cell i (.int .u8 y) (by simp [lets, hyz])
        subst ha6
        have hyy := hzr y (List.mem_of_getElem? hyz)
        have hb6 := cellAt_lt w6 hcell6
        have happs := fun H7 (w7 : Wf H7) (e7 : Ext H6 H7) => starts_ok (x := .slice (some ⟨H7.next, 0, none⟩) 1 1) (new := [.string (mkS (Lib.itoa y))]) (m := 1) ((e6.trans e7).trans (Ext.push H7 (.cells [.string (mkS (Lib.itoa y))] 0 true))) (w7.push _) strTyR ((hS.ext w6 e7).ext w7 (Ext.push _ _)) (src_slice (get_new _ _) rfl (Nat.le_refl _) (by decide)) rfl rfl (by decide) (by rw [hln]; omega) (by rw [hln]; omega)
        repeat' ((conv => whnf); first
          | (refine Both.intro ?_ ?_ <;> intro _ <;> try (exfalso; omega))
          | (refine Need.intro (by omega) ?_)
          | (refine ⟨_, x2, ?_⟩)
          | (refine ⟨_, y3, ?_⟩)
          | (refine ⟨_, hcell6, ?_⟩)
          | (refine Gives.intro ⟨_, hcv y hyy, ?_⟩)
          | (refine Does.mono (text_any H6 w6 y (by omega) (by omega)) ?_ ; rintro _ H7 ⟨rfl, e7, w7⟩)
          | (refine ⟨[.string (mkS (Lib.itoa y))], by kernel_rfl, ?_⟩)
          | fail)
        all_goals (conv => whnf)
        obtain ⟨v8, H8, ev8, happ, S8, e8, w8⟩ := happs H7 w7 e7
        repeat' ((conv => whnf); first
          | (refine Both.intro ?_ ?_ <;> intro _ <;> try (exfalso; omega))
          | (refine Need.intro (by omega) ?_)
          | (refine Outs.intro ⟨_, _, _, happ, ?_⟩)
          | fail)
        all_goals (conv => whnf)
        exact ⟨(i + 1, v8), ⟨rfl, rfl, rfl, rfl, rfl, rfl, trivial⟩, ⟨by show i + 1 ≤ m; omega, by show Starts H3 H8 _ v8 (wordsC (Lib.itoa r) (z :: zs.take (i + 1))); rw [List.take_add_one, hyz]; simpa [wordsC] using S8, e8, w8⟩, by show m - (i + 1) < m - i; omega⟩
      · obtain rfl : i = m := by omega
        rw [List.take_of_length_le (by omega)] at hS hrw hln
        have hzz : SmallZ (z :: zs) := fun y hy => by
          rcases List.mem_cons.1 hy with rfl | hy
          · omega
          · have := hzr y hy; omega
        have hil := itoa_len r (by omega) (by omega)
        have hsa := fun bw => strAdd (x := mkS (lineT (sideT bw) [((n1 : Nat) : Int)] ++ trT ((trs X).take k))) (y := mkS (lineT (Lib.itoa r) (z :: zs))) rfl rfl (by have := hsk bw; have := lineT_len (w := Lib.itoa r) hzz; simp at this; omega)
        rw [List.take_of_length_le (by omega)]
        repeat' ((conv => whnf); first
          | (refine Both.intro ?_ ?_ <;> intro _ <;> try (exfalso; omega))
          | (refine Need.intro (by omega) ?_)
          | (refine ⟨_, x2, ?_⟩)
          | (refine ⟨_, y3, ?_⟩)
          | (refine Does.mono (refLineR_any H6 _ _ _ (Lib.itoa r) (z :: zs) hrw hzz (by simp; omega) (by omega)) ?_ ; rintro _ _ ⟨rfl, rfl⟩)
          | (refine Gives.intro ⟨_, hsa _, ?_⟩)
          | fail)
        all_goals (conv => whnf)
        exact ⟨k + 1, ⟨rfl, by rw [trT_take hp, ← List.append_assoc]; rfl, rfl, rfl, trivial⟩, ⟨by omega, e3.trans e6, w6, hk1⟩, by omega⟩
    · obtain rfl : k = n1 := by omega
      rw [List.take_of_length_le (by omega)]
      obtain ⟨k1, k2⟩ := hgood ⟨hh, by rw [← l1]; exact hR⟩
      rw [k1, k2]
      repeat' ((conv => whnf); first
        | (refine Both.intro ?_ ?_ <;> intro _ <;> try (exfalso; omega))
        | (refine Need.intro (by omega) ?_)
        | (skip ; fail)
        | fail)
      all_goals (conv => whnf)
      exact ⟨rfl, e0.trans e3, w3⟩
end Go.AX.Tryd
