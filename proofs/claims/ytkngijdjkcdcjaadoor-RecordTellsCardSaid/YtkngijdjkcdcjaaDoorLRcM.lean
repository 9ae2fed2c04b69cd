/- rejoinderlaw29: Copy, Same, few; RecordTells. -/
import Derived.Test.YtkngijdjkcdcjaaDoorLRcK
namespace Go.AX.Lw
open Go Go.AX
set_option linter.unusedVariables false
variable {P : Program}
theorem append_evTo {H H' : AHeap} {size code by_ : Nat} {base : Option Addr} {len cap n : Nat} {new : List Value} {v : Value} {ev : Ev} (h : aAppendTo H size code by_ base len cap n new = some (.val v H' ev)) : ev = .eff H H' := by
  unfold aAppendTo at h
  simp only [cond_eq_ite] at h
  repeat' split at h
  all_goals first
    | (cases h; rfl)
    | (cases h)
theorem append_ev {H H' : AHeap} {ts : Array TypeId} {l : List Value} {v : Value} {ev : Ev} (h : aAppend P H ts l = some (.val v H' ev)) : ev = .eff H H' := by
  unfold aAppend at h
  simp only [cond_eq_ite] at h
  repeat' split at h
  all_goals first
    | exact append_evTo h
    | (cases h)
end Go.AX.Lw
namespace Go.AX.Tryd
open Go Go.AX Go.AX.Lw Go.Proofs
set_option linter.unusedVariables false
set_option linter.unusedSimpArgs false
set_option maxRecDepth 100000
theorem zeroX : zeroOf Tryd.prog 30 = some (.agg #[.bool false, .slice none 0 0, .slice none 0 0, .slice none 0 0]) := by kernel_rfl
theorem few_any (H : AHeap) (hw : Wf H) (X : Str) (a1 a2 a3 : Option Addr) (n1 c1 n2 c2 n3 c3 : Nat) :
    Does Tryd.prog orc 4 [strV X a1 n1 c1 a2 n2 c2 a3 n3 c3] H fun r H' => r = .ret (.bool (decide (n1 ≤ 300 ∧ n2 ≤ 300 ∧ n3 ≤ 300))) ∧ Ext H H' ∧ Wf H' := by
  refine Does.of Tryd.func4 (fun _ _ => rfl) rfl ?_
  have g0 := get_new H (.cells (strC X a1 n1 c1 a2 n2 c2 a3 n3 c3) 0 true)
  have w0 := hw.push (.cells (strC X a1 n1 c1 a2 n2 c2 a3 n3 c3) 0 true)
  have e0 := Ext.push H (.cells (strC X a1 n1 c1 a2 n2 c2 a3 n3 c3) 0 true)
  have q1 := cellAt_of g0 (o := 1) rfl
  have q2 := cellAt_of g0 (o := 2) rfl
  have q3 := cellAt_of g0 (o := 3) rfl
  repeat' ((conv => whnf); first
    | (refine Both.intro ?_ ?_ <;> intro _ <;> try (exfalso; omega))
    | (refine Need.intro (by omega) ?_)
    | (refine ⟨_, q1, ?_⟩)
    | (refine ⟨_, q2, ?_⟩)
    | (refine ⟨_, q3, ?_⟩)
    | fail)
  all_goals (conv => whnf)
  all_goals first
    | exact ⟨by rw [decide_eq_true (by omega)]; rfl, e0, w0⟩
    | exact ⟨by rw [decide_eq_false (by omega)]; rfl, e0, w0⟩
theorem sameStr_yes (H : AHeap) (hw : Wf H) (X : Str) (a1 a2 a3 : Option Addr) (n1 c1 n2 c2 n3 c3 : Nat) (R : StrR H X a1 n1 c1 a2 n2 c2 a3 n3 c3) (d1 d2 d3 : Option Addr) (m1 k1 m2 k2 m3 k3 : Nat) (S : StrR H X d1 m1 k1 d2 m2 k2 d3 m3 k3) (h1 : n1 ≤ 2 ^ 30) (h2 : n2 ≤ 2 ^ 30) (h3 : n3 ≤ 2 ^ 30) :
    Does Tryd.prog orc 12 [strV X a1 n1 c1 a2 n2 c2 a3 n3 c3, strV X d1 m1 k1 d2 m2 k2 d3 m3 k3] H fun r H' => r = .ret (.bool true) ∧ Ext H H' ∧ Wf H' := by
  have l1 := R.ranks.len; simp at l1
  have l2 := R.reply.len
  have l3 := R.choice.len; simp at l3
  have j1 := S.ranks.len; simp at j1
  have j2 := S.reply.len
  have j3 := S.choice.len; simp at j3
  refine Does.of Tryd.func12 (fun _ _ => rfl) rfl ?_
  obtain ⟨Z, hZ⟩ : ∃ Z, Z = (H.push (.cells (strV X a1 n1 c1 a2 n2 c2 a3 n3 c3).cells.toList 0 true)).push (.cells (strV X d1 m1 k1 d2 m2 k2 d3 m3 k3).cells.toList 0 true) := ⟨_, rfl⟩
  have gA : Z.get H.next = some (.cells (strC X a1 n1 c1 a2 n2 c2 a3 n3 c3) 0 true) := by rw [hZ, AHeap.get_push, if_neg (by simp)]; exact get_new _ _
  have gB : Z.get (H.next + 1) = some (.cells (strC X d1 m1 k1 d2 m2 k2 d3 m3 k3) 0 true) := by rw [hZ]; exact get_new _ _
  have eZ : Ext H Z := by rw [hZ]; exact (Ext.push _ _).trans (Ext.push _ _)
  have wZ : Wf Z := by rw [hZ]; exact (hw.push _).push _
  have x0 := cellAt_of gA (o := 0) rfl
  have x1 := cellAt_of gA (o := 1) rfl
  have x2 := cellAt_of gA (o := 2) rfl
  have x3 := cellAt_of gA (o := 3) rfl
  have y0 := cellAt_of gB (o := 0) rfl
  have y1 := cellAt_of gB (o := 1) rfl
  have y2 := cellAt_of gB (o := 2) rfl
  have y3 := cellAt_of gB (o := 3) rfl
  have s1 := sameInts_any Z a1 d1 n1 c1 m1 k1 X.ranks X.ranks (R.ranks.ext hw eZ) (S.ranks.ext hw eZ) (by omega) (by omega)
  have s3 := sameLetters_any Z a3 d3 n3 c3 m3 k3 X.choice X.choice (R.choice.ext hw eZ) (S.choice.ext hw eZ) (by omega) (by omega)
  conv => whnf
  rw [← hZ]
  have hnb : aBin Tryd.prog .neq 4 false false (.bool X.wins) (.bool X.wins) = some (.bool false) := by cases X.wins <;> rfl
  repeat' ((conv => whnf); first
    | (refine Both.intro ?_ ?_ <;> intro _ <;> try (exfalso; omega))
    | (refine Need.intro (by omega) ?_)
    | (refine ⟨_, x0, ?_⟩)
    | (refine ⟨_, y0, ?_⟩)
    | (refine Gives.intro ⟨_, hnb, ?_⟩)
    | (refine ⟨_, x1, ?_⟩)
    | (refine ⟨_, y1, ?_⟩)
    | (refine ⟨_, x2, ?_⟩)
    | (refine ⟨_, y2, ?_⟩)
    | (refine ⟨_, x3, ?_⟩)
    | (refine ⟨_, y3, ?_⟩)
    | (refine Does.mono s1 ?_ ; rintro _ _ ⟨b, rfl, hb, rfl⟩ ; cases (hb.2 rfl))
    | (refine Does.mono s3 ?_ ; rintro _ _ ⟨b, rfl, hb, rfl⟩ ; cases (hb.2 rfl))
    | fail)
  all_goals (conv => whnf)
  refine Runs.loop (fun k : Nat => [(5, .int .i64 k), (2, .pointer (some ⟨H.next, 0, none⟩)), (3, .pointer (some ⟨H.next + 1, 0, none⟩))])
    (fun k H' => k ≤ n2 ∧ Z = H') (fun k => n2 - k) 0 ⟨rfl, rfl, rfl, trivial⟩ ⟨by omega, rfl⟩ ?_
  rintro k _ ⟨hk, rfl⟩
  by_cases hlt : k < n2
  · obtain ⟨b3, o3, st3, bb, m, kk, zs, ha3, hcell3, hzs, hrow, hm⟩ := (R.reply.ext hw eZ).at (j := k) (by omega)
    obtain ⟨b4, o4, st4, bb', m', kk', zs', ha4, hcell4, hzs', hrow', hm'⟩ := (S.reply.ext hw eZ).at (j := k) (by omega)
    subst ha3 ha4
    rw [hzs] at hzs'
    cases hzs'
    have s4 := sameLetters_any Z bb bb' m kk m' kk' zs zs hrow hrow' (by omega) (by omega)
    repeat' ((conv => whnf); first
      | (refine Both.intro ?_ ?_ <;> intro _ <;> try (exfalso; omega))
      | (refine Need.intro (by omega) ?_)
      | (refine ⟨_, x2, ?_⟩)
      | (refine ⟨_, hcell3, ?_⟩)
      | (refine ⟨_, y2, ?_⟩)
      | (refine ⟨_, hcell4, ?_⟩)
      | (refine Does.mono s4 ?_ ; rintro _ _ ⟨b, rfl, hb, rfl⟩ ; cases (hb.2 rfl))
      | (refine Need.intro (draw_of (by simp only [effAll, lookAll, and_self])) ?_)
      | fail)
    all_goals (conv => whnf)
    exact ⟨k + 1, ⟨rfl, rfl, rfl, trivial⟩, ⟨by omega, rfl⟩, by omega⟩
  · obtain rfl : k = n2 := by omega
    repeat' ((conv => whnf); first
      | (refine Both.intro ?_ ?_ <;> intro _ <;> try (exfalso; omega))
      | (refine Need.intro (by omega) ?_)
      | (refine ⟨_, x2, ?_⟩)
      | fail)
    all_goals (conv => whnf)
    exact ⟨rfl, eZ, wZ⟩
abbrev LC : Nat := rowV 28 1
abbrev XC : Nat := typedV 30
theorem lx_ne : LC ≠ XC := by decide
theorem copyStr_any (H : AHeap) (hw : Wf H) (X : Str) (a1 a2 a3 : Option Addr) (n1 c1 n2 c2 n3 c3 : Nat) (R : StrR H X a1 n1 c1 a2 n2 c2 a3 n3 c3) (h1 : n1 ≤ 2 ^ 30) (h2 : n2 ≤ 2 ^ 30) (h3 : n3 ≤ 2 ^ 30) :
    Does Tryd.prog orc 6 [strV X a1 n1 c1 a2 n2 c2 a3 n3 c3] H fun r H' => ∃ d1 d2 d3, r = .ret (strV X d1 n1 n1 d2 n2 n2 d3 n3 n3) ∧ Ext H H' ∧ Wf H' ∧ StrR H' X d1 n1 n1 d2 n2 n2 d3 n3 n3 := by
  have l1 := R.ranks.len; simp at l1
  have l2 := R.reply.len
  have l3 := R.choice.len; simp at l3
  refine Does.of Tryd.func6 (fun _ _ => rfl) rfl ?_
  have g0 := get_new H (.cells (strC X a1 n1 c1 a2 n2 c2 a3 n3 c3) 0 true)
  have w0 := hw.push (.cells (strC X a1 n1 c1 a2 n2 c2 a3 n3 c3) 0 true)
  have e0 := Ext.push H (.cells (strC X a1 n1 c1 a2 n2 c2 a3 n3 c3) 0 true)
  have q0 := cellAt_of g0 (o := 0) rfl
  have q1 := cellAt_of g0 (o := 1) rfl
  have q2 := cellAt_of g0 (o := 2) rfl
  have q3 := cellAt_of g0 (o := 3) rfl
  obtain ⟨Z, hZ⟩ : ∃ Z, Z = (H.push (.cells (strV X a1 n1 c1 a2 n2 c2 a3 n3 c3).cells.toList 0 true)).push (.cells (Value.agg #[.bool false, .slice none 0 0, .slice none 0 0, .slice none 0 0]).cells.toList (typedV 30) true) := ⟨_, rfl⟩
  have gZ : Z.get (H.next + 1) = some (.cells [.bool false, .slice none 0 0, .slice none 0 0, .slice none 0 0] (typedV 30) true) := by rw [hZ]; exact get_new _ _
  have wZ : Wf Z := by rw [hZ]; exact w0.push _
  have eZ : Ext (H.push (.cells (strC X a1 n1 c1 a2 n2 c2 a3 n3 c3) 0 true)) Z := by rw [hZ]; exact Ext.push _ _
  have nZ : Z.next = H.next + 2 := by rw [hZ]; rfl
  have p0 := cellAt_ext w0 eZ q0
  have p1 := cellAt_ext w0 eZ q1
  have p3 := cellAt_ext w0 eZ q3
  repeat' ((conv => whnf); first
    | (refine Both.intro ?_ ?_ <;> intro _ <;> try (exfalso; omega))
    | (refine Need.intro (by omega) ?_)
    | (refine Gives.intro ⟨_, zeroX, ?_⟩)
    | (rw [← hZ] ; refine ⟨_, p0, ?_⟩)
    | (refine ⟨_, p1, ?_⟩)
    | (refine Does.mono (copyInts_any Z wZ a1 n1 c1 X.ranks (R.ranks.ext hw (e0.trans eZ)) (by omega)) ?_ ; rintro _ H1 ⟨d1, rfl, e1, w1, r1, b1n, s1n, hd1, hb1n⟩ ; have p3' := cellAt_ext wZ e1 p3)
    | (refine ⟨_, p3', ?_⟩)
    | (refine Does.mono (copyLets_any H1 w1 a3 n3 c3 X.choice (R.choice.ext hw (e0.trans (eZ.trans e1))) (by omega)) ?_ ; rintro _ H2 ⟨d3, rfl, e2, w2, r3, b3n, s3n, _, hd3, hb3n, -⟩)
    | fail)
  all_goals (conv => whnf)
  have hbd : aBuild Tryd.prog 30 [(0, .bool X.wins), (1, .slice d1 n1 n1), (3, .slice d3 n3 n3)] = some (.agg #[.bool X.wins, .slice d1 n1 n1, .slice none 0 0, .slice d3 n3 n3]) := by kernel_rfl
  have m1 := e1.next
  have m2 := e2.next
  obtain ⟨Y, hY⟩ : ∃ Y, Y = H2.push (.cells (Value.agg #[.bool false, .slice none 0 0, .slice none 0 0, .slice none 0 0]).cells.toList (typedV 30) true) := ⟨_, rfl⟩
  have gY : Y.get H2.next = some (.cells [.bool false, .slice none 0 0, .slice none 0 0, .slice none 0 0] (typedV 30) true) := by rw [hY]; exact get_new _ _
  have wY : Wf Y := by rw [hY]; exact w2.push _
  have eY : Ext H2 Y := by rw [hY]; exact Ext.push _ _
  have nY : Y.next = H2.next + 1 := by rw [hY]; rfl
  have st1 := storeAgg_ok (P := Tryd.prog) (t := 30) (vs := [.bool X.wins, .slice d1 n1 n1, .slice none 0 0, .slice d3 n3 n3]) (by kernel_rfl) rfl gY rfl
  obtain ⟨H3, hH3⟩ : ∃ T, T = Y.set H2.next (.cells [.bool X.wins, .slice d1 n1 n1, .slice none 0 0, .slice d3 n3 n3] (typedV 30) true) := ⟨_, rfl⟩
  rw [← hH3] at st1
  have G3 : H3.get H2.next = some (.cells [.bool X.wins, .slice d1 n1 n1, .slice none 0 0, .slice d3 n3 n3] (typedV 30) true) := by rw [hH3, AHeap.get_set, if_pos rfl]
  have w3 : Wf H3 := by rw [hH3]; exact wY.set gY _
  have e3 : Ext H2 H3 := by rw [hH3]; exact eY.set (Nat.le_refl _) _
  repeat' ((conv => whnf); first
    | (refine Both.intro ?_ ?_ <;> intro _ <;> try (exfalso; omega))
    | (refine Need.intro (by omega) ?_)
    | (refine Gives.intro ⟨_, hbd, ?_⟩)
    | (refine Gives.intro ⟨_, zeroX, ?_⟩)
    | (rw [← hY] ; refine Outs.intro ⟨_, _, _, st1, ?_⟩)
    | (refine Need.intro (draw_in (fun b => b = H.next) (by (simp only [effIn]; repeat' apply And.intro) <;> first | exact True.intro | (rintro b rfl; first | exact e1.get _ (by omega) | exact e2.get _ (by omega) | (rw [hH3, AHeap.get_set, if_neg (by omega)]))) (by (simp only [lookIn]; repeat' apply And.intro) <;> first | exact True.intro | rfl) (by kernel_rfl)) ?_)
    | fail)
  all_goals (conv => whnf)
  have n3' : H3.next = H2.next + 1 := by rw [hH3]; exact nY
  refine Runs.loop (fun k : Nat => [(4, .int .i64 k), (3, .pointer (some ⟨H2.next, 0, none⟩)), (2, .pointer (some ⟨H.next + 1, 0, none⟩)), (1, .pointer (some ⟨H.next, 0, none⟩))])
    (fun k H' => k ≤ n2 ∧ Ext H2 H' ∧ Wf H' ∧ ∃ v vs, H'.get H2.next = some (.cells [.bool X.wins, .slice d1 n1 n1, v, .slice d3 n3 n3] (typedV 30) true) ∧ Grown H2 H' (rowV 28 1) v vs ∧ vs.length = k ∧
      ∀ (j : Nat) w, vs[j]? = some w → ∃ b m zs, w = .slice b m m ∧ X.reply[j]? = some zs ∧ Row H' b m m (lets zs) ∧ SafeR (rowV 28 1) H2.next H' b ∧ m ≤ 2 ^ 47 ∧ ∀ c o st, b = some ⟨c, o, st⟩ → H2.next ≤ c) (fun k => n2 - k) 0 ⟨rfl, rfl, rfl, rfl, trivial⟩
    ⟨by omega, e3, w3, .slice none 0 0, [], G3, .inl ⟨rfl, rfl⟩, rfl, by simp⟩ ?_
  rintro k H5 ⟨hk, e5, w5, v, vs, G5, V5, hvl, hvs⟩
  have u2 := cellAt_ext w0 (eZ.trans (e1.trans (e2.trans e5))) q2
  have v2 := cellAt_of G5 (o := 2) rfl
  by_cases hlt : k < n2
  · obtain ⟨b3, o3, st3, bb, m, kk, zs, ha3, hcell3, hzs, hrow, hm⟩ := R.reply.at (j := k) (by omega)
    subst ha3
    have hb3 := cellAt_lt hw hcell3
    have hcell3 := cellAt_ext hw (e0.trans (eZ.trans (e1.trans (e2.trans e5)))) hcell3
    have hrow := hrow.ext hw (e0.trans (eZ.trans (e1.trans (e2.trans e5))))
    obtain ⟨av, rfl, hrv⟩ := V5.row
    repeat' ((conv => whnf); first
      | (refine Both.intro ?_ ?_ <;> intro _ <;> try (exfalso; omega))
      | (refine Need.intro (by omega) ?_)
      | (refine ⟨_, u2, ?_⟩)
      | (refine ⟨_, v2, ?_⟩)
      | (refine ⟨_, hcell3, ?_⟩)
      | (refine Does.mono (copyLets_any H5 w5 bb m kk zs hrow (by omega)) ?_ ; rintro _ H6 ⟨a', rfl, e6, w6, r6, bn, stn, cn, rfl, hbn, gbn, hcn⟩)
      | (refine ⟨[.slice (some ⟨bn, 0, stn⟩) m m], by kernel_rfl, ?_⟩)
      | fail)
    all_goals (conv => whnf)
    have eP := Ext.push H6 (.cells [.slice (some ⟨bn, 0, stn⟩) m m] 0 true)
    have hB5 := w5.lt G5
    have m6 := e6.next
    obtain ⟨v8, H8, ev8, happ, V8, e8, w8, n8, k8⟩ := grownF_ok (m := 1) (new := [.slice (some ⟨bn, 0, stn⟩) m m]) (x := .slice (some ⟨H6.next, 0, none⟩) 1 1) ((e5.trans e6).trans eP) (w6.push _) llTyR ((V5.ext w5 e6).ext w6 eP) (src_slice (get_new _ _) rfl (Nat.le_refl _) (by decide)) rfl rfl (by decide) (by rw [hvl]; omega) (by rw [hvl]; omega) H2.next
    obtain rfl := append_ev happ
    have G7 : (H6.push (.cells [.slice (some ⟨bn, 0, stn⟩) m m] 0 true)).get H2.next = some (.cells [.bool X.wins, .slice d1 n1 n1, .slice av vs.length vs.length, .slice d3 n3 n3] XC true) := by rw [(e6.trans eP).get _ hB5]; exact G5
    have G8 := k8 _ _ G7 (fun ys h => by injection h with _ h2 _; exact absurd h2 lx_ne.symm)
    have hst := store_ok (P := Tryd.prog) (t := 27) (b := H2.next) (o := 0 + 2) (v := v8) (by kernel_rfl) (by rcases V8 with ⟨rfl, -⟩ | ⟨_, rfl, -⟩ <;> rfl) (by rcases V8 with ⟨rfl, -⟩ | ⟨_, rfl, -⟩ <;> rfl) G8 (by simp)
    have V9 := V8.set (cs' := [.bool X.wins, .slice d1 n1 n1, v8, .slice d3 n3 n3]) (k' := XC) G8 lx_ne
    have F : Frm LC H2.next H5 (H8.set H2.next (.cells [.bool X.wins, .slice d1 n1 n1, v8, .slice d3 n3 n3] XC true)) := (((Frm.of_ext w5 (e6.trans eP)).trans ⟨n8, fun c o h1 h2 h3 => k8 c o h1 h3⟩)).set _
    have F6 : Frm LC H2.next H6 (H8.set H2.next (.cells [.bool X.wins, .slice d1 n1 n1, v8, .slice d3 n3 n3] XC true)) := (((Frm.of_ext w6 eP).trans ⟨n8, fun c o h1 h2 h3 => k8 c o h1 h3⟩)).set _
    have hne6 : ∀ xs, AObj.cells (lets zs) cn true ≠ .cells xs LC true := fun xs e => by
      injection e with _ e2 _
      rcases hcn with rfl | rfl
      · exact absurd e2 (by decide)
      · exact absurd e2 (by decide)
    have S6 : SafeR LC H2.next H6 (some ⟨bn, 0, stn⟩) := fun c o st e => by
      cases e
      exact ⟨_, gbn, by omega, hne6⟩
    repeat' ((conv => whnf); first
      | (refine Both.intro ?_ ?_ <;> intro _ <;> try (exfalso; omega))
      | (refine Need.intro (by omega) ?_)
      | (refine Outs.intro ⟨_, _, _, happ, ?_⟩)
      | (refine Outs.intro ⟨_, _, _, hst, ?_⟩)
      | (refine Need.intro (draw_mix (by (simp only [effMix, lookMix]; repeat' apply And.intro) <;> first | exact True.intro | exact .inr (by unfold cellsAt; rw [AHeap.get_set, if_neg (by omega)]) | exact .inr (by unfold cellsAt; rw [G7, G8]) | exact .inr (by unfold cellsAt; rw [e8.get _ (by omega), (e5.trans (e6.trans eP)).get _ (by omega)]) | exact .inr (by unfold cellsAt; rw [e6.get _ (by omega)]) | exact .inl (by decide) | exact .inr (.inl (by kernel_rfl)) | exact .inl (by kernel_rfl))) ?_)
      | fail)
    all_goals (conv => whnf)
    refine ⟨k + 1, ⟨rfl, rfl, rfl, rfl, trivial⟩, ⟨by omega, e8.set (Nat.le_refl _) _, w8.set G8 _, v8, vs ++ [.slice (some ⟨bn, 0, stn⟩) m m], by rw [AHeap.get_set, if_pos rfl]; rfl, by exact V9, by simp [hvl], fun j w hw' => ?_⟩, by omega⟩
    by_cases hj : j < vs.length
    · rw [List.getElem?_append_left hj] at hw'
      obtain ⟨b, m', zs', q1, q2, q3, q4, q5, q6⟩ := hvs j w hw'
      exact ⟨b, m', zs', q1, q2, Row.frm q3 q4 F, q4.frm F, q5, q6⟩
    · have hb := (List.getElem?_eq_some_iff.1 hw').1
      simp at hb
      obtain rfl : j = vs.length := by omega
      rw [List.getElem?_append_right (Nat.le_refl _), Nat.sub_self] at hw'
      cases hw'
      exact ⟨_, m, zs, rfl, by rw [hvl]; exact hzs, Row.frm r6 S6 F6, S6.frm F6, hm, fun c o st e => by cases e; omega⟩
  · obtain rfl : k = n2 := by omega
    have o5 := cellsAt_all G5 rfl (n := 4)
    obtain ⟨av, rfl, hrv⟩ := V5.row
    have g5Z : H5.get (H.next + 1) = some (.cells [.bool false, .slice none 0 0, .slice none 0 0, .slice none 0 0] (typedV 30) true) := by rw [(e1.trans (e2.trans e5)).get _ (by omega)]; exact gZ
    have st9 := storeAgg_ok (P := Tryd.prog) (t := 30) (vs := [.bool X.wins, .slice d1 n1 n1, .slice av vs.length vs.length, .slice d3 n3 n3]) (by kernel_rfl) rfl g5Z rfl
    obtain ⟨H9, hH9⟩ : ∃ T, T = H5.set (H.next + 1) (.cells [.bool X.wins, .slice d1 n1 n1, .slice av vs.length vs.length, .slice d3 n3 n3] (typedV 30) true) := ⟨_, rfl⟩
    have st9' : aStore Tryd.prog H5 30 (.pointer (some ⟨H.next + 1, 0, none⟩)) (.agg #[.bool X.wins, .slice d1 n1 n1, .slice av vs.length vs.length, .slice d3 n3 n3]) = some (.val undef H9 (.eff H5 H9)) := by rw [hH9]; exact st9
    have G9 : H9.get (H.next + 1) = some (.cells [.bool X.wins, .slice d1 n1 n1, .slice av vs.length vs.length, .slice d3 n3 n3] (typedV 30) true) := by rw [hH9, AHeap.get_set, if_pos rfl]
    have o9 := cellsAt_all G9 rfl (n := 4)
    have e9 : Ext H H9 := by rw [hH9]; exact (e0.trans (eZ.trans (e1.trans (e2.trans e5)))).set (by omega) _
    have w9 : Wf H9 := by rw [hH9]; exact w5.set g5Z _
    repeat' ((conv => whnf); first
      | (refine Both.intro ?_ ?_ <;> intro _ <;> try (exfalso; omega))
      | (refine Need.intro (by omega) ?_)
      | (refine ⟨_, u2, ?_⟩)
      | (refine ⟨_, o5, ?_⟩)
      | (refine Outs.intro ⟨_, _, _, st9', ?_⟩)
      | (refine ⟨_, o9, ?_⟩)
      | fail)
    all_goals (conv => whnf)
    have k9 : ∀ b, H.next + 2 ≤ b → H9.get b = H5.get b := fun b hb => by rw [hH9, AHeap.get_set, if_neg (by omega)]
    refine ⟨d1, av, d3, by rw [hvl]; rfl, e9, w9, ⟨?_, ⟨vs, ?_, by rw [hvl]; exact l2.1, fun j w hj => ?_⟩, ?_⟩⟩
    · refine (r1.ext w1 (e2.trans e5)).same fun b o st e => k9 _ ?_
      rw [hd1] at e; cases e; omega
    · have := hrv
      rw [hvl] at this
      refine this.same fun b o st e => k9 _ ?_
      rcases V5 with ⟨h1, -⟩ | ⟨b', h1, -, hb', -⟩
      · injection h1 with h1 _ _; rw [h1] at e; cases e
      · injection h1 with h1 _ _; rw [h1] at e; cases e; omega
    · obtain ⟨b, m, zs, q1, q2, q3, q4, q5, q6⟩ := hvs j w hj
      exact ⟨b, m, m, zs, q1, q2, q3.same fun c o st e => k9 _ (by have := q6 c o st e; omega), q5⟩
    · refine (r3.ext w2 e5).same fun b o st e => k9 _ ?_
      rw [hd3] at e; cases e; omega
/-- RecordTells. -/
theorem recordTells_any (H : AHeap) (hw : Wf H) (hT : TabIn H) (A : Aut) (a1 a2 a3 : Option Addr) (n1 c1 n2 c2 n3 c3 : Nat) (R : AutR H A a1 n1 c1 a2 n2 c2 a3 n3 c3) (h1 : n1 ≤ 2 ^ 47) (h2 : n2 ≤ 2 ^ 47) (h3 : n3 ≤ 2 ^ 47)
    (X : Str) (d1 d2 d3 : Option Addr) (m1 k1 m2 k2 m3 k3 : Nat) (S : StrR H X d1 m1 k1 d2 m2 k2 d3 m3 k3) (hL : LetX X) (j1 : m1 ≤ 2 ^ 47) (j2 : m2 ≤ 2 ^ 47) (j3 : m3 ≤ 2 ^ 47) :
    Does Tryd.prog orc 3 [autV A a1 n1 c1 a2 n2 c2 a3 n3 c3, strV X d1 m1 k1 d2 m2 k2 d3 m3 k3] H fun r _ => r = .ret (.bool true) := by
  refine Does.of Tryd.func3 (fun _ _ => rfl) rfl ?_
  obtain ⟨Z, hZ⟩ : ∃ Z, Z = (H.push (.cells (autV A a1 n1 c1 a2 n2 c2 a3 n3 c3).cells.toList 0 true)).push (.cells (strV X d1 m1 k1 d2 m2 k2 d3 m3 k3).cells.toList 0 true) := ⟨_, rfl⟩
  have gA : Z.get H.next = some (.cells (autC A a1 n1 c1 a2 n2 c2 a3 n3 c3) 0 true) := by rw [hZ, AHeap.get_push, if_neg (by simp)]; exact get_new _ _
  have gB : Z.get (H.next + 1) = some (.cells (strC X d1 m1 k1 d2 m2 k2 d3 m3 k3) 0 true) := by rw [hZ]; exact get_new _ _
  have eZ : Ext H Z := by rw [hZ]; exact (Ext.push _ _).trans (Ext.push _ _)
  have wZ : Wf Z := by rw [hZ]; exact (hw.push _).push _
  have RZ := R.ext hw eZ
  have SZ := S.ext hw eZ
  have xa := cellsAt_all gA rfl (n := 4)
  have ya := cellsAt_all gB rfl (n := 4)
  have x1 := cellAt_of gA (o := 1) rfl
  have x2 := cellAt_of gA (o := 2) rfl
  have x3 := cellAt_of gA (o := 3) rfl
  conv => whnf
  rw [← hZ]
  by_cases hbig : n3 > 600 ∨ n1 > 300 ∨ n2 > 300
  · skip
    repeat' ((conv => whnf); first
      | (refine Both.intro ?_ ?_ <;> intro _ <;> try (exfalso; omega))
      | (refine Need.intro (by omega) ?_)
      | (refine ⟨_, x1, ?_⟩)
      | (refine ⟨_, x2, ?_⟩)
      | (refine ⟨_, x3, ?_⟩)
      | fail)
    all_goals (conv => whnf)
    all_goals first
      | exact rfl
      | (exfalso; omega)
  have hfew := few_any Z wZ X d1 d2 d3 m1 k1 m2 k2 m3 k3
  by_cases hf : m1 ≤ 300 ∧ m2 ≤ 300 ∧ m3 ≤ 300
  case neg =>
    rw [decide_eq_false hf] at hfew
    repeat' ((conv => whnf); first
      | (refine Both.intro ?_ ?_ <;> intro _ <;> try (exfalso; omega))
      | (refine Need.intro (by omega) ?_)
      | (refine ⟨_, x1, ?_⟩)
      | (refine ⟨_, x2, ?_⟩)
      | (refine ⟨_, x3, ?_⟩)
      | (refine ⟨_, ya, ?_⟩)
      | (refine Does.mono hfew ?_ ; rintro _ H1 ⟨rfl, e1, w1⟩)
      | fail)
    all_goals (conv => whnf)
    exact rfl
  rw [decide_eq_true hf] at hfew
  repeat' ((conv => whnf); first
    | (refine Both.intro ?_ ?_ <;> intro _ <;> try (exfalso; omega))
    | (refine Need.intro (by omega) ?_)
    | (refine ⟨_, x1, ?_⟩)
    | (refine ⟨_, x2, ?_⟩)
    | (refine ⟨_, x3, ?_⟩)
    | (refine ⟨_, ya, ?_⟩)
    | (refine Does.mono hfew ?_ ; rintro _ H1 ⟨rfl, e1, w1⟩)
    | fail)
  all_goals (conv => whnf)
  have xa1 := cellsAt_ext wZ e1 xa
  have ya1 := cellsAt_ext wZ e1 ya
  repeat' ((conv => whnf); first
    | (refine Both.intro ?_ ?_ <;> intro _ <;> try (exfalso; omega))
    | (refine Need.intro (by omega) ?_)
    | (refine ⟨_, xa1, ?_⟩)
    | (refine Does.mono (lentAuto_any H1 w1 A _ _ _ _ _ _ _ _ _ (RZ.ext wZ e1) (by omega) (by omega) (by omega)) ?_ ; rintro _ H2 ⟨b1, b2, b3, rfl, e2, w2, L2⟩)
    | fail)
  all_goals (conv => whnf)
  have l1 := R.acc.len; simp at l1
  have l2 := R.gd.len; simp at l2
  have l3 := R.nd.len; simp at l3
  have E2 := e1.trans e2
  have ya2 : cellsAt H2 (H.next + 1) 0 4 = some (strC X d1 m1 k1 d2 m2 k2 d3 m3 k3) := cellsAt_ext wZ E2 ya
  repeat' ((conv => whnf); first
    | (refine Both.intro ?_ ?_ <;> intro _ <;> try (exfalso; omega))
    | (refine Need.intro (by omega) ?_)
    | (refine ⟨_, ya2, ?_⟩)
    | (refine Does.mono (copyStr_any H2 w2 X _ _ _ _ _ _ _ _ _ (SZ.ext wZ E2) (by omega) (by omega) (by omega)) ?_ ; rintro _ H3 ⟨t1, t2, t3, rfl, e3, w3, S3⟩)
    | fail)
  all_goals (conv => whnf)
  have LR : AutR H2 A (some ⟨b1, 0, none⟩) n1 (n1 + 3) (some ⟨b2, 0, none⟩) n2 (n2 + 3) (some ⟨b3, 0, none⟩) n3 (n3 + 3) :=
    ⟨Row.of_block L2.g1 (by simp; omega) (by omega) (List.prefix_append _ _), Row.of_block L2.g2 (by simp; omega) (by omega) (List.prefix_append _ _), by rw [l3]; exact ndFl_rows L2.g3 (by omega)⟩
  obtain ⟨Y, hY⟩ : ∃ Y, Y = (H3.push (.cells (Value.agg #[.int .i64 0, .slice none 0 0, .slice none 0 0, .slice none 0 0]).cells.toList (typedV 26) true)).push (.cells (Value.agg #[.bool false, .slice none 0 0, .slice none 0 0, .slice none 0 0]).cells.toList (typedV 30) true) := ⟨_, rfl⟩
  have gY1 : Y.get H3.next = some (.cells [.int .i64 0, .slice none 0 0, .slice none 0 0, .slice none 0 0] (typedV 26) true) := by rw [hY, AHeap.get_push, if_neg (by simp)]; exact get_new _ _
  have gY2 : Y.get (H3.next + 1) = some (.cells [.bool false, .slice none 0 0, .slice none 0 0, .slice none 0 0] (typedV 30) true) := by rw [hY]; exact get_new _ _
  have eY : Ext H3 Y := by rw [hY]; exact (Ext.push _ _).trans (Ext.push _ _)
  have wY : Wf Y := by rw [hY]; exact (w3.push _).push _
  have st1 := storeAgg_ok (P := Tryd.prog) (t := 26) (vs := autC A (some ⟨b1, 0, none⟩) n1 (n1 + 3) (some ⟨b2, 0, none⟩) n2 (n2 + 3) (some ⟨b3, 0, none⟩) n3 (n3 + 3)) (by kernel_rfl) rfl gY1 rfl
  obtain ⟨H4, hH4⟩ : ∃ T, T = Y.set H3.next (.cells (autC A (some ⟨b1, 0, none⟩) n1 (n1 + 3) (some ⟨b2, 0, none⟩) n2 (n2 + 3) (some ⟨b3, 0, none⟩) n3 (n3 + 3)) (typedV 26) true) := ⟨_, rfl⟩
  rw [← hH4] at st1
  have g41 : H4.get H3.next = some (.cells (autC A (some ⟨b1, 0, none⟩) n1 (n1 + 3) (some ⟨b2, 0, none⟩) n2 (n2 + 3) (some ⟨b3, 0, none⟩) n3 (n3 + 3)) (typedV 26) true) := by rw [hH4, AHeap.get_set, if_pos rfl]
  have g42 : H4.get (H3.next + 1) = some (.cells [.bool false, .slice none 0 0, .slice none 0 0, .slice none 0 0] (typedV 30) true) := by rw [hH4, AHeap.get_set, if_neg (by omega)]; exact gY2
  have e4 : Ext H3 H4 := by rw [hH4]; exact eY.set (Nat.le_refl _) _
  have w4 : Wf H4 := by rw [hH4]; exact wY.set gY1 _
  have st2 := storeAgg_ok (P := Tryd.prog) (t := 30) (vs := strC X t1 m1 m1 t2 m2 m2 t3 m3 m3) (by kernel_rfl) rfl g42 rfl
  obtain ⟨H5, hH5⟩ : ∃ T, T = H4.set (H3.next + 1) (.cells (strC X t1 m1 m1 t2 m2 m2 t3 m3 m3) (typedV 30) true) := ⟨_, rfl⟩
  rw [← hH5] at st2
  have g51 : H5.get H3.next = some (.cells (autC A (some ⟨b1, 0, none⟩) n1 (n1 + 3) (some ⟨b2, 0, none⟩) n2 (n2 + 3) (some ⟨b3, 0, none⟩) n3 (n3 + 3)) (typedV 26) true) := by rw [hH5, AHeap.get_set, if_neg (by omega)]; exact g41
  have g52 : H5.get (H3.next + 1) = some (.cells (strC X t1 m1 m1 t2 m2 m2 t3 m3 m3) (typedV 30) true) := by rw [hH5, AHeap.get_set, if_pos rfl]
  have e5 : Ext H3 H5 := by rw [hH5]; exact e4.set (by omega) _
  have w5 : Wf H5 := by rw [hH5]; exact w4.set g42 _
  have n5 : H3.next + 2 ≤ H5.next := by rw [hH5, AHeap.next_set, hH4, AHeap.next_set, hY]; simp
  have in5 := cellsAt_all g51 rfl (n := 4)
  have kp5 := cellsAt_all g52 rfl (n := 4)
  have E5 : Ext Z H5 := E2.trans (e3.trans e5)
  have T5 : TabIn H5 := hT.ext hw (eZ.trans E5)
  repeat' ((conv => whnf); first
    | (refine Both.intro ?_ ?_ <;> intro _ <;> try (exfalso; omega))
    | (refine Need.intro (by omega) ?_)
    | (refine Gives.intro ⟨_, zeroA, ?_⟩)
    | (refine Gives.intro ⟨_, zeroX, ?_⟩)
    | (rw [← hY] ; refine Outs.intro ⟨_, _, _, st1, ?_⟩)
    | (refine Outs.intro ⟨_, _, _, st2, ?_⟩)
    | fail)
  all_goals (conv => whnf)
  have q1 := e1.next
  have q2 := e2.next
  have q3 := e3.next
  have zn : Z.next = H.next + 2 := by rw [hZ]; rfl
  repeat' ((conv => whnf); first
    | (refine Both.intro ?_ ?_ <;> intro _ <;> try (exfalso; omega))
    | (refine Need.intro (by omega) ?_)
    | (refine Need.intro (draw_in (fun b => b < Z.next) (by (simp only [effIn]; repeat' apply And.intro) <;> first | exact True.intro | exact fun b hb => e2.get b (by omega) | exact fun b hb => e3.get b (by omega) | (intro b hb; rw [hH5, AHeap.get_set, if_neg (by omega)]) | (intro b hb; rw [hH4, AHeap.get_set, if_neg (by omega)])) (by (simp only [lookIn]; repeat' apply And.intro) <;> first | exact True.intro | (simp; omega) | omega) (by kernel_rfl)) ?_)
    | fail)
  all_goals (conv => whnf)
  repeat' ((conv => whnf); first
    | (refine Both.intro ?_ ?_ <;> intro _ <;> try (exfalso; omega))
    | (refine Need.intro (by omega) ?_)
    | (refine ⟨_, in5, ?_⟩)
    | (refine Does.mono (recAuto_any H5 w5 T5 A _ _ _ _ _ _ _ _ _ (LR.ext w2 (e3.trans e5)) (by omega) (by omega) (by omega)) ?_ ; rintro _ H6 ⟨rfl, e6, w6⟩)
    | fail)
  all_goals (conv => whnf)
  have xa6 := cellsAt_ext wZ (E5.trans e6) xa
  repeat' ((conv => whnf); first
    | (refine Both.intro ?_ ?_ <;> intro _ <;> try (exfalso; omega))
    | (refine Need.intro (by omega) ?_)
    | (refine ⟨_, xa6, ?_⟩)
    | (refine Does.mono (refAuto_any H6 w6 A _ _ _ _ _ _ _ _ _ (RZ.ext wZ (E5.trans e6)) (by omega) (by omega) (by omega)) ?_ ; rintro _ H7 ⟨rfl, e7, w7⟩)
    | fail)
  all_goals (conv => whnf)
  have ya7 : cellsAt H7 (H.next + 1) 0 4 = some (strC X d1 m1 k1 d2 m2 k2 d3 m3 k3) := cellsAt_ext wZ (E5.trans (e6.trans e7)) ya
  repeat' ((conv => whnf); first
    | (refine Both.intro ?_ ?_ <;> intro _ <;> try (exfalso; omega))
    | (refine Need.intro (by omega) ?_)
    | (refine ⟨_, ya7, ?_⟩)
    | (refine Does.mono (recStr_any H7 w7 (T5.ext w5 (e6.trans e7)) X _ _ _ _ _ _ _ _ _ (SZ.ext wZ (E5.trans (e6.trans e7))) hL (by omega) (by omega) (by omega)) ?_ ; rintro _ H8 ⟨rfl, e8, w8⟩)
    | fail)
  all_goals (conv => whnf)
  have kp8 := cellsAt_ext w5 (e6.trans (e7.trans e8)) kp5
  repeat' ((conv => whnf); first
    | (refine Both.intro ?_ ?_ <;> intro _ <;> try (exfalso; omega))
    | (refine Need.intro (by omega) ?_)
    | (refine ⟨_, kp8, ?_⟩)
    | (refine Does.mono (refStr_any H8 w8 X _ _ _ _ _ _ _ _ _ (S3.ext w3 (e5.trans (e6.trans (e7.trans e8)))) hL (by omega) (by omega) (by omega)) ?_ ; rintro _ H9 ⟨rfl, e9, w9⟩)
    | fail)
  all_goals (conv => whnf)
  all_goals try contradiction
  have E9 : Ext H5 H9 := e6.trans (e7.trans (e8.trans e9))
  have in9 := cellsAt_ext w5 E9 in5
  have xa9 := cellsAt_ext wZ (E5.trans E9) xa
  have L9 : LentA H1 H9 A b1 b2 b3 := by
    have e29 := e3.trans (e5.trans E9)
    exact ⟨by rw [e29.get _ (w2.lt L2.g1)]; exact L2.g1, by rw [e29.get _ (w2.lt L2.g2)]; exact L2.g2, by rw [e29.get _ (w2.lt L2.g3)]; exact L2.g3, L2.l1, L2.l2, L2.l3⟩
  repeat' ((conv => whnf); first
    | (refine Both.intro ?_ ?_ <;> intro _ <;> try (exfalso; omega))
    | (refine Need.intro (by omega) ?_)
    | (refine ⟨_, in9, ?_⟩)
    | (refine ⟨_, xa9, ?_⟩)
    | (refine Does.mono (keptAuto_any H9 w9 A _ _ _ _ _ _ _ _ _ (RZ.ext wZ (E5.trans E9)) (by omega) (by omega) (by omega) H1 b1 b2 b3 L9) ?_ ; rintro _ H10 ⟨rfl, e10, w10⟩)
    | fail)
  all_goals (conv => whnf)
  have ya10 : cellsAt H10 (H.next + 1) 0 4 = some (strC X d1 m1 k1 d2 m2 k2 d3 m3 k3) := cellsAt_ext wZ (E5.trans (E9.trans e10)) ya
  have kp10 := cellsAt_ext w5 (E9.trans e10) kp5
  repeat' ((conv => whnf); first
    | (refine Both.intro ?_ ?_ <;> intro _ <;> try (exfalso; omega))
    | (refine Need.intro (by omega) ?_)
    | (refine ⟨_, ya10, ?_⟩)
    | (refine ⟨_, kp10, ?_⟩)
    | (refine Does.mono (sameStr_yes H10 w10 X _ _ _ _ _ _ _ _ _ (SZ.ext wZ (E5.trans (E9.trans e10))) _ _ _ _ _ _ _ _ _ (S3.ext w3 (e5.trans (E9.trans e10))) (by omega) (by omega) (by omega)) ?_ ; rintro _ H11 ⟨rfl, e11, w11⟩)
    | fail)
  all_goals (conv => whnf)
  all_goals first
    | exact rfl
    | contradiction
end Go.AX.Tryd
