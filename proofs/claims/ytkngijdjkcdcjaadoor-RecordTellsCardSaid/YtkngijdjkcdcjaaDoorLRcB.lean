/- guard.Check, rejoinderref14.Check: whether an automaton may be. -/
import Derived.Test.YtkngijdjkcdcjaaDoorLRcA
namespace Go.AX.Tryd
open Go Go.AX Go.AX.Lw Go.Proofs
set_option linter.unusedVariables false
set_option linter.unusedSimpArgs false
set_option maxRecDepth 100000
/-- A reference is a state that there is, or a node of a place below one, with a proposition above one. -/
def GoodP (A : Aut) (ref below above : Int) : Prop := (ref < 0 ∧ -(A.acc.length : Int) ≤ ref) ∨ (0 ≤ ref ∧ ref < below ∧ ∃ x, A.nd[ref.toNat]? = some x ∧ above < x.1)
theorem good_any (H : AHeap) (hw : Wf H) (A : Aut) (a1 a2 a3 : Option Addr) (n1 c1 n2 c2 n3 c3 : Nat) (R : AutR H A a1 n1 c1 a2 n2 c2 a3 n3 c3) (h1 : n1 ≤ 2 ^ 40) (ref below above : Int) (hb : below ≤ n3) :
    Does Tryd.prog orc 28 [autV A a1 n1 c1 a2 n2 c2 a3 n3 c3, .int .i64 ref, .int .i64 below, .int .i64 above] H fun r H' => ∃ b, r = .ret (.bool b) ∧ (b = true ↔ GoodP A ref below above) ∧ Ext H H' ∧ Wf H' := by
  have l1 := R.acc.len; simp at l1
  have l3 := R.nd.len; simp at l3
  have hc3 := R.nd.cap
  refine Does.of Tryd.func28 (fun _ _ => rfl) rfl ?_
  have g0 := get_new H (.cells (autC A a1 n1 c1 a2 n2 c2 a3 n3 c3) 0 true)
  have w0 := hw.push (.cells (autC A a1 n1 c1 a2 n2 c2 a3 n3 c3) 0 true)
  have e0 := Ext.push H (.cells (autC A a1 n1 c1 a2 n2 c2 a3 n3 c3) 0 true)
  have q1 := cellAt_of g0 (o := 1) rfl
  have q3 := cellAt_of g0 (o := 3) rfl
  have hwr : IntKind.i64.wrap (0 - (n1 : Int)) = -(n1 : Int) := by rw [wrap_i64 (by omega)]; omega
  have hun : aUn .neg (.int .i64 (n1 : Int)) = some (.int .i64 (-(n1 : Int))) := by
    show some (Value.int .i64 (IntKind.i64.wrap (0 - (n1 : Int)))) = _
    rw [hwr]
  by_cases hr : ref < 0
  · skip
    repeat' ((conv => whnf); first
      | (refine Both.intro ?_ ?_ <;> intro _ <;> try (exfalso; omega))
      | (refine Need.intro (by omega) ?_)
      | (refine ⟨_, q1, ?_⟩)
      | (refine Gives.intro ⟨_, hun, ?_⟩)
      | fail)
    all_goals (conv => whnf)
    all_goals exact ⟨_, rfl, by unfold GoodP; simp; omega, e0, w0⟩
  · obtain ⟨m, rfl⟩ : ∃ m : Nat, ref = m := ⟨ref.toNat, by omega⟩
    by_cases hlt : (m : Int) < below
    · obtain ⟨x, hx⟩ := get_of (l := A.nd) (k := m) (by omega)
      obtain ⟨b, o, st, rfl, hcell⟩ := R.nd.cell m (ndC x) (by simp [hx])
      have p0 := cellsAt_cell (cellsAt_ext hw e0 hcell) (j := 0) (v := .int .i64 x.1) rfl
      have hG : GoodP A m below above ↔ above < x.1 := by
        unfold GoodP
        simp only [Int.toNat_natCast, hx, Option.some.injEq, exists_eq_left']
        omega
      repeat' ((conv => whnf); first
        | (refine Both.intro ?_ ?_ <;> intro _ <;> try (exfalso; omega))
        | (refine Need.intro (by omega) ?_)
        | (refine ⟨_, q3, ?_⟩)
        | (refine ⟨_, p0, ?_⟩)
        | fail)
      all_goals (conv => whnf)
      all_goals exact ⟨_, rfl, by rw [hG]; simp; omega, e0, w0⟩
    · skip
      repeat' ((conv => whnf); first
        | (refine Both.intro ?_ ?_ <;> intro _ <;> try (exfalso; omega))
        | (refine Need.intro (by omega) ?_)
        | (refine ⟨_, q3, ?_⟩)
        | fail)
      all_goals (conv => whnf)
      all_goals exact ⟨_, rfl, by unfold GoodP; simp; omega, e0, w0⟩
theorem fits_any (H : AHeap) (hw : Wf H) (A : Aut) (a1 a2 a3 : Option Addr) (n1 c1 n2 c2 n3 c3 : Nat) (R : AutR H A a1 n1 c1 a2 n2 c2 a3 n3 c3) (h1 : n1 ≤ 2 ^ 40) (ref below above : Int) (hb : below ≤ n3) :
    Does Tryd.prog orc 32 [autV A a1 n1 c1 a2 n2 c2 a3 n3 c3, .int .i64 ref, .int .i64 below, .int .i64 above] H fun r H' => ∃ b, r = .ret (.bool b) ∧ (b = true ↔ GoodP A ref below above) ∧ Ext H H' ∧ Wf H' := by
  have l1 := R.acc.len; simp at l1
  have l3 := R.nd.len; simp at l3
  have hc3 := R.nd.cap
  refine Does.of Tryd.func32 (fun _ _ => rfl) rfl ?_
  have g0 := get_new H (.cells (autC A a1 n1 c1 a2 n2 c2 a3 n3 c3) 0 true)
  have w0 := hw.push (.cells (autC A a1 n1 c1 a2 n2 c2 a3 n3 c3) 0 true)
  have e0 := Ext.push H (.cells (autC A a1 n1 c1 a2 n2 c2 a3 n3 c3) 0 true)
  have q1 := cellAt_of g0 (o := 1) rfl
  have q3 := cellAt_of g0 (o := 3) rfl
  have hwr : IntKind.i64.wrap (0 - (n1 : Int)) = -(n1 : Int) := by rw [wrap_i64 (by omega)]; omega
  have hun : aUn .neg (.int .i64 (n1 : Int)) = some (.int .i64 (-(n1 : Int))) := by
    show some (Value.int .i64 (IntKind.i64.wrap (0 - (n1 : Int)))) = _
    rw [hwr]
  by_cases hr : ref < 0
  · skip
    repeat' ((conv => whnf); first
      | (refine Both.intro ?_ ?_ <;> intro _ <;> try (exfalso; omega))
      | (refine Need.intro (by omega) ?_)
      | (refine ⟨_, q1, ?_⟩)
      | (refine Gives.intro ⟨_, hun, ?_⟩)
      | fail)
    all_goals (conv => whnf)
    all_goals exact ⟨_, rfl, by unfold GoodP; simp; omega, e0, w0⟩
  · obtain ⟨m, rfl⟩ : ∃ m : Nat, ref = m := ⟨ref.toNat, by omega⟩
    by_cases hlt : (m : Int) < below
    · obtain ⟨x, hx⟩ := get_of (l := A.nd) (k := m) (by omega)
      obtain ⟨b, o, st, rfl, hcell⟩ := R.nd.cell m (ndC x) (by simp [hx])
      have p0 := cellsAt_cell (cellsAt_ext hw e0 hcell) (j := 0) (v := .int .i64 x.1) rfl
      have hG : GoodP A m below above ↔ above < x.1 := by
        unfold GoodP
        simp only [Int.toNat_natCast, hx, Option.some.injEq, exists_eq_left']
        omega
      repeat' ((conv => whnf); first
        | (refine Both.intro ?_ ?_ <;> intro _ <;> try (exfalso; omega))
        | (refine Need.intro (by omega) ?_)
        | (refine ⟨_, q3, ?_⟩)
        | (refine ⟨_, p0, ?_⟩)
        | fail)
      all_goals (conv => whnf)
      all_goals exact ⟨_, rfl, by rw [hG]; simp; omega, e0, w0⟩
    · skip
      repeat' ((conv => whnf); first
        | (refine Both.intro ?_ ?_ <;> intro _ <;> try (exfalso; omega))
        | (refine Need.intro (by omega) ?_)
        | (refine ⟨_, q3, ?_⟩)
        | fail)
      all_goals (conv => whnf)
      all_goals exact ⟨_, rfl, by unfold GoodP; simp; omega, e0, w0⟩
/-- What a node of an automaton must be, but that it stands there once. -/
def NodeP (A : Aut) (i : Nat) (x : Nd) : Prop := 0 ≤ x.1 ∧ x.1 < A.pr ∧ x.2.1 ≠ x.2.2 ∧ GoodP A x.2.1 i x.1 ∧ GoodP A x.2.2 i x.1
/-- The numbers of an automaton may be. -/
def HeadP (A : Aut) : Prop := 0 ≤ A.pr ∧ A.pr ≤ 8 ∧ 1 ≤ A.acc.length ∧ A.acc.length ≤ 256 ∧ A.gd.length = A.acc.length ∧ A.nd.length ≤ 4096
def NodesTo (A : Aut) (k : Nat) : Prop := (∀ (i : Nat) x, i < k → A.nd[i]? = some x → NodeP A i x) ∧ (A.nd.take k).Nodup
def GuardsTo (A : Aut) (k : Nat) : Prop := ∀ (i : Nat) z, i < k → A.gd[i]? = some z → GoodP A z A.nd.length (-1)
/-- An automaton that may be. -/
def OkA (A : Aut) : Prop := HeadP A ∧ NodesTo A A.nd.length ∧ GuardsTo A A.gd.length
theorem nodesTo_succ {A : Aut} {k : Nat} {x : Nd} (hx : A.nd[k]? = some x) : NodesTo A (k + 1) ↔ NodesTo A k ∧ NodeP A k x ∧ x ∉ A.nd.take k := by
  unfold NodesTo
  rw [List.take_add_one, hx]
  simp only [Option.toList_some, List.nodup_append, List.nodup_cons, List.not_mem_nil, not_false_eq_true, List.nodup_nil, and_true, true_and, List.mem_singleton, forall_eq]
  constructor
  · rintro ⟨h1, h2, h3⟩
    exact ⟨⟨fun i y hi hy => h1 i y (by omega) hy, h2⟩, h1 k x (by omega) hx, fun hm => h3 x hm rfl⟩
  · rintro ⟨⟨h1, h2⟩, h3, h4⟩
    refine ⟨fun i y hi hy => ?_, h2, fun y hy e => h4 (e ▸ hy)⟩
    by_cases hik : i < k
    · exact h1 i y hik hy
    · obtain rfl : i = k := by omega
      rw [hx] at hy; cases hy; exact h3
theorem nodesTo_mono {A : Aut} {k m : Nat} (h : NodesTo A m) (hk : k ≤ m) : NodesTo A k :=
  ⟨fun i x hi hx => h.1 i x (by omega) hx, h.2.sublist ((List.take_prefix_take_left hk).sublist)⟩
theorem guardsTo_succ {A : Aut} {k : Nat} {z : Int} (hz : A.gd[k]? = some z) : GuardsTo A (k + 1) ↔ GuardsTo A k ∧ GoodP A z A.nd.length (-1) := by
  unfold GuardsTo
  constructor
  · intro h
    exact ⟨fun i y hi hy => h i y (by omega) hy, h k z (by omega) hz⟩
  · rintro ⟨h1, h2⟩ i y hi hy
    by_cases hik : i < k
    · exact h1 i y hik hy
    · obtain rfl : i = k := by omega
      rw [hz] at hy; cases hy; exact h2
theorem guardsTo_mono {A : Aut} {k m : Nat} (h : GuardsTo A m) (hk : k ≤ m) : GuardsTo A k := fun i x hi hx => h i x (by omega) hx
open Classical in
noncomputable def errA (A : Aut) : Int := if OkA A then 0 else 12
theorem errA_ok {A : Aut} (h : OkA A) : errA A = 0 := by unfold errA; rw [if_pos h]
theorem errA_no {A : Aut} (h : ¬ OkA A) : errA A = 12 := by unfold errA; rw [if_neg h]
theorem keyN (x : Nd) : keyChk Tryd.prog 9 53 (.agg (ndC x).toArray) = true := by
  obtain ⟨a, b, c⟩ := x
  kernel_rfl
theorem plainN (x : Nd) : plainV 9 (.agg (ndC x).toArray) = true := by
  obtain ⟨a, b, c⟩ := x
  kernel_rfl
/-- A map of nodes. -/
def mapN (es : List Nd) : List (Value × Value) := es.map fun e => (.agg (ndC e).toArray, .bool true)
theorem findN_none {s : Nd} : ∀ (es : List Nd) (i : Nat), s ∉ es → findA Tryd.prog 53 (.agg (ndC s).toArray) (mapN es) i = some none
  | [], i, _ => rfl
  | e :: r, i, h => by
    have h1 : decide (s = e) = false := decide_eq_false fun h' => h (by simp [h'])
    simp only [mapN, List.map_cons, findA, nd_eq, h1]
    exact findN_none r (i + 1) fun hx => h (by simp [hx])
theorem findN_some {s : Nd} : ∀ (es : List Nd) (i : Nat), s ∈ es → ∃ j, findA Tryd.prog 53 (.agg (ndC s).toArray) (mapN es) i = some (some (j, .bool true))
  | [], i, h => by cases h
  | e :: r, i, h => by
    by_cases h1 : s = e
    · have h2 : decide (s = e) = true := decide_eq_true h1
      refine ⟨i, ?_⟩
      simp only [mapN, List.map_cons, findA, nd_eq, h2]
    · have h2 : decide (s = e) = false := decide_eq_false h1
      obtain ⟨j, hj⟩ := findN_some r (i + 1) ((List.mem_cons.1 h).resolve_left h1)
      refine ⟨j, ?_⟩
      simp only [mapN, List.map_cons, findA, nd_eq, h2]
      exact hj
set_option maxHeartbeats 4000000 in
theorem check_any (H : AHeap) (hw : Wf H) (A : Aut) (a1 a2 a3 : Option Addr) (n1 c1 n2 c2 n3 c3 : Nat) (R : AutR H A a1 n1 c1 a2 n2 c2 a3 n3 c3) (h1 : n1 ≤ 2 ^ 40) (h2 : n2 ≤ 2 ^ 40) (h3 : n3 ≤ 2 ^ 40) :
    Does Tryd.prog orc 16 [autV A a1 n1 c1 a2 n2 c2 a3 n3 c3] H fun r H' => r = .ret (.int .i64 (errA A)) ∧ Ext H H' ∧ Wf H' := by
  have l1 := R.acc.len; simp at l1
  have l2 := R.gd.len; simp at l2
  have l3 := R.nd.len; simp at l3
  have hc2 := R.gd.cap
  have hc3 := R.nd.cap
  refine Does.of Tryd.func16 (fun _ _ => rfl) rfl ?_
  have g0 := get_new H (.cells (autC A a1 n1 c1 a2 n2 c2 a3 n3 c3) 0 true)
  have w0 := hw.push (.cells (autC A a1 n1 c1 a2 n2 c2 a3 n3 c3) 0 true)
  have e0 := Ext.push H (.cells (autC A a1 n1 c1 a2 n2 c2 a3 n3 c3) 0 true)
  have q0 := cellAt_of g0 (o := 0) rfl
  have q1 := cellAt_of g0 (o := 1) rfl
  have q2 := cellAt_of g0 (o := 2) rfl
  have q3 := cellAt_of g0 (o := 3) rfl
  have qa := cellsAt_all g0 rfl (n := 4)
  by_cases hh : HeadP A
  case neg =>
    rw [errA_no fun h => hh h.1]
    unfold HeadP at hh
    repeat' ((conv => whnf); first
      | (refine Both.intro ?_ ?_ <;> intro _ <;> try (exfalso; omega))
      | (refine Need.intro (by omega) ?_)
      | (refine ⟨_, q0, ?_⟩)
      | (refine ⟨_, q1, ?_⟩)
      | (refine ⟨_, q2, ?_⟩)
      | (refine ⟨_, q3, ?_⟩)
      | fail)
    all_goals (conv => whnf)
    all_goals first
      | exact ⟨rfl, e0, w0⟩
      | (exfalso; omega)
  have hh' := hh
  unfold HeadP at hh'
  have q3m := cellAt_ext w0 (Ext.push _ (.map [])) q3
  repeat' ((conv => whnf); first
    | (refine Both.intro ?_ ?_ <;> intro _ <;> try (exfalso; omega))
    | (refine Need.intro (by omega) ?_)
    | (refine ⟨_, q0, ?_⟩)
    | (refine ⟨_, q1, ?_⟩)
    | (refine ⟨_, q2, ?_⟩)
    | (refine ⟨_, q3, ?_⟩)
    | (refine ⟨_, q3m, ?_⟩)
    | fail)
  all_goals (conv => whnf)
  have hno : ∀ (k : Nat) x, A.nd[k]? = some x → ¬ (NodeP A k x ∧ x ∉ A.nd.take k) → errA A = 12 := fun k x hx h => errA_no fun ho => h ((nodesTo_succ hx).1 (nodesTo_mono ho.2.1 (by have := (List.getElem?_eq_some_iff.1 hx).1; omega))).2
  have hng : ∀ (k : Nat) z, A.gd[k]? = some z → ¬ GoodP A z A.nd.length (-1) → errA A = 12 := fun k z hz h => errA_no fun ho => h ((guardsTo_succ hz).1 (guardsTo_mono ho.2.2 (by have := (List.getElem?_eq_some_iff.1 hz).1; omega))).2
  refine Runs.loop (fun k : Nat => [(45, .int .i64 k), (44, .int .i64 n3), (43, .slice a3 n3 c3), (4, .map (some (H.next + 1))), (1, .pointer (some ⟨H.next, 0, none⟩))])
    (fun k H' => k ≤ n3 ∧ Ext (H.push (.cells (autC A a1 n1 c1 a2 n2 c2 a3 n3 c3) 0 true)) H' ∧ Wf H' ∧ H'.get (H.next + 1) = some (.map (mapN (A.nd.take k))) ∧ NodesTo A k) (fun k => n3 - k) 0 ⟨rfl, rfl, rfl, rfl, rfl, trivial⟩
    ⟨by omega, Ext.push _ _, w0.push _, get_new _ _, ⟨fun i x hi => by omega, by simp⟩⟩ ?_
  rintro k H2 ⟨hk, e2, w2, gM, hN⟩
  by_cases hlt : k < n3
  · obtain ⟨x, hx⟩ := get_of (l := A.nd) (k := k) (by omega)
    obtain ⟨b, o, st, rfl, hcell⟩ := R.nd.cell k (ndC x) (by simp [hx])
    have hcell2 := cellsAt_ext w0 e2 (cellsAt_ext hw e0 hcell)
    obtain ⟨T, hT⟩ : ∃ T, T = (H2.push (.cells [.int .i64 0, .int .i64 0, .int .i64 0] (typedV 53) true)).set H2.next (.cells (ndC x) (typedV 53) true) := ⟨_, rfl⟩
    have gp := get_new H2 (.cells [.int .i64 0, .int .i64 0, .int .i64 0] (typedV 53) true)
    have eT : Ext H2 T := by rw [hT]; exact (Ext.push _ _).set (Nat.le_refl _) _
    have wT : Wf T := by rw [hT]; exact (w2.push _).set gp _
    have gT : T.get H2.next = some (.cells (ndC x) (typedV 53) true) := by rw [hT, AHeap.get_set, if_pos rfl]
    have p0 := cellAt_of gT (o := 0) rfl
    have p1 := cellAt_of gT (o := 1) rfl
    have p2 := cellAt_of gT (o := 2) rfl
    have pa := cellsAt_all gT rfl (n := 3)
    have r0 := cellAt_ext w0 (e2.trans eT) q0
    have ra := cellsAt_ext w0 (e2.trans eT) qa
    have gMT : T.get (H.next + 1) = some (.map (mapN (A.nd.take k))) := by rw [eT.get _ (w2.lt gM)]; exact gM
    have hst := storeAgg_ok (P := Tryd.prog) (t := 53) (vs := ndC x) (by kernel_rfl) rfl gp rfl
    rw [← hT] at hst
    have hz : zeroOf Tryd.prog 4 = some (.bool false) := by kernel_rfl
    have RT := R.ext hw (e0.trans (e2.trans eT))
    by_cases hm : x ∈ A.nd.take k
    · obtain ⟨j, hj⟩ := findN_some (A.nd.take k) 0 hm
      have hlk := lookup_ok (ok := false) Tryd.underlying62 (keyN x) gMT hz hj
      rw [hno k x hx fun h => h.2 hm]
      repeat' ((conv => whnf); first
        | (refine Both.intro ?_ ?_ <;> intro _ <;> try (exfalso; omega))
        | (refine Need.intro (by omega) ?_)
        | (refine ⟨_, hcell2, ?_⟩)
        | (refine Gives.intro ⟨.agg (ndC x).toArray, rfl, ?_⟩)
        | (refine Gives.intro ⟨.agg #[.int .i64 0, .int .i64 0, .int .i64 0], by kernel_rfl, ?_⟩)
        | (refine Outs.intro ⟨_, _, _, hst, ?_⟩)
        | (refine ⟨_, p0, ?_⟩)
        | (refine ⟨_, p1, ?_⟩)
        | (refine ⟨_, p2, ?_⟩)
        | (refine ⟨_, r0, ?_⟩)
        | (refine ⟨_, pa, ?_⟩)
        | (refine Outs.intro ⟨_, _, _, hlk, ?_⟩)
        | fail)
      all_goals (conv => whnf)
      all_goals exact ⟨rfl, e0.trans (e2.trans eT), wT⟩
    · have hlk := lookup_no (ok := false) Tryd.underlying62 (keyN x) gMT hz (findN_none (A.nd.take k) 0 hm)
      by_cases hp : 0 ≤ x.1 ∧ x.1 < A.pr ∧ x.2.1 ≠ x.2.2
      case neg =>
        rw [hno k x hx fun h => hp ⟨h.1.1, h.1.2.1, h.1.2.2.1⟩]
        repeat' ((conv => whnf); first
          | (refine Both.intro ?_ ?_ <;> intro _ <;> try (exfalso; omega))
          | (refine Need.intro (by omega) ?_)
          | (refine ⟨_, hcell2, ?_⟩)
          | (refine Gives.intro ⟨.agg (ndC x).toArray, rfl, ?_⟩)
          | (refine Gives.intro ⟨.agg #[.int .i64 0, .int .i64 0, .int .i64 0], by kernel_rfl, ?_⟩)
          | (refine Outs.intro ⟨_, _, _, hst, ?_⟩)
          | (refine ⟨_, p0, ?_⟩)
          | (refine ⟨_, p1, ?_⟩)
          | (refine ⟨_, p2, ?_⟩)
          | (refine ⟨_, r0, ?_⟩)
          | (refine ⟨_, pa, ?_⟩)
          | (refine Outs.intro ⟨_, _, _, hlk, ?_⟩)
          | fail)
        all_goals (conv => whnf)
        all_goals exact ⟨rfl, e0.trans (e2.trans eT), wT⟩
      have hd1 := good_any T wT A _ _ _ _ _ _ _ _ _ RT h1 x.2.1 k x.1 (by omega)
      by_cases G1 : GoodP A x.2.1 k x.1
      case neg =>
        rw [hno k x hx fun h => G1 h.1.2.2.2.1]
        repeat' ((conv => whnf); first
          | (refine Both.intro ?_ ?_ <;> intro _ <;> try (exfalso; omega))
          | (refine Need.intro (by omega) ?_)
          | (refine ⟨_, hcell2, ?_⟩)
          | (refine Gives.intro ⟨.agg (ndC x).toArray, rfl, ?_⟩)
          | (refine Gives.intro ⟨.agg #[.int .i64 0, .int .i64 0, .int .i64 0], by kernel_rfl, ?_⟩)
          | (refine Outs.intro ⟨_, _, _, hst, ?_⟩)
          | (refine ⟨_, p0, ?_⟩)
          | (refine ⟨_, p1, ?_⟩)
          | (refine ⟨_, p2, ?_⟩)
          | (refine ⟨_, r0, ?_⟩)
          | (refine ⟨_, pa, ?_⟩)
          | (refine Outs.intro ⟨_, _, _, hlk, ?_⟩)
          | (refine ⟨_, ra, ?_⟩)
          | (refine Gives.intro ⟨autV A a1 n1 c1 a2 n2 c2 _ n3 c3, rfl, ?_⟩)
          | (refine Does.mono hd1 ?_ ; rintro _ H3 ⟨b1, rfl, hb1, e3, w3⟩ ; obtain rfl : b1 = false := by cases b1 <;> first | rfl | exact absurd (hb1.1 rfl) G1)
          | fail)
        all_goals (conv => whnf)
        all_goals exact ⟨rfl, (e0.trans (e2.trans eT)).trans e3, w3⟩
      have hd1' : Does Tryd.prog orc 28 [autV A a1 n1 c1 a2 n2 c2 (some ⟨b, o, st⟩) n3 c3, .int .i64 x.2.1, .int .i64 k, .int .i64 x.1] T fun r H' => r = .ret (.bool true) ∧ Ext T H' ∧ Wf H' := hd1.mono fun r H' ⟨b1, h1, h2, h3, h4⟩ => ⟨by rw [h1, h2.2 G1], h3, h4⟩
      by_cases G2 : GoodP A x.2.2 k x.1
      case neg =>
        rw [hno k x hx fun h => G2 h.1.2.2.2.2]
        repeat' ((conv => whnf); first
          | (refine Both.intro ?_ ?_ <;> intro _ <;> try (exfalso; omega))
          | (refine Need.intro (by omega) ?_)
          | (refine ⟨_, hcell2, ?_⟩)
          | (refine Gives.intro ⟨.agg (ndC x).toArray, rfl, ?_⟩)
          | (refine Gives.intro ⟨.agg #[.int .i64 0, .int .i64 0, .int .i64 0], by kernel_rfl, ?_⟩)
          | (refine Outs.intro ⟨_, _, _, hst, ?_⟩)
          | (refine ⟨_, p0, ?_⟩)
          | (refine ⟨_, p1, ?_⟩)
          | (refine ⟨_, p2, ?_⟩)
          | (refine ⟨_, r0, ?_⟩)
          | (refine ⟨_, pa, ?_⟩)
          | (refine Outs.intro ⟨_, _, _, hlk, ?_⟩)
          | (refine ⟨_, ra, ?_⟩)
          | (refine Gives.intro ⟨autV A a1 n1 c1 a2 n2 c2 _ n3 c3, rfl, ?_⟩)
          | (refine Does.mono hd1' ?_ ; rintro _ H3 ⟨rfl, e3, w3⟩ ; have u0 := cellAt_ext wT e3 p0 ; have u2 := cellAt_ext wT e3 p2 ; have ua := cellsAt_ext wT e3 ra)
          | (refine ⟨_, u0, ?_⟩)
          | (refine ⟨_, u2, ?_⟩)
          | (refine ⟨_, ua, ?_⟩)
          | (refine Does.mono (good_any H3 w3 A _ _ _ _ _ _ _ _ _ (RT.ext wT e3) h1 x.2.2 k x.1 (by omega)) ?_ ; rintro _ H4 ⟨b2, rfl, hb2, e4, w4⟩ ; obtain rfl : b2 = false := by cases b2 <;> first | rfl | exact absurd (hb2.1 rfl) G2)
          | fail)
        all_goals (conv => whnf)
        all_goals exact ⟨rfl, ((e0.trans (e2.trans eT)).trans e3).trans e4, w4⟩
      repeat' ((conv => whnf); first
        | (refine Both.intro ?_ ?_ <;> intro _ <;> try (exfalso; omega))
        | (refine Need.intro (by omega) ?_)
        | (refine ⟨_, hcell2, ?_⟩)
        | (refine Gives.intro ⟨.agg (ndC x).toArray, rfl, ?_⟩)
        | (refine Gives.intro ⟨.agg #[.int .i64 0, .int .i64 0, .int .i64 0], by kernel_rfl, ?_⟩)
        | (refine Outs.intro ⟨_, _, _, hst, ?_⟩)
        | (refine ⟨_, p0, ?_⟩)
        | (refine ⟨_, p1, ?_⟩)
        | (refine ⟨_, p2, ?_⟩)
        | (refine ⟨_, r0, ?_⟩)
        | (refine ⟨_, pa, ?_⟩)
        | (refine Outs.intro ⟨_, _, _, hlk, ?_⟩)
        | (refine ⟨_, ra, ?_⟩)
        | (refine Gives.intro ⟨autV A a1 n1 c1 a2 n2 c2 _ n3 c3, rfl, ?_⟩)
        | (refine Does.mono hd1' ?_ ; rintro _ H3 ⟨rfl, e3, w3⟩ ; have u0 := cellAt_ext wT e3 p0 ; have u2 := cellAt_ext wT e3 p2 ; have ua := cellsAt_ext wT e3 ra)
        | (refine ⟨_, u0, ?_⟩)
        | (refine ⟨_, u2, ?_⟩)
        | (refine ⟨_, ua, ?_⟩)
        | (refine Does.mono (good_any H3 w3 A _ _ _ _ _ _ _ _ _ (RT.ext wT e3) h1 x.2.2 k x.1 (by omega)) ?_ ; rintro _ H4 ⟨b2, rfl, hb2, e4, w4⟩ ; obtain rfl : b2 = true := hb2.2 G2 ; have va := cellsAt_ext wT (e3.trans e4) pa ; have gM4 : H4.get (H.next + 1) = some (.map (mapN (A.nd.take k))) := ((e3.trans e4).get _ (wT.lt gMT)).trans gMT ; have hup := update_new (v := .bool true) Tryd.underlying62 (keyN x) (plainN x) gM4 (findN_none (A.nd.take k) 0 hm))
        | (refine ⟨_, va, ?_⟩)
        | (refine Outs.intro ⟨_, _, _, hup, ?_⟩)
        | fail)
      all_goals (conv => whnf)
      refine ⟨k + 1, ⟨rfl, rfl, rfl, rfl, rfl, trivial⟩, ⟨by omega, (e2.trans (eT.trans (e3.trans e4))).set (by simp) _, w4.set gM4 _, ?_, (nodesTo_succ hx).2 ⟨hN, ⟨hp.1, hp.2.1, hp.2.2, G1, G2⟩, hm⟩⟩, by omega⟩
      rw [AHeap.get_set, if_pos rfl, List.take_add_one, hx]
      simp [mapN]
  · obtain rfl : k = n3 := by omega
    have hN' : NodesTo A A.nd.length := by rw [← l3]; exact hN
    have s2 := cellAt_ext w0 e2 q2
    repeat' ((conv => whnf); first
      | (refine Both.intro ?_ ?_ <;> intro _ <;> try (exfalso; omega))
      | (refine Need.intro (by omega) ?_)
      | (refine ⟨_, s2, ?_⟩)
      | fail)
    all_goals (conv => whnf)
    refine Runs.loop (fun k : Nat => [(98, .int .i64 k), (97, .int .i64 n2), (96, .slice a2 n2 c2), (1, .pointer (some ⟨H.next, 0, none⟩))])
      (fun k H' => k ≤ n2 ∧ Ext (H.push (.cells (autC A a1 n1 c1 a2 n2 c2 a3 _ c3) 0 true)) H' ∧ Wf H' ∧ GuardsTo A k) (fun k => n2 - k) 0 ⟨rfl, rfl, rfl, rfl, trivial⟩ ⟨by omega, e2, w2, fun i z hi => by omega⟩ ?_
    rintro j H5 ⟨hj, e5, w5, hG⟩
    by_cases hlt2 : j < n2
    · obtain ⟨z, hz⟩ := get_of (l := A.gd) (k := j) (by omega)
      obtain ⟨b, o, st, rfl, hcell⟩ := R.gd.cell j (.int .i64 z) (by simp [hz])
      have hcell5 := cellAt_ext w0 e5 (cellAt_ext hw e0 hcell)
      have t3 := cellAt_ext w0 e5 q3
      have ta := cellsAt_ext w0 e5 qa
      have hd := good_any H5 w5 A _ _ _ _ _ _ _ _ _ (R.ext hw (e0.trans e5)) h1 z (k : Nat) (-1) (by omega)
      have hkl : ((k : Nat) : Int) = (A.nd.length : Nat) := by omega
      by_cases G : GoodP A z A.nd.length (-1)
      case neg =>
        rw [hng j z hz G]
        repeat' ((conv => whnf); first
          | (refine Both.intro ?_ ?_ <;> intro _ <;> try (exfalso; omega))
          | (refine Need.intro (by omega) ?_)
          | (refine ⟨_, hcell5, ?_⟩)
          | (refine ⟨_, t3, ?_⟩)
          | (refine ⟨_, ta, ?_⟩)
          | (refine Gives.intro ⟨autV A a1 n1 c1 _ n2 c2 a3 _ c3, rfl, ?_⟩)
          | (refine Does.mono hd ?_ ; rintro _ H6 ⟨b1, rfl, hb1, e6, w6⟩ ; rw [hkl] at hb1 ; obtain rfl : b1 = false := by cases b1 <;> first | rfl | exact absurd (hb1.1 rfl) G)
          | fail)
        all_goals (conv => whnf)
        exact ⟨rfl, (e0.trans e5).trans e6, w6⟩
      repeat' ((conv => whnf); first
        | (refine Both.intro ?_ ?_ <;> intro _ <;> try (exfalso; omega))
        | (refine Need.intro (by omega) ?_)
        | (refine ⟨_, hcell5, ?_⟩)
        | (refine ⟨_, t3, ?_⟩)
        | (refine ⟨_, ta, ?_⟩)
        | (refine Gives.intro ⟨autV A a1 n1 c1 _ n2 c2 a3 _ c3, rfl, ?_⟩)
        | (refine Does.mono hd ?_ ; rintro _ H6 ⟨b1, rfl, hb1, e6, w6⟩ ; rw [hkl] at hb1 ; obtain rfl : b1 = true := hb1.2 G)
        | fail)
      all_goals (conv => whnf)
      exact ⟨j + 1, ⟨rfl, rfl, rfl, rfl, trivial⟩, ⟨by omega, e5.trans e6, w6, (guardsTo_succ hz).2 ⟨hG, G⟩⟩, by omega⟩
    · obtain rfl : j = n2 := by omega
      rw [errA_ok ⟨hh, hN', by rw [← l2]; exact hG⟩]
      repeat' ((conv => whnf); first
        | (refine Both.intro ?_ ?_ <;> intro _ <;> try (exfalso; omega))
        | (refine Need.intro (by omega) ?_)
        | fail)
      all_goals (conv => whnf)
      exact ⟨rfl, e0.trans e5, w5⟩
set_option maxHeartbeats 4000000 in
theorem refCheck_any (H : AHeap) (hw : Wf H) (A : Aut) (a1 a2 a3 : Option Addr) (n1 c1 n2 c2 n3 c3 : Nat) (R : AutR H A a1 n1 c1 a2 n2 c2 a3 n3 c3) (h1 : n1 ≤ 2 ^ 40) (h2 : n2 ≤ 2 ^ 40) (h3 : n3 ≤ 2 ^ 40) :
    Does Tryd.prog orc 20 [autV A a1 n1 c1 a2 n2 c2 a3 n3 c3] H fun r H' => r = .ret (.int .i64 (errA A)) ∧ Ext H H' ∧ Wf H' := by
  have l1 := R.acc.len; simp at l1
  have l2 := R.gd.len; simp at l2
  have l3 := R.nd.len; simp at l3
  have hc2 := R.gd.cap
  have hc3 := R.nd.cap
  refine Does.of Tryd.func20 (fun _ _ => rfl) rfl ?_
  have g0 := get_new H (.cells (autC A a1 n1 c1 a2 n2 c2 a3 n3 c3) 0 true)
  have w0 := hw.push (.cells (autC A a1 n1 c1 a2 n2 c2 a3 n3 c3) 0 true)
  have e0 := Ext.push H (.cells (autC A a1 n1 c1 a2 n2 c2 a3 n3 c3) 0 true)
  have q0 := cellAt_of g0 (o := 0) rfl
  have q1 := cellAt_of g0 (o := 1) rfl
  have q2 := cellAt_of g0 (o := 2) rfl
  have q3 := cellAt_of g0 (o := 3) rfl
  have qa := cellsAt_all g0 rfl (n := 4)
  by_cases hh : HeadP A
  case neg =>
    rw [errA_no fun h => hh h.1]
    unfold HeadP at hh
    repeat' ((conv => whnf); first
      | (refine Both.intro ?_ ?_ <;> intro _ <;> try (exfalso; omega))
      | (refine Need.intro (by omega) ?_)
      | (refine ⟨_, q0, ?_⟩)
      | (refine ⟨_, q1, ?_⟩)
      | (refine ⟨_, q2, ?_⟩)
      | (refine ⟨_, q3, ?_⟩)
      | fail)
    all_goals (conv => whnf)
    all_goals first
      | exact ⟨rfl, e0, w0⟩
      | (exfalso; omega)
  have hh' := hh
  unfold HeadP at hh'
  repeat' ((conv => whnf); first
    | (refine Both.intro ?_ ?_ <;> intro _ <;> try (exfalso; omega))
    | (refine Need.intro (by omega) ?_)
    | (refine ⟨_, q0, ?_⟩)
    | (refine ⟨_, q1, ?_⟩)
    | (refine ⟨_, q2, ?_⟩)
    | (refine ⟨_, q3, ?_⟩)
    | fail)
  all_goals (conv => whnf)
  have hno : ∀ (k : Nat) x, A.nd[k]? = some x → ¬ (NodeP A k x ∧ x ∉ A.nd.take k) → errA A = 12 := fun k x hx h => errA_no fun ho => h ((nodesTo_succ hx).1 (nodesTo_mono ho.2.1 (by have := (List.getElem?_eq_some_iff.1 hx).1; omega))).2
  have hng : ∀ (k : Nat) z, A.gd[k]? = some z → ¬ GoodP A z A.nd.length (-1) → errA A = 12 := fun k z hz h => errA_no fun ho => h ((guardsTo_succ hz).1 (guardsTo_mono ho.2.2 (by have := (List.getElem?_eq_some_iff.1 hz).1; omega))).2
  refine Runs.loop (fun k : Nat => [(3, .int .i64 k), (1, .pointer (some ⟨H.next, 0, none⟩))])
    (fun k H' => k ≤ n3 ∧ Ext (H.push (.cells (autC A a1 n1 c1 a2 n2 c2 a3 n3 c3) 0 true)) H' ∧ Wf H' ∧ NodesTo A k) (fun k => n3 - k) 0 ⟨rfl, rfl, trivial⟩
    ⟨by omega, Ext.refl _, w0, ⟨fun i x hi => by omega, by simp⟩⟩ ?_
  rintro k H2 ⟨hk, e2, w2, hN⟩
  have s3 := cellAt_ext w0 e2 q3
  by_cases hlt : k < n3
  · obtain ⟨x, hx⟩ := get_of (l := A.nd) (k := k) (by omega)
    obtain ⟨b, o, st, rfl, hcell⟩ := R.nd.cell k (ndC x) (by simp [hx])
    have hcell2 := cellsAt_ext w0 e2 (cellsAt_ext hw e0 hcell)
    obtain ⟨T, hT⟩ : ∃ T, T = (H2.push (.cells [.int .i64 0, .int .i64 0, .int .i64 0] (typedV 53) true)).set H2.next (.cells (ndC x) (typedV 53) true) := ⟨_, rfl⟩
    have gp := get_new H2 (.cells [.int .i64 0, .int .i64 0, .int .i64 0] (typedV 53) true)
    have eT : Ext H2 T := by rw [hT]; exact (Ext.push _ _).set (Nat.le_refl _) _
    have wT : Wf T := by rw [hT]; exact (w2.push _).set gp _
    have gT : T.get H2.next = some (.cells (ndC x) (typedV 53) true) := by rw [hT, AHeap.get_set, if_pos rfl]
    have p0 := cellAt_of gT (o := 0) rfl
    have p1 := cellAt_of gT (o := 1) rfl
    have p2 := cellAt_of gT (o := 2) rfl
    have pa := cellsAt_all gT rfl (n := 3)
    have r0 := cellAt_ext w0 (e2.trans eT) q0
    have ra := cellsAt_ext w0 (e2.trans eT) qa
    have hst := storeAgg_ok (P := Tryd.prog) (t := 53) (vs := ndC x) (by kernel_rfl) rfl gp rfl
    rw [← hT] at hst
    have RT := R.ext hw (e0.trans (e2.trans eT))
    by_cases hp : 0 ≤ x.1 ∧ x.1 < A.pr ∧ x.2.1 ≠ x.2.2
    case neg =>
      rw [hno k x hx fun h => hp ⟨h.1.1, h.1.2.1, h.1.2.2.1⟩]
      repeat' ((conv => whnf); first
        | (refine Both.intro ?_ ?_ <;> intro _ <;> try (exfalso; omega))
        | (refine Need.intro (by omega) ?_)
        | (refine ⟨_, hcell2, ?_⟩)
        | (refine Gives.intro ⟨.agg (ndC x).toArray, rfl, ?_⟩)
        | (refine Gives.intro ⟨.agg #[.int .i64 0, .int .i64 0, .int .i64 0], by kernel_rfl, ?_⟩)
        | (refine Outs.intro ⟨_, _, _, hst, ?_⟩)
        | (refine ⟨_, s3, ?_⟩)
        | (refine ⟨_, p0, ?_⟩)
        | (refine ⟨_, p1, ?_⟩)
        | (refine ⟨_, p2, ?_⟩)
        | (refine ⟨_, r0, ?_⟩)
        | (refine ⟨_, pa, ?_⟩)
        | fail)
      all_goals (conv => whnf)
      all_goals exact ⟨rfl, e0.trans (e2.trans eT), wT⟩
    have hd1 := fits_any T wT A _ _ _ _ _ _ _ _ _ RT h1 x.2.1 k x.1 (by omega)
    by_cases G1 : GoodP A x.2.1 k x.1
    case neg =>
      rw [hno k x hx fun h => G1 h.1.2.2.2.1]
      repeat' ((conv => whnf); first
        | (refine Both.intro ?_ ?_ <;> intro _ <;> try (exfalso; omega))
        | (refine Need.intro (by omega) ?_)
        | (refine ⟨_, hcell2, ?_⟩)
        | (refine Gives.intro ⟨.agg (ndC x).toArray, rfl, ?_⟩)
        | (refine Gives.intro ⟨.agg #[.int .i64 0, .int .i64 0, .int .i64 0], by kernel_rfl, ?_⟩)
        | (refine Outs.intro ⟨_, _, _, hst, ?_⟩)
        | (refine ⟨_, s3, ?_⟩)
        | (refine ⟨_, p0, ?_⟩)
        | (refine ⟨_, p1, ?_⟩)
        | (refine ⟨_, p2, ?_⟩)
        | (refine ⟨_, r0, ?_⟩)
        | (refine ⟨_, pa, ?_⟩)
        | (refine ⟨_, ra, ?_⟩)
        | (refine Gives.intro ⟨autV A a1 n1 c1 a2 n2 c2 _ n3 c3, rfl, ?_⟩)
        | (refine Does.mono hd1 ?_ ; rintro _ H3 ⟨b1, rfl, hb1, e3, w3⟩ ; obtain rfl : b1 = false := by cases b1 <;> first | rfl | exact absurd (hb1.1 rfl) G1)
        | fail)
      all_goals (conv => whnf)
      all_goals exact ⟨rfl, (e0.trans (e2.trans eT)).trans e3, w3⟩
    have hd1' : Does Tryd.prog orc 32 [autV A a1 n1 c1 a2 n2 c2 (some ⟨b, o, st⟩) n3 c3, .int .i64 x.2.1, .int .i64 k, .int .i64 x.1] T fun r H' => r = .ret (.bool true) ∧ Ext T H' ∧ Wf H' := hd1.mono fun r H' ⟨b1, h1, h2, h3, h4⟩ => ⟨by rw [h1, h2.2 G1], h3, h4⟩
    by_cases G2 : GoodP A x.2.2 k x.1
    case neg =>
      rw [hno k x hx fun h => G2 h.1.2.2.2.2]
      repeat' ((conv => whnf); first
        | (refine Both.intro ?_ ?_ <;> intro _ <;> try (exfalso; omega))
        | (refine Need.intro (by omega) ?_)
        | (refine ⟨_, hcell2, ?_⟩)
        | (refine Gives.intro ⟨.agg (ndC x).toArray, rfl, ?_⟩)
        | (refine Gives.intro ⟨.agg #[.int .i64 0, .int .i64 0, .int .i64 0], by kernel_rfl, ?_⟩)
        | (refine Outs.intro ⟨_, _, _, hst, ?_⟩)
        | (refine ⟨_, s3, ?_⟩)
        | (refine ⟨_, p0, ?_⟩)
        | (refine ⟨_, p1, ?_⟩)
        | (refine ⟨_, p2, ?_⟩)
        | (refine ⟨_, r0, ?_⟩)
        | (refine ⟨_, pa, ?_⟩)
        | (refine ⟨_, ra, ?_⟩)
        | (refine Gives.intro ⟨autV A a1 n1 c1 a2 n2 c2 _ n3 c3, rfl, ?_⟩)
        | (refine Does.mono hd1' ?_ ; rintro _ H3 ⟨rfl, e3, w3⟩ ; have u0 := cellAt_ext wT e3 p0 ; have u2 := cellAt_ext wT e3 p2 ; have ua := cellsAt_ext wT e3 ra)
        | (refine ⟨_, u0, ?_⟩)
        | (refine ⟨_, u2, ?_⟩)
        | (refine ⟨_, ua, ?_⟩)
        | (refine Does.mono (fits_any H3 w3 A _ _ _ _ _ _ _ _ _ (RT.ext wT e3) h1 x.2.2 k x.1 (by omega)) ?_ ; rintro _ H4 ⟨b2, rfl, hb2, e4, w4⟩ ; obtain rfl : b2 = false := by cases b2 <;> first | rfl | exact absurd (hb2.1 rfl) G2)
        | fail)
      all_goals (conv => whnf)
      all_goals exact ⟨rfl, ((e0.trans (e2.trans eT)).trans e3).trans e4, w4⟩
    repeat' ((conv => whnf); first
      | (refine Both.intro ?_ ?_ <;> intro _ <;> try (exfalso; omega))
      | (refine Need.intro (by omega) ?_)
      | (refine ⟨_, hcell2, ?_⟩)
      | (refine Gives.intro ⟨.agg (ndC x).toArray, rfl, ?_⟩)
      | (refine Gives.intro ⟨.agg #[.int .i64 0, .int .i64 0, .int .i64 0], by kernel_rfl, ?_⟩)
      | (refine Outs.intro ⟨_, _, _, hst, ?_⟩)
      | (refine ⟨_, s3, ?_⟩)
      | (refine ⟨_, p0, ?_⟩)
      | (refine ⟨_, p1, ?_⟩)
      | (refine ⟨_, p2, ?_⟩)
      | (refine ⟨_, r0, ?_⟩)
      | (refine ⟨_, pa, ?_⟩)
      | (refine ⟨_, ra, ?_⟩)
      | (refine Gives.intro ⟨autV A a1 n1 c1 a2 n2 c2 _ n3 c3, rfl, ?_⟩)
      | (refine Does.mono hd1' ?_ ; rintro _ H3 ⟨rfl, e3, w3⟩ ; have u0 := cellAt_ext wT e3 p0 ; have u2 := cellAt_ext wT e3 p2 ; have ua := cellsAt_ext wT e3 ra)
      | (refine ⟨_, u0, ?_⟩)
      | (refine ⟨_, u2, ?_⟩)
      | (refine ⟨_, ua, ?_⟩)
      | (refine Does.mono (fits_any H3 w3 A _ _ _ _ _ _ _ _ _ (RT.ext wT e3) h1 x.2.2 k x.1 (by omega)) ?_ ; rintro _ H4 ⟨b2, rfl, hb2, e4, w4⟩ ; obtain rfl : b2 = true := hb2.2 G2 ; have va := cellsAt_ext wT (e3.trans e4) pa ; have e24 := e2.trans (eT.trans (e3.trans e4)))
      | fail)
    all_goals (conv => whnf)
    refine Runs.loop (fun i : Nat => [(5, .int .i64 i), (4, .pointer (some ⟨H2.next, 0, none⟩)), (3, .int .i64 k), (1, .pointer (some ⟨H.next, 0, none⟩))])
      (fun i H' => i ≤ k ∧ H4 = H' ∧ x ∉ A.nd.take i) (fun i => k - i) 0 ⟨rfl, rfl, rfl, rfl, trivial⟩ ⟨by omega, rfl, by simp⟩ ?_
    rintro i _ ⟨hi, rfl, hni⟩
    by_cases hlt3 : i < k
    · obtain ⟨y, hy⟩ := get_of (l := A.nd) (k := i) (by omega)
      obtain ⟨b', o', st', hbb, hcy⟩ := R.nd.cell i (ndC y) (by simp [hy])
      cases hbb
      have hcy4 := cellsAt_ext w0 e24 (cellsAt_ext hw e0 hcy)
      have v3 := cellAt_ext w0 e24 q3
      have hq := nd_eql y x
      by_cases hxy : y = x
      · have hmem : x ∈ A.nd.take k := by
          rw [← hxy]
          exact List.mem_of_getElem? (i := i) (by rw [List.getElem?_take, if_pos hlt3]; exact hy)
        rw [hno k x hx fun h => h.2 hmem]
        rw [decide_eq_true hxy] at hq
        repeat' ((conv => whnf); first
          | (refine Both.intro ?_ ?_ <;> intro _ <;> try (exfalso; omega))
          | (refine Need.intro (by omega) ?_)
          | (refine ⟨_, v3, ?_⟩)
          | (refine ⟨_, hcy4, ?_⟩)
          | (refine Gives.intro ⟨.agg (ndC y).toArray, rfl, ?_⟩)
          | (refine ⟨_, va, ?_⟩)
          | (refine Gives.intro ⟨.agg (ndC x).toArray, rfl, ?_⟩)
          | (refine Gives.intro ⟨_, hq _ _, ?_⟩)
          | (refine Need.intro (draw_of (by simp only [effAll])) ?_)
          | fail)
        all_goals (conv => whnf)
        exact ⟨rfl, e0.trans e24, w4⟩
      · rw [decide_eq_false hxy] at hq
        repeat' ((conv => whnf); first
          | (refine Both.intro ?_ ?_ <;> intro _ <;> try (exfalso; omega))
          | (refine Need.intro (by omega) ?_)
          | (refine ⟨_, v3, ?_⟩)
          | (refine ⟨_, hcy4, ?_⟩)
          | (refine Gives.intro ⟨.agg (ndC y).toArray, rfl, ?_⟩)
          | (refine ⟨_, va, ?_⟩)
          | (refine Gives.intro ⟨.agg (ndC x).toArray, rfl, ?_⟩)
          | (refine Gives.intro ⟨_, hq _ _, ?_⟩)
          | (refine Need.intro (draw_of (by simp only [effAll])) ?_)
          | fail)
        all_goals (conv => whnf)
        exact ⟨i + 1, ⟨rfl, rfl, rfl, rfl, trivial⟩, ⟨by omega, rfl, by rw [List.take_add_one, hy]; simp only [Option.toList_some, List.mem_append, List.mem_singleton, not_or]; exact ⟨hni, fun e => hxy e.symm⟩⟩, by omega⟩
    · obtain rfl : i = k := by omega
      repeat' ((conv => whnf); first
        | (refine Both.intro ?_ ?_ <;> intro _ <;> try (exfalso; omega))
        | (refine Need.intro (by omega) ?_)
        | fail)
      all_goals (conv => whnf)
      exact ⟨i + 1, ⟨rfl, rfl, trivial⟩, ⟨by omega, e24, w4, (nodesTo_succ hx).2 ⟨hN, ⟨hp.1, hp.2.1, hp.2.2, G1, G2⟩, hni⟩⟩, by omega⟩
  · obtain rfl : k = n3 := by omega
    have hN' : NodesTo A A.nd.length := by rw [← l3]; exact hN
    repeat' ((conv => whnf); first
      | (refine Both.intro ?_ ?_ <;> intro _ <;> try (exfalso; omega))
      | (refine Need.intro (by omega) ?_)
      | (refine ⟨_, s3, ?_⟩)
      | fail)
    all_goals (conv => whnf)
    refine Runs.loop (fun k : Nat => [(6, .int .i64 k), (1, .pointer (some ⟨H.next, 0, none⟩))])
      (fun k H' => k ≤ n2 ∧ Ext (H.push (.cells (autC A a1 n1 c1 a2 n2 c2 a3 _ c3) 0 true)) H' ∧ Wf H' ∧ GuardsTo A k) (fun k => n2 - k) 0 ⟨rfl, rfl, trivial⟩ ⟨by omega, e2, w2, fun i z hi => by omega⟩ ?_
    rintro j H5 ⟨hj, e5, w5, hG⟩
    have t2 := cellAt_ext w0 e5 q2
    by_cases hlt2 : j < n2
    · obtain ⟨z, hz⟩ := get_of (l := A.gd) (k := j) (by omega)
      obtain ⟨b, o, st, rfl, hcell⟩ := R.gd.cell j (.int .i64 z) (by simp [hz])
      have hcell5 := cellAt_ext w0 e5 (cellAt_ext hw e0 hcell)
      have t3 := cellAt_ext w0 e5 q3
      have ta := cellsAt_ext w0 e5 qa
      have n5 : H.next + 1 ≤ H5.next := e5.next
      have hb5 := cellAt_lt w5 hcell5
      have hd := fits_any H5 w5 A _ _ _ _ _ _ _ _ _ (R.ext hw (e0.trans e5)) h1 z (k : Nat) (-1) (by omega)
      have hkl : ((k : Nat) : Int) = (A.nd.length : Nat) := by omega
      by_cases G : GoodP A z A.nd.length (-1)
      case neg =>
        rw [hng j z hz G]
        repeat' ((conv => whnf); first
          | (refine Both.intro ?_ ?_ <;> intro _ <;> try (exfalso; omega))
          | (refine Need.intro (by omega) ?_)
          | (refine ⟨_, t2, ?_⟩)
          | (refine ⟨_, hcell5, ?_⟩)
          | (refine ⟨_, t3, ?_⟩)
          | (refine ⟨_, ta, ?_⟩)
          | (refine Gives.intro ⟨autV A a1 n1 c1 _ n2 c2 a3 _ c3, rfl, ?_⟩)
          | (refine Does.mono hd ?_ ; rintro _ H6 ⟨b1, rfl, hb1, e6, w6⟩ ; rw [hkl] at hb1 ; obtain rfl : b1 = false := by cases b1 <;> first | rfl | exact absurd (hb1.1 rfl) G)
          | (refine Need.intro (draw_keep (N := H5.next) (by (simp only [effKeep]; repeat' apply And.intro) <;> first | exact True.intro | exact fun _ _ => rfl | exact fun b hb => e6.get b hb) (by (simp only [lookOld]; repeat' apply And.intro) <;> first | exact True.intro | omega) (by kernel_rfl)) ?_)
          | fail)
        all_goals (conv => whnf)
        exact ⟨rfl, (e0.trans e5).trans e6, w6⟩
      repeat' ((conv => whnf); first
        | (refine Both.intro ?_ ?_ <;> intro _ <;> try (exfalso; omega))
        | (refine Need.intro (by omega) ?_)
        | (refine ⟨_, t2, ?_⟩)
        | (refine ⟨_, hcell5, ?_⟩)
        | (refine ⟨_, t3, ?_⟩)
        | (refine ⟨_, ta, ?_⟩)
        | (refine Gives.intro ⟨autV A a1 n1 c1 _ n2 c2 a3 _ c3, rfl, ?_⟩)
        | (refine Does.mono hd ?_ ; rintro _ H6 ⟨b1, rfl, hb1, e6, w6⟩ ; rw [hkl] at hb1 ; obtain rfl : b1 = true := hb1.2 G)
        | (refine Need.intro (draw_keep (N := H5.next) (by (simp only [effKeep]; repeat' apply And.intro) <;> first | exact True.intro | exact fun _ _ => rfl | exact fun b hb => e6.get b hb) (by (simp only [lookOld]; repeat' apply And.intro) <;> first | exact True.intro | omega) (by kernel_rfl)) ?_)
        | fail)
      all_goals (conv => whnf)
      exact ⟨j + 1, ⟨rfl, rfl, trivial⟩, ⟨by omega, e5.trans e6, w6, (guardsTo_succ hz).2 ⟨hG, G⟩⟩, by omega⟩
    · obtain rfl : j = n2 := by omega
      rw [errA_ok ⟨hh, hN', by rw [← l2]; exact hG⟩]
      repeat' ((conv => whnf); first
        | (refine Both.intro ?_ ?_ <;> intro _ <;> try (exfalso; omega))
        | (refine Need.intro (by omega) ?_)
        | (refine ⟨_, t2, ?_⟩)
        | fail)
      all_goals (conv => whnf)
      exact ⟨rfl, e0.trans e5, w5⟩
end Go.AX.Tryd
