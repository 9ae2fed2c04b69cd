/- The law SetsOrder answers true for every input. The abstract executor (the texts YtffnjihgboeonaaAx..), proved sound for every tape, with conditions along the code (AxVc..); contracts of all functions that the law reaches (L..). -/
import Derived.Test.YtffnjihgboeonaaRows
import Derived.JoinedCond
import Derived.SizedLaws
import Derived.Test.YtffnjihgboeonaaLSrtO
import Derived.Test.YtffnjihgboeonaaLOpenU
import Derived.Test.YtffnjihgboeonaaLOpen
namespace Go.Proofs.Ytffnjihgboeonaa.setsOrder
open Go.ChangeShapes Go.WideShapes Go.ChangeAt Go.RowKit
open Go.ChangeMaps (open_string shut_string)
open Go.AX Go.AX.Lw Go.AX.Try
set_option linter.unusedVariables false
set_option linter.unusedSimpArgs false
set_option maxRecDepth 100000
theorem own : ownKnob Try.prog.godebug = none := by kernel_rfl
theorem laidOut : laidOutB Try.prog = true := by kernel_rfl
theorem sound : AX.progOk Try.prog = true := by kernel_rfl
theorem contract (H : Type) (enc : TypeId × Value → H) (W : World) (base : Nat) (args : Array Value) (ds gs : List (DataW H)) (before : List MemPlace)
    (hval0 : ∀ (j : Nat) t v, Try.f3.params[j]? = some t → args[j]? = some v → Value.okWide Try.prog W .any base t v)
    (hW : DataW.Whole enc Try.prog Try.f3.params.toList Rows.setsOrderSpec.vars false W args.toList ds gs before) :
    Calls Try.prog 3 args W fun e W' => ∃ v, e = .returned v ∧ Rows.setsOrderSpec.post enc Try.prog Try.f3 false true false false W args v W' := by
  have hval : ∀ (j : Nat) t v, Try.f3.params[j]? = some t → args[j]? = some v → Value.okWide Try.prog W .any base t v := hval0
  have hW' := hW
  obtain ⟨p, q, hA0, hV, rfl, hfz, hnd⟩ := hW
  have hA : DataW.TrodAll enc Try.prog W 0 (fun _ => true) true Try.f3.params.toList args.toList ds p := hA0
  rw [Try.params3] at hA hval
  obtain ⟨v0, vs0, d0, ds0, p0, q0, hargs, rfl, h0p, h0, r0⟩ := trodAll_cons hA
  obtain ⟨v1, vs1, d1, ds1, p1, q1, rfl, rfl, h1p, h1, r1⟩ := trodAll_cons r0
  obtain ⟨rfl, rfl, rfl⟩ := trodAll_nil r1
  obtain rfl : args = #[v0, v1] := by cases args; simp_all
  obtain ⟨rfl, rfl⟩ := trodVars_none hV
  obtain ⟨o0, n0, c0, x0, l0, y0, b0⟩ := open_nums Try.underlying22 Try.underlying27 (by kernel_rfl) (hval 0 22 v0 rfl rfl) h0
  have g0 := l0.len; simp only [List.length_map] at g0
  obtain ⟨o1, n1, c1, x1, l1, y1, b1⟩ := open_nums Try.underlying23 Try.underlying3 (by kernel_rfl) (hval 1 23 v1 rfl rfl) h1
  have g1 := l1.len; simp only [List.length_map] at g1
  obtain ⟨m0, hm0⟩ := AX.Try.nums_natU y0
  have hsim : Sim (argRho [o0, o1]) W.heap.size (argH [x0.map (.int .u64), x1.map (.int .i64)]) W := by
    refine sim_args (fun c k hm => ?_) (fun i cs c k hb ha => ?_)
    · simp only [List.mem_cons, List.mem_nil_iff, or_false] at hm
      rcases hm with hm | hm
      · exact l0.lt _ hm.symm
      · exact l1.lt _ hm.symm
    · match i, hb, ha with
      | 0, hb, ha => cases hb; cases ha; exact l0.cells (by simp [plainV]) rfl
      | 1, hb, ha => cases hb; cases ha; exact l1.cells (by simp [plainV]) rfl
  have r0 : Row (argH [x0.map (.int .u64), x1.map (.int .i64)]) (o0.map fun _ => ⟨0, 0, none⟩) n0 c0 (AX.Try.nums (x0.map Int.toNat)) := by
    have := l0.row (bs := [x0.map (.int .u64), x1.map (.int .i64)]) (i := 0) rfl
    rw [← m0]; exact this
  have r1 : Row (argH [x0.map (.int .u64), x1.map (.int .i64)]) (o1.map fun _ => ⟨1, 0, none⟩) n1 c1 (x1.map (.int .i64)) :=
    l1.row (bs := [x0.map (.int .u64), x1.map (.int .i64)]) (i := 1) rfl
  have hd := AX.Try.setsOrder_any (argH [x0.map (.int .u64), x1.map (.int .i64)]) (argH_wf _) _ _ n0 n1 c0 c1 (x0.map Int.toNat) x1 r0 r1 hm0
  have t0 := h0
  have lt0 : ∀ x ∈ p0, x.block < W.heap.size := by obtain ⟨m, hm⟩ := t0; exact DataW.trod_lt m _ _ _ hm
  have t1 := h1
  have lt1 : ∀ x ∈ p1, x.block < W.heap.size := by obtain ⟨m, hm⟩ := t1; exact DataW.trod_lt m _ _ _ hm
  refine (does_true sound (Checked.mixed Try.checked) AX.Try.orc_ok AX.Try.orc_wf hd hsim (by first | simp | assumption) #[v0, v1] ⟨l0.rel (i := 0) rfl, l1.rel (i := 1) rfl, trivial⟩).mono fun e W' ⟨he, bel⟩ => ?_
  subst he
  exact ⟨_, rfl, _, _, _, [], _, [], hW', trodAll_mk1 (shut_bool Try.underlying4 _), (trodAll_cons_mk (Below.trod laidOut (by kernel_rfl) (of_decide_eq_true (by kernel_rfl)) t0 bel lt0) (trodAll_cons_mk (Below.trod laidOut (by kernel_rfl) (of_decide_eq_true (by kernel_rfl)) t1 bel lt1) trodAll_mk0)), rfl, bel.frame _, fun h => by cases h⟩
theorem lifted (os : Os) (started : os.Started) (H : Type) (enc : TypeId × Value → H) :
    ReturnsInHanded {} Try.checked os 3 .any (Rows.setsOrderSpec.pre6 enc Try.prog Try.f3 Rows.setsOrderRow.domain false) (Rows.setsOrderSpec.post enc Try.prog Try.f3 false true false false) := by
  refine returnsInHanded_of_change_sized (C := Try.checked) own started (by kernel_rfl) Try.func3
    (ChangeSpec.witness6 (enc := enc) (C := Try.checked) false ⟨#[], #[.slice none 0 0, .slice none 0 0], []⟩ 8 (by kernel_rfl) (by kernel_rfl) (by kernel_rfl) (by kernel_rfl)) ?_
  intro W base args ds gs before hval0 hW hcnd hsz0 _
  exact contract H enc W base args ds gs before hval0 hW
theorem over : Rows.setsOrderRow.holds Try.pinned (OpenSpec.ofChange Rows.setsOrderSpec) :=
  OpenClaim.holds_of_wide 3 Try.f3 rfl rfl rfl rfl rfl rfl rfl ⟨rfl, rfl, rfl, rfl, rfl⟩ rfl rfl rfl rfl rfl (by kernel_rfl) Try.func3 (by kernel_rfl)
    (of_decide_eq_true (by kernel_rfl)) (by unfold Func.isWrapper; first | (rw [if_pos (by decide +kernel)]; kernel_rfl) | (rw [if_neg (by decide +kernel)]; exact ⟨rfl, rfl⟩))
    (fun os started H enc _ => lifted os started H enc)
end Go.Proofs.Ytffnjihgboeonaa.setsOrder
namespace Go.Proofs.Ytffnjihgboeonaa
theorem setsOrder_holds : Rows.SetsOrderSaid := setsOrder.over
#print axioms setsOrder_holds
end Go.Proofs.Ytffnjihgboeonaa
