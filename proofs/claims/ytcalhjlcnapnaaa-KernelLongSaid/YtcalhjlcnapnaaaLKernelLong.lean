/- The law KernelLong answers true for every input. The abstract executor (the texts YtcalhjlcnapnaaaAx..), proved sound for every tape, with conditions along the code (AxVc..); contracts of all functions that the law reaches (L..). -/
import Derived.Test.YtcalhjlcnapnaaaRows
import Derived.JoinedCond
import Derived.SizedLaws
import Derived.Test.YtcalhjlcnapnaaaLRef8
import Derived.Test.YtcalhjlcnapnaaaLToks
import Derived.Test.YtcalhjlcnapnaaaLOpen
namespace Go.Proofs.Ytcalhjlcnapnaaa.kernelLong
open Go.ChangeShapes Go.WideShapes Go.ChangeAt Go.RowKit
open Go.ChangeMaps (open_string shut_string)
open Go.AX Go.AX.Lw Go.AX.Try
set_option linter.unusedVariables false
set_option linter.unusedSimpArgs false
set_option maxRecDepth 100000
theorem own : ownKnob Try.prog.godebug = none := by kernel_rfl
theorem laidOut : laidOutB Try.prog = true := by kernel_rfl
theorem sound : AX.progOk Try.prog = true := by kernel_rfl
theorem contract (H : Type) (enc : TypeId × Value → H) (W : World) (base : Nat) (args : Array Value) (ds gs : List (DataW H)) (before : List MemPlace)
    (hval0 : ∀ (j : Nat) t v, Try.f5.params[j]? = some t → args[j]? = some v → Value.okWide Try.prog W .any base t v)
    (hW : DataW.Whole enc Try.prog Try.f5.params.toList Rows.kernelLongSpec.vars false W args.toList ds gs before) :
    Calls Try.prog 5 args W fun e W' => ∃ v, e = .returned v ∧ Rows.kernelLongSpec.post enc Try.prog Try.f5 false true false false W args v W' := by
  have hval : ∀ (j : Nat) t v, Try.f5.params[j]? = some t → args[j]? = some v → Value.okWide Try.prog W .any base t v := hval0
  have hW' := hW
  obtain ⟨p, q, hA0, hV, rfl, hfz, hnd⟩ := hW
  have hA : DataW.TrodAll enc Try.prog W 0 (fun _ => true) true Try.f5.params.toList args.toList ds p := hA0
  rw [Try.params5] at hA hval
  obtain ⟨v0, vs0, d0, ds0, p0, q0, hargs, rfl, h0p, h0, r0⟩ := trodAll_cons hA
  obtain ⟨v1, vs1, d1, ds1, p1, q1, rfl, rfl, h1p, h1, r1⟩ := trodAll_cons r0
  obtain ⟨v2, vs2, d2, ds2, p2, q2, rfl, rfl, h2p, h2, r2⟩ := trodAll_cons r1
  obtain ⟨rfl, rfl, rfl⟩ := trodAll_nil r2
  obtain rfl : args = #[v0, v1, v2] := by cases args; simp_all
  obtain ⟨rfl, rfl⟩ := trodVars_none hV
  obtain ⟨o0, n0, c0, x0, l0, b0⟩ := open_toksL Try.underlying22 Try.underlying46 (by kernel_rfl) Try.underlying44 Try.underlying5 rfl rfl (by kernel_rfl) (by kernel_rfl) (hval 0 22 v0 rfl rfl) h0
  obtain ⟨z1, rfl, rfl, rfl, w1⟩ := open_int Try.underlying3 (hval 1 3 v1 rfl rfl) h1
  obtain ⟨z2, rfl, rfl, rfl⟩ := open_bool Try.underlying4 (hval 2 4 v2 rfl rfl) h2
  have hsim : Sim (argRho [o0]) W.heap.size (argH [pairs x0]) W := by
    refine sim_args (fun c k hm => ?_) (fun i cs c k hb ha => ?_)
    · simp only [List.mem_cons, List.mem_nil_iff, or_false] at hm
      exact l0.lt _ hm.symm
    · match i, hb, ha with
      | 0, hb, ha => cases hb; cases ha; exact l0.cells rfl
  have hd := AX.Try.kernelLong_any (argH [pairs x0]) (argH_wf _) _ n0 c0 (x0.map AX.Try.tkOf) (AX.Try.LiesP.row l0 (i := 0) rfl) z1 z2
  have t0 := h0
  have lt0 : ∀ x ∈ p0, x.block < W.heap.size := by obtain ⟨m, hm⟩ := t0; exact DataW.trod_lt m _ _ _ hm
  refine (does_true sound (Checked.mixed Try.checked) AX.Try.orc_ok AX.Try.orc_wf hd hsim (by first | simp | assumption) #[v0, .int .i64 z1, .bool z2] ⟨l0.rel (i := 0) rfl, .int _ _, .bool _, trivial⟩).mono fun e W' ⟨he, bel⟩ => ?_
  subst he
  exact ⟨_, rfl, _, _, _, [], _, [], hW', trodAll_mk1 (shut_bool Try.underlying4 _), (trodAll_cons_mk (Below.trod laidOut (by kernel_rfl) (of_decide_eq_true (by kernel_rfl)) t0 bel lt0) (trodAll_cons_mk (shut_int Try.underlying3 w1) (trodAll_cons_mk (shut_bool Try.underlying4 z2) trodAll_mk0))), rfl, bel.frame _, fun h => by cases h⟩
theorem lifted (os : Os) (started : os.Started) (H : Type) (enc : TypeId × Value → H) :
    ReturnsInHanded {} Try.checked os 5 .any (Rows.kernelLongSpec.pre6 enc Try.prog Try.f5 Rows.kernelLongRow.domain false) (Rows.kernelLongSpec.post enc Try.prog Try.f5 false true false false) := by
  refine returnsInHanded_of_change_sized (C := Try.checked) own started (by kernel_rfl) Try.func5
    (ChangeSpec.witness6 (enc := enc) (C := Try.checked) false ⟨#[], #[.slice none 0 0, .int .i64 0, .bool false], []⟩ 8 (by kernel_rfl) (by kernel_rfl) (by kernel_rfl) (by kernel_rfl)) ?_
  intro W base args ds gs before hval0 hW hcnd hsz0 _
  exact contract H enc W base args ds gs before hval0 hW
theorem over : Rows.kernelLongRow.holds Try.pinned (OpenSpec.ofChange Rows.kernelLongSpec) :=
  OpenClaim.holds_of_wide 5 Try.f5 rfl rfl rfl rfl rfl rfl rfl ⟨rfl, rfl, rfl, rfl, rfl⟩ rfl rfl rfl rfl rfl (by kernel_rfl) Try.func5 (by kernel_rfl)
    (of_decide_eq_true (by kernel_rfl)) (by unfold Func.isWrapper; first | (rw [if_pos (by decide +kernel)]; kernel_rfl) | (rw [if_neg (by decide +kernel)]; exact ⟨rfl, rfl⟩))
    (fun os started H enc _ => lifted os started H enc)
end Go.Proofs.Ytcalhjlcnapnaaa.kernelLong
namespace Go.Proofs.Ytcalhjlcnapnaaa
theorem kernelLong_holds : Rows.KernelLongSaid := kernelLong.over
#print axioms kernelLong_holds
end Go.Proofs.Ytcalhjlcnapnaaa
