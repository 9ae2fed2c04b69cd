/- The law SetsKnown answers true, where the listed variables hold what the program's text lays: nobody looks at its arguments (if it has any). The abstract executor (the texts YtjgbgipeclnmnaaDoorAx..), which is proved sound for every tape, is run over the law in the kernel. -/
import Derived.Test.YtjgbgipeclnmnaaDoorCards
import Derived.Test.YtjgbgipeclnmnaaDoorTie
import Derived.Test.YtjgbgipeclnmnaaDoorAxLaw
import Derived.Test.YtjgbgipeclnmnaaDoorAxSame4
import Derived.Test.YtjgbgipeclnmnaaDoorSSetsKnownP0
import Derived.Test.YtjgbgipeclnmnaaDoorSSetsKnownP1
import Derived.WalkKit
import Derived.ProofKit
import Derived.OpenShut
import Derived.ShutString
import Derived.ChangeOld
import Derived.Below
import Derived.Deep.DeepHandedRow
import Derived.Lib.LaidTab
namespace Go.Proofs.YtjgbgipeclnmnaaDoor.setsKnown
open Go.ChangeShapes Go.WideShapes Go.ChangeAt Go.RowKit
open Go.ChangeMaps (open_string shut_string)
set_option linter.unusedVariables false
set_option linter.unusedSimpArgs false
set_option maxRecDepth 100000
theorem own : ownKnob Tryd.prog.godebug = none := by kernel_rfl
theorem laidOut : laidOutB Tryd.prog = true := by kernel_rfl
theorem sound : AX.progOk Tryd.prog = true := by kernel_rfl
theorem run0 : AX.exec Tryd.prog 100007 body fr0 heap0 = AX.exec Tryd.prog 100000 (AX.rightN 7 body) fr1 heap1 := AX.fastN_eq (k := 100000) 7 _ _ _ _ _ piece0
theorem hbody : Tryd.f3.body = some body := by kernel_rfl
theorem runs : AX.isTrue (AX.callA Tryd.prog 100007 3 (List.replicate 0 (.chan none)) heap0) = true := AX.end_true Tryd.func3 hbody run0 piece1
theorem tab_split {P : Program} {W : World} {name : String} {k : IntKind} {zs : List Int} {rest : List (String × DataW Unit)} {ps : List MemPlace} {g : Nat} {t e : TypeId} {n : Nat}
    (hg : P.globalNamed name = some g) (hty : (P.globals[g]?).map (·.type) = some t) (ht : P.underlying t = some (.array n e)) (he : P.underlying e = some (.int k)) (hce : P.cellsOf e = 1) (hct : P.cellsOf t = n)
    (h : DataW.LaidVars P W ((name, Lib.tabData k zs) :: rest) ps) : (∀ (i : Nat) v, (zs.map (Value.int k))[i]? = some v → W.cell? ⟨g, i, none⟩ = some v ∧ AX.plainV 9 v = true) ∧ ∃ ps', DataW.LaidVars P W rest ps' := by
  obtain ⟨g', t', cs, fuel, p, q, hg', ht', hvar, hd, hr, _⟩ := h
  obtain rfl := Option.some.inj (hg.symm.trans hg')
  obtain rfl := Option.some.inj (hty.symm.trans ht')
  have hT : Lib.TabIs P W name k zs := by
    unfold Lib.TabIs
    rw [hvar, ← Lib.cells_of_tab ht he hce hct hd]
  refine ⟨fun i v hv => ?_, _, hr⟩
  rw [List.getElem?_map, Option.map_eq_some_iff] at hv
  obtain ⟨z, hz, rfl⟩ := hv
  have hi : i < zs.length := (List.getElem?_eq_some_iff.1 hz).1
  refine ⟨?_, rfl⟩
  rw [hT.cell hg i hi, List.getD_eq_getElem?_getD, hz]; rfl
theorem tab_skip {P : Program} {W : World} {x : String × DataW Unit} {rest : List (String × DataW Unit)} {ps : List MemPlace} (h : DataW.LaidVars P W (x :: rest) ps) : ∃ ps', DataW.LaidVars P W rest ps' := by
  obtain ⟨g', t', cs, fuel, p, q, hg', ht', hvar, hd, hr, _⟩ := h
  exact ⟨_, hr⟩
theorem size_of_cell {w : World} {g i : Nat} {v : Value} (h : w.cell? ⟨g, i, none⟩ = some v) : g + 1 ≤ w.heap.size := by
  unfold World.cell? at h
  cases hg : w.heap[g]? with
  | none => simp only [hg] at h; cases h
  | some o => exact (Array.getElem?_eq_some_iff.1 hg).1
theorem laid_of {W : World} (h : laidMetH Tryd.prog Rows.setsKnownRow.laid W) : 1 ≤ W.heap.size ∧ (∀ t ∈ tables, t.1 < 1) ∧ ∀ t ∈ tables, ∀ (i : Nat) v, t.2[i]? = some v → W.cell? ⟨t.1, i, none⟩ = some v ∧ AX.plainV 9 v = true := by
  obtain ⟨ps, h0, _⟩ := h
  obtain ⟨c0, ps0, h1⟩ := tab_split (name := "math/bits.deBruijn64tab") (k := .u8) (zs := [0, 1, 56, 2, 57, 49, 28, 3, 61, 58, 42, 50, 38, 29, 17, 4, 62, 47, 59, 36, 45, 43, 51, 22, 53, 39, 33, 30, 24, 18, 12, 5, 63, 55, 48, 27, 60, 41, 37, 16, 46, 35, 44, 21, 52, 32, 23, 11, 54, 26, 40, 15, 34, 20, 31, 10, 25, 14, 19, 9, 13, 8, 7, 6]) (g := 0) (t := 106) (e := 5) (n := 64) (by kernel_rfl) (by kernel_rfl) Tryd.underlying106 Tryd.underlying5 (by kernel_rfl) (by kernel_rfl) h0
  have hall : ∀ t ∈ tables, ∀ (i : Nat) v, t.2[i]? = some v → W.cell? ⟨t.1, i, none⟩ = some v ∧ AX.plainV 9 v = true := by
    intro t ht
    simp only [tables, List.mem_cons, List.mem_nil_iff, or_false] at ht
    rcases ht with rfl
    · exact c0
  exact ⟨size_of_cell (c0 0 _ rfl).1, by intro t ht; simp only [tables, List.mem_cons, List.mem_nil_iff, or_false] at ht; rcases ht with rfl <;> decide, hall⟩
theorem walk (args : Array Value) (hn : args.size = 0) (h1 : ∀ v ∈ args.toList, v.oneCell' = true ∧ ∀ b, v ≠ .bool b) (w : World) (hl : laidMetH Tryd.prog Rows.setsKnownRow.laid w) : Calls Tryd.prog 3 args w fun e w' => e = .returned (.bool true) ∧ Below w.heap.size w w' := by
  obtain ⟨q1, q2, q3⟩ := laid_of hl
  exact AX.law_true sound (Checked.mixed Tryd.checked) runs args hn h1 w q1 q2 q3
theorem contract (H : Type) (enc : TypeId × Value → H) (W : World) (base : Nat) (args : Array Value) (ds gs : List (DataW H)) (before : List MemPlace)
    (hval0 : ∀ (j : Nat) t v, Tryd.f3.params[j]? = some t → args[j]? = some v → Value.okWide Tryd.prog W .any base t v)
    (hW : DataW.Whole enc Tryd.prog Tryd.f3.params.toList Rows.setsKnownSpec.vars false W args.toList ds gs before) (hL : laidMetH Tryd.prog Rows.setsKnownRow.laid W) :
    Calls Tryd.prog 3 args W fun e W' => ∃ v, e = .returned v ∧ Rows.setsKnownSpec.post enc Tryd.prog Tryd.f3 false true false false W args v W' := by
  have hval : ∀ (j : Nat) t v, Tryd.f3.params[j]? = some t → args[j]? = some v → Value.okWide Tryd.prog W .any base t v := hval0
  have hW' := hW
  obtain ⟨p, q, hA0, hV, rfl, hfz, hnd⟩ := hW
  have hA : DataW.TrodAll enc Tryd.prog W 0 (fun _ => true) true Tryd.f3.params.toList args.toList ds p := hA0
  rw [Tryd.params3] at hA hval
  obtain ⟨rfl, rfl, rfl⟩ := trodAll_none hA
  obtain ⟨rfl, rfl⟩ := trodVars_none hV
  clear hA0 hval0
  refine (walk _ (by rfl) (by simp [Value.oneCell']) W hL).mono fun e W' ⟨he, bel⟩ => ?_
  subst he
  exact ⟨_, rfl, _, _, _, [], _, [], hW', trodAll_mk1 (shut_bool Tryd.underlying4 _), trodAll_mk0, rfl, bel.frame _, fun h => by cases h⟩
noncomputable def laidWorld (os : Os) : World :=
  { World.holding Tryd.prog os ⟨#[], #[], []⟩ with heap := (((World.holding Tryd.prog os ⟨#[], #[], []⟩).heap).modify 0 (fun x => match x with
      | .cells _ t frozen => .cells #[.int .u8 0, .int .u8 1, .int .u8 56, .int .u8 2, .int .u8 57, .int .u8 49, .int .u8 28, .int .u8 3, .int .u8 61, .int .u8 58, .int .u8 42, .int .u8 50, .int .u8 38, .int .u8 29, .int .u8 17, .int .u8 4, .int .u8 62, .int .u8 47, .int .u8 59, .int .u8 36, .int .u8 45, .int .u8 43, .int .u8 51, .int .u8 22, .int .u8 53, .int .u8 39, .int .u8 33, .int .u8 30, .int .u8 24, .int .u8 18, .int .u8 12, .int .u8 5, .int .u8 63, .int .u8 55, .int .u8 48, .int .u8 27, .int .u8 60, .int .u8 41, .int .u8 37, .int .u8 16, .int .u8 46, .int .u8 35, .int .u8 44, .int .u8 21, .int .u8 52, .int .u8 32, .int .u8 23, .int .u8 11, .int .u8 54, .int .u8 26, .int .u8 40, .int .u8 15, .int .u8 34, .int .u8 20, .int .u8 31, .int .u8 10, .int .u8 25, .int .u8 14, .int .u8 19, .int .u8 9, .int .u8 13, .int .u8 8, .int .u8 7, .int .u8 6] t frozen
      | o => o)) }
theorem laid_met (os : Os) : laidMet Tryd.prog Rows.setsKnownRow.laid ((laidWorld os).forCall (fun _ _ => 0) ⟨#[], #[], []⟩).memory :=
  laidMet_of_run' 8 (by kernel_rfl) (by kernel_rfl)
theorem reads (os : Os) {H : Type} (enc : TypeId × Value → H) : ∃ places, DataW.whole enc Tryd.prog ((laidWorld os).forCall (fun _ _ => 0) ⟨#[], #[], []⟩).memory Tryd.f3.params.toList Rows.setsKnownSpec.vars false (#[] : Array Value).toList 8 = some ([], [], places) :=
  ⟨[], by kernel_rfl⟩
theorem lifted (os : Os) (started : os.Started) (H : Type) (enc : TypeId × Value → H) (F : Stop.Interp) :
    ReturnsInHanded {} Tryd.checked os 3 .any ((OpenSpec.ofChange Rows.setsKnownSpec).preRow enc Tryd.prog Tryd.f3 Rows.setsKnownRow.domain false Rows.setsKnownRow.laid) (((OpenSpec.ofChange Rows.setsKnownSpec).at F).post enc Tryd.prog Tryd.f3 false true false false) := by
  obtain ⟨places, hx⟩ := reads os enc
  refine returnsInHanded_of_row (C := Tryd.checked) (s := OpenSpec.ofChange Rows.setsKnownSpec) own started (by kernel_rfl) Tryd.func3
    (witness_row_at (enc := enc) (C := Tryd.checked) false (laidWorld os) #[] rfl (by kernel_rfl) (by kernel_rfl) (by kernel_rfl)
      (OpenSpec.preRow_of_cond 8 hx (by kernel_rfl) (fun k hk => by cases hk) (by kernel_rfl) (laid_met os))) ?_
  intro W base args ds gs before hval hW _ _ _ hL _ _
  exact contract H enc W base args ds gs before hval hW hL
theorem said : Rows.SetsKnownSaid :=
  OpenClaim.holds_of_cond 3 Tryd.f3 rfl rfl rfl rfl rfl rfl rfl ⟨rfl, rfl, rfl, rfl, rfl⟩ rfl rfl rfl rfl rfl (by kernel_rfl) Tryd.func3 (by kernel_rfl)
    (of_decide_eq_true (by kernel_rfl)) (by unfold Func.isWrapper; first | (rw [if_pos (by decide +kernel)]; kernel_rfl) | (rw [if_neg (by decide +kernel)]; exact ⟨rfl, rfl⟩))
    (fun os started H enc _ F => by rw [OpenClaim.pre_eq_preRow]; exact lifted os started H enc F)
theorem plain (f : FuncId) (fn : Func) (hf : Tryd.pinned.checked.prog.funcNamed "rejoinder/rejoinderlaw10.SetsKnown" = some f) (hfn : Tryd.pinned.checked.prog.funcs[f]? = some fn) :
    true = Tryd.pinned.checked.prog.looks [] ∧ ∀ (j : Nat) t, fn.params[j]? = some t → Tryd.pinned.checked.prog.wantsStandIn t = false := by
  obtain rfl : f = 3 := Option.some.inj ((show Tryd.prog.funcNamed "rejoinder/rejoinderlaw10.SetsKnown" = some 3 by kernel_rfl).symm.trans hf) |>.symm
  obtain rfl : fn = Tryd.f3 := (Option.some.inj (Tryd.func3.symm.trans hfn)).symm
  refine ⟨by kernel_rfl, fun j t ht => ?_⟩
  rw [Tryd.params3] at ht
  simp at ht
theorem card : Rows.SetsKnownCardSaid :=
  Claim7.holds_tied_plain_at .later [] _ _ _ _ said (fun _ h => by cases h) (by kernel_rfl) (fun _ h => by cases h) setsKnown_row_tie rfl ⟨rfl, rfl⟩ (by kernel_rfl) rfl plain (by kernel_rfl)
end Go.Proofs.YtjgbgipeclnmnaaDoor.setsKnown
namespace Go.Proofs.YtjgbgipeclnmnaaDoor
theorem setsKnown_card : Rows.SetsKnownCardSaid := setsKnown.card
#print axioms setsKnown_card
end Go.Proofs.YtjgbgipeclnmnaaDoor
