/- The law LetterNames answers true for every input whose bulk is at most 1048576: what the package tells of any names, letters and numbers is what the document says. -/
import Derived.Test.YtgbclgkadlfejaaRows
import Derived.Test.YtgbclgkadlfejaaLLNames
import Derived.Test.YtgbclgkadlfejaaLOpen
import Derived.JoinedCond
namespace Go.Proofs.Ytgbclgkadlfejaa.letterNames
open Go.ChangeShapes Go.WideShapes Go.ChangeAt Go.RowKit
open Go.ChangeMaps (open_string shut_string)
open Go.AX Go.AX.Lw
set_option linter.unusedVariables false
set_option maxRecDepth 100000
theorem own : ownKnob Try.prog.godebug = none := by kernel_rfl
theorem laidOut : laidOutB Try.prog = true := by kernel_rfl
theorem sound : AX.progOk Try.prog = true := by kernel_rfl
theorem prims : AX.PrimOk Try.prog := AX.PrimOk.none (by kernel_rfl)
theorem bulk_strs {H : Type} : ∀ (ss : List ByteArray), Rows.uptoBulkAll (ChangeShapes.strs (H := H) ss) = AX.Try.sizes ss + ss.length
  | [] => rfl
  | s :: r => by
    have := bulk_strs (H := H) r
    simp only [ChangeShapes.strs, List.map_cons, Rows.uptoBulkAll, Rows.uptoBulk, AX.Try.sizes, List.sum_cons, List.length_cons] at this ⊢
    rw [this]; simp; omega
theorem bulk_list {H : Type} {d : DataW H} {ss : List ByteArray} (h : (d = .nil ∧ ss = []) ∨ ∃ rest, d = .slice (ChangeShapes.strs ss) rest) : AX.Try.sizes ss + ss.length ≤ Rows.uptoBulk d := by
  rcases h with ⟨rfl, rfl⟩ | ⟨rest, rfl⟩
  · simp [AX.Try.sizes]
  · simp only [Rows.uptoBulk, bulk_strs]; omega
theorem lifted (os : Os) (started : os.Started) (H : Type) (enc : TypeId × Value → H) (F0 : Stop.Interp) :
    ReturnsInHanded {} Try.checked os 3 .any ((Rows.OpenSpec.upto Rows.letterNamesSpec).pre6 enc Try.prog Try.f3 Rows.letterNamesUptoRow.domain false) (((Rows.OpenSpec.upto Rows.letterNamesSpec).at F0).post enc Try.prog Try.f3 false true false false) := by
  refine returnsInHanded_of_cond (C := Try.checked) (s := Rows.OpenSpec.upto Rows.letterNamesSpec) (k := Rows.uptoSmall) rfl own started (by kernel_rfl) Try.func3
    (OpenSpec.witness (enc := enc) (C := Try.checked) (s := Rows.OpenSpec.upto Rows.letterNamesSpec) (k := Rows.uptoSmall) rfl false ⟨#[], #[.slice none 0 0, .slice none 0 0, .int .u8 0, .int .i64 0, .string ByteArray.empty], []⟩ 8 (by kernel_rfl) (by kernel_rfl) (by kernel_rfl)
      (x := ([.nil, .nil, .lit (.int .u8 0), .lit (.int .i64 0), .lit (.string [])], [], [])) (by kernel_rfl) (by kernel_rfl) (by kernel_rfl)) ?_
  intro W base args ds gs before hval0 hW _ hk _
  have hval : ∀ (j : Nat) t v, Try.f3.params[j]? = some t → args[j]? = some v → Value.okWide Try.prog W .any base t v := hval0
  have hW' := hW
  obtain ⟨p, q, hA0, hV, rfl, hfz, hnd⟩ := hW
  have hA : DataW.TrodAll enc Try.prog W 0 (fun _ => true) true Try.f3.params.toList args.toList ds p := hA0
  have hAk := hA
  rw [Try.params3] at hA hval
  obtain ⟨v0, vs0, d0, ds0, p0, q0, hargs, rfl, h0p, h0, r0⟩ := trodAll_cons hA
  obtain ⟨v1, vs1, d1, ds1, p1, q1, rfl, rfl, h1p, h1, r1⟩ := trodAll_cons r0
  obtain ⟨v2, vs2, d2, ds2, p2, q2, rfl, rfl, h2p, h2, r2⟩ := trodAll_cons r1
  obtain ⟨v3, vs3, d3, ds3, p3, q3, rfl, rfl, h3p, h3, r3⟩ := trodAll_cons r2
  obtain ⟨v4, vs4, d4, ds4, p4, q4, rfl, rfl, h4p, h4, r4⟩ := trodAll_cons r3
  obtain ⟨rfl, rfl, rfl⟩ := trodAll_nil r4
  obtain rfl : args = #[v0, v1, v2, v3, v4] := by cases args; simp_all
  obtain ⟨rfl, rfl⟩ := trodVars_none hV
  obtain ⟨o0, n0, c0, ss, l0, b0⟩ := open_texts Try.underlying22 Try.underlying9 (by kernel_rfl) (hval 0 22 v0 rfl rfl) h0
  obtain ⟨o1, n1, c1, ts, l1, b1⟩ := open_texts Try.underlying22 Try.underlying9 (by kernel_rfl) (hval 1 22 v1 rfl rfl) h1
  obtain ⟨l, rfl, rfl, rfl, w2⟩ := open_int Try.underlying23 (hval 2 23 v2 rfl rfl) h2
  obtain ⟨m, rfl, rfl, rfl, w3⟩ := open_int Try.underlying3 (hval 3 3 v3 rfl rfl) h3
  obtain ⟨s, rfl, rfl, rfl, w4⟩ := open_string Try.underlying9 (hval 4 9 v4 rfl rfl) h4
  have k0 := bulk_list b0
  have k1 := bulk_list b1
  have hk' : Rows.uptoBulkAll ([d0, d1, .lit (.int .u8 l), .lit (.int .i64 m), .lit (.string s.data.toList)] ++ ([] : List (DataW H))) ≤ 1048576 := of_decide_eq_true hk
  simp only [List.append_nil, Rows.uptoBulkAll] at hk'
  have g0 := l0.len; simp only [List.length_map] at g0
  have g1 := l1.len; simp only [List.length_map] at g1
  have hl : 0 ≤ l ∧ l < 256 := by
    have : IntKind.u8.min ≤ l ∧ l ≤ IntKind.u8.max := by simpa [Lit.wf] using w2
    have h1 : IntKind.u8.min = 0 := by decide
    have h2 : IntKind.u8.max = 255 := by decide
    omega
  obtain ⟨ln, rfl⟩ := Int.eq_ofNat_of_zero_le hl.1
  have hsim : Sim (argRho [o0, o1]) W.heap.size (argH [ss.map .string, ts.map .string]) W := by
    refine sim_args (fun c k hm => ?_) (fun i cs c k hb ha => ?_)
    · simp only [List.mem_cons, List.mem_nil_iff, or_false] at hm
      rcases hm with hm | hm
      · exact l0.lt _ hm.symm
      · exact l1.lt _ hm.symm
    · match i, hb, ha with
      | 0, hb, ha => cases hb; cases ha; exact l0.cells (by simp [plainV]) rfl
      | 1, hb, ha => cases hb; cases ha; exact l1.cells (by simp [plainV]) rfl
  have hd := AX.Try.letterNames_any (argH [ss.map .string, ts.map .string]) (argH_wf _) _ n0 c0 ss (l0.row (i := 0) rfl) (by omega) (by omega) _ n1 c1 ts (l1.row (i := 1) rfl) (by omega) (by omega) ln (by omega) m s
  have t0 := h0
  have t1 := h1
  have lt0 : ∀ x ∈ p0, x.block < W.heap.size := by obtain ⟨m, hm⟩ := t0; exact DataW.trod_lt m _ _ _ hm
  have lt1 : ∀ x ∈ p1, x.block < W.heap.size := by obtain ⟨m, hm⟩ := t1; exact DataW.trod_lt m _ _ _ hm
  refine (does_true sound (Checked.mixed Try.checked) prims hd hsim (by simp) #[v0, v1, .int .u8 ln, .int .i64 m, .string s] ⟨l0.rel (i := 0) rfl, l1.rel (i := 1) rfl, .int _ _, .int _ _, .string _, trivial⟩).mono fun e W' ⟨he, bel⟩ => ?_
  subst he
  exact ⟨_, rfl, _, _, _, [], _, [], hW', trodAll_mk1 (shut_bool Try.underlying4 _), (trodAll_cons_mk (Below.trod laidOut (by kernel_rfl) (of_decide_eq_true (by kernel_rfl)) t0 bel lt0) (trodAll_cons_mk (Below.trod laidOut (by kernel_rfl) (of_decide_eq_true (by kernel_rfl)) t1 bel lt1) (trodAll_cons_mk (shut_int Try.underlying23 w2) (trodAll_cons_mk (shut_int Try.underlying3 w3) (trodAll_cons_mk (shut_string Try.underlying9 w4) trodAll_mk0))))), rfl, bel.frame _, fun h => by cases h⟩
theorem over : Rows.letterNamesUptoRow.holds Try.pinned (Rows.OpenSpec.upto Rows.letterNamesSpec) :=
  OpenClaim.holds_of_cond 3 Try.f3 rfl rfl rfl rfl rfl rfl rfl ⟨rfl, rfl, rfl, rfl, rfl⟩ rfl rfl rfl rfl rfl (by kernel_rfl) Try.func3 (by kernel_rfl)
    (of_decide_eq_true (by kernel_rfl)) (by unfold Func.isWrapper; first | (rw [if_pos (by decide +kernel)]; kernel_rfl) | (rw [if_neg (by decide +kernel)]; exact ⟨rfl, rfl⟩))
    (fun os started H enc _ F0 => lifted os started H enc F0)
theorem proved : Rows.LetterNamesUptoSaid := over
end Go.Proofs.Ytgbclgkadlfejaa.letterNames
namespace Go.Proofs.Ytgbclgkadlfejaa
theorem letterNames_upto : Rows.LetterNamesUptoSaid := letterNames.proved
#print axioms letterNames_upto
end Go.Proofs.Ytgbclgkadlfejaa
