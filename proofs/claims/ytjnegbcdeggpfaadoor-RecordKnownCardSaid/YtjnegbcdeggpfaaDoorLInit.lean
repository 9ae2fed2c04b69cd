/- The memory at the beginning: what the listed variables hold. -/
import Derived.Test.YtjnegbcdeggpfaaDoorRows
import Derived.Test.YtjnegbcdeggpfaaDoorLArgB
import Derived.Test.YtjnegbcdeggpfaaDoorLNumF
import Derived.Stop.LaidTwo
import Derived.Stop.LaidErr
import Derived.Lib.LaidTab
import Derived.LaidLaws
namespace Go.Proofs.YtjnegbcdeggpfaaDoor
open Go Go.AX Go.AX.Lw Go.Proofs Go.RowKit
set_option linter.unusedVariables false
set_option linter.unusedSimpArgs false
set_option maxRecDepth 100000
abbrev txS : ByteArray := ⟨#[105, 110, 118, 97, 108, 105, 100, 32, 115, 121, 110, 116, 97, 120]⟩
abbrev txR : ByteArray := ⟨#[118, 97, 108, 117, 101, 32, 111, 117, 116, 32, 111, 102, 32, 114, 97, 110, 103, 101]⟩
noncomputable def initH : AHeap := (((((laidH 3 []).push (.cells [.string txS] 2147483647 false)).push (.cells [.string txR] 2147483647 false)).set 1 (.cells [.iface 139 (.pointer (some ⟨4, 0, none⟩))] 0 false)).set 2 (.cells [.iface 139 (.pointer (some ⟨5, 0, none⟩))] 0 false)).set 3 (.cells pow10V (typedV 100) false)
theorem err_obj {ρ : Rho} {W : World} {b : Nat} {a : Addr} {s : ByteArray} {c0 : Array Value} {t0 : TypeId} (hc : W.cell? a = some (.string s)) (hb : W.heap[a.block]? = some (.cells c0 t0 (0, 0))) (hr : ρ b = .live a.block a.off 0) :
    ObjRel ρ W.heap.size W b (.cells [.string s] 2147483647 false) := by
  have hs := World.cell?_spot hc
  obtain ⟨ab, ao, ap⟩ := a
  obtain rfl : ap = none := hs
  simp only [ObjRel, hr]
  refine ⟨fun i v hi => ?_, (fun h => by cases h), (fun _ j hj => by simp at hj), fun _ => trivial, fun _ => ⟨c0, t0, (0, 0), hb, (fun h => absurd (by decide) h), fun _ => rfl, fun h => absurd h (by decide)⟩⟩
  cases i with
  | zero => cases hi; exact ⟨_, hc, .string s⟩
  | succ i => simp at hi
theorem args_init {W : World} {aS aR : Addr} {cS cR : Array Value} {tS tR : TypeId} (vS : W.var? Tryd.prog "strconv.ErrSyntax" = some #[.iface 139 (.pointer (some aS))]) (vR : W.var? Tryd.prog "strconv.ErrRange" = some #[.iface 139 (.pointer (some aR))])
    (xS : W.cell? aS = some (.string txS)) (xR : W.cell? aR = some (.string txR)) (bS : W.heap[aS.block]? = some (.cells cS tS (0, 0))) (bR : W.heap[aR.block]? = some (.cells cR tR (0, 0)))
    (tab : Lib.TabIs Tryd.prog W "internal/strconv.uint64pow10" .u64 Lib.pow10Tab) (hsh : W.ShapedOpen Tryd.prog) : ∃ ρ, ArgS ρ initH W := by
  have gS : W.cell? ⟨0, 0, none⟩ = some (.iface 139 (.pointer (some aS))) := by have := World.var?_cell (show Tryd.prog.globalNamed "strconv.ErrSyntax" = some 0 by kernel_rfl) vS 0; simpa using this
  have gR : W.cell? ⟨1, 0, none⟩ = some (.iface 139 (.pointer (some aR))) := by have := World.var?_cell (show Tryd.prog.globalNamed "strconv.ErrRange" = some 1 by kernel_rfl) vR 0; simpa using this
  obtain ⟨arr, harr, -⟩ := hsh.1 2 #[.int .u64 0, .int .u64 0, .int .u64 0, .int .u64 0, .int .u64 0, .int .u64 0, .int .u64 0, .int .u64 0, .int .u64 0, .int .u64 0, .int .u64 0, .int .u64 0, .int .u64 0, .int .u64 0, .int .u64 0, .int .u64 0, .int .u64 0, .int .u64 0, .int .u64 0, .int .u64 0] 100 (by decide +kernel) (by kernel_rfl)
  have harr2 : arr = (Lib.pow10Tab.map fun z => Value.int .u64 z).toArray := by
    unfold Lib.TabIs World.var? at tab
    rw [show Tryd.prog.globalNamed "internal/strconv.uint64pow10" = some 2 by kernel_rfl] at tab
    simp only [Option.bind_some, harr, Option.some.injEq] at tab
    exact tab
  have hp10 : (Lib.pow10Tab.map fun z => Value.int .u64 z) = pow10V := by kernel_rfl
  rw [hp10] at harr2
  have hsz : 3 ≤ W.heap.size := by have := (Array.getElem?_eq_some_iff.1 harr).1; omega
  have lS := cell_lt' xS
  have lR := cell_lt' xR
  have S0 := args_laid (w := W) (n := 3) (ts := []) hsz (by simp) (by simp)
  obtain ⟨S1, -⟩ := arg_new S0 (.cells [.string txS] 2147483647 false) (.live aS.block aS.off 0) (.inl ⟨_, _, rfl, lS⟩) (err_obj xS bS (upd_same _ _ _)) (.inr ⟨_, _, rfl⟩)
  obtain ⟨S2, -⟩ := arg_new S1 (.cells [.string txR] 2147483647 false) (.live aR.block aR.off 0) (.inl ⟨_, _, rfl, lR⟩) (err_obj xR bR (upd_same _ _ _)) (.inr ⟨_, _, rfl⟩)
  have sS := World.cell?_spot xS
  have sR := World.cell?_spot xR
  have S3 := arg_fill S2 (b := 1) (c := 0) (k := 0) (e := 0) (by decide) [.iface 139 (.pointer (some ⟨4, 0, none⟩))] rfl (by
    show CellsRel _ _ _ _ _ ∧ _
    refine ⟨fun i v hi => ?_, (fun h => by cases h), (fun h => absurd rfl h), fun _ => rfl, .none (by decide)⟩
    cases i with
    | zero =>
      cases hi
      refine ⟨_, gS, .iface _ (.ptr ?_)⟩
      show aS = ⟨aS.block, aS.off + 0, none⟩
      obtain ⟨ab, ao, ap⟩ := aS
      obtain rfl : ap = none := sS
      rfl
    | succ i => simp at hi)
  have S4 := arg_fill S3 (b := 2) (c := 1) (k := 0) (e := 0) (by decide) [.iface 139 (.pointer (some ⟨5, 0, none⟩))] rfl (by
    show CellsRel _ _ _ _ _ ∧ _
    refine ⟨fun i v hi => ?_, (fun h => by cases h), (fun h => absurd rfl h), fun _ => rfl, .none (by decide)⟩
    cases i with
    | zero =>
      cases hi
      refine ⟨_, gR, .iface _ (.ptr ?_)⟩
      show aR = ⟨aR.block, aR.off + 0, none⟩
      obtain ⟨ab, ao, ap⟩ := aR
      obtain rfl : ap = none := sR
      rfl
    | succ i => simp at hi)
  have S5 := arg_fill S4 (b := 3) (c := 2) (k := 0) (e := typedV 100) (by decide) pow10V rfl (by
    show CellsRel _ _ _ _ _ ∧ _
    refine ⟨fun i v hi => ?_, (fun h => by cases h), (fun h => absurd (by decide) h), fun _ => rfl, fun _ => ⟨arr, 100, (0, 0), harr, fun _ => by decide, fun _ => rfl, fun _ => ⟨rfl, by rw [harr2]; rfl, rfl⟩⟩⟩
    have hin : ∃ z, v = .int .u64 z := by
      have := List.mem_of_getElem? hi
      unfold pow10V at this
      obtain ⟨z, -, hz⟩ := List.mem_map.1 this
      exact ⟨z, hz.symm⟩
    obtain ⟨z, rfl⟩ := hin
    refine ⟨_, ?_, .int _ _⟩
    unfold World.cell?
    simp only [harr, harr2, Nat.zero_add]
    rw [List.getElem?_toArray]; exact hi)
  exact ⟨_, S5⟩
theorem row_err (u : TypeId) (h : Tryd.prog.typeName? 3 u = some "*errors.errorString") : u = 139 := by
  have star : "*errors.errorString" = "*" ++ "errors.errorString" := by decide
  exact typeName_ptr_named (nm := "errors.errorString") (by rw [← star]; kernel_rfl) (by kernel_rfl) (by decide) u (by rw [← star]; exact h)
theorem txOf {s : ByteArray} {l : List UInt8} (h : s.data.toList = l) : s = ⟨l.toArray⟩ := by
  obtain ⟨⟨d⟩⟩ := s
  subst h; rfl
theorem args_of_laid {W : World} (hL : laidMetH Tryd.prog Rows.recordKnownRow.laid W) (hsh : W.ShapedOpen Tryd.prog) : ∃ ρ, ArgS ρ initH W := by
  have h0 : laidMet Tryd.prog Rows.recordKnownRow.laid W := hL
  have h2 := h0.tail.tail
  have h4 := h2.tail.tail
  have tab : Lib.TabIs Tryd.prog W "internal/strconv.uint64pow10" .u64 Lib.pow10Tab := Lib.tabIs_of_head (g := 2) (t := 100) (e := 87) (n := 20) (by kernel_rfl) (by kernel_rfl) Tryd.underlying100 Tryd.underlying87 (by kernel_rfl) (by kernel_rfl) h2
  obtain ⟨a0, a1, s0, s1, c0, c1, t0, t1, v0, v1, x0, e0, -, x1, e1, -, -, b0, b1⟩ := laid_sentinels2 (g0 := 1) (g1 := 0) h4 (by kernel_rfl) (by kernel_rfl) (by kernel_rfl) (by kernel_rfl) Tryd.underlying71 row_err Tryd.underlying139 Tryd.underlying141 rfl rfl Tryd.underlying9 (by kernel_rfl) (by kernel_rfl)
  rw [txOf e0] at x0
  rw [txOf e1] at x1
  exact args_init v1 v0 x1 x0 b1 b0 tab hsh
end Go.Proofs.YtjnegbcdeggpfaaDoor
