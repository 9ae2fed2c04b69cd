/- Functions of Go's library in this program that answer as the library's contracts say: strings.Join, Builder's copyCheck. -/
import Derived.Test.YtkngijdjkcdcjaaDoorChecked
import Derived.Test.YtkngijdjkcdcjaaDoorAxPrim
import Derived.WalkKit
import Derived.ProofKit
set_option linter.unusedVariables false
set_option maxRecDepth 100000
namespace Go.Proofs.YtkngijdjkcdcjaaDoor
open Go.Shelf Go.Proofs
def joinLays_ren : Go.Shelf.Ren := ⟨fun | 156 => 33 | 165 => 38 | 166 => 29 | 169 => 19 | 240 => 36 | 241 => 44 | 276 => 39 | 277 => 50 | n => n, fun | 31 => 58 | 9 => 9 | 3 => 3 | 4 => 4 | 0 => 0 | 20 => 20 | 72 => 50 | 76 => 66 | 70 => 47 | 37 => 48 | 75 => 65 | 127 => 69 | 164 => 75 | 5 => 5 | 80 => 55 | n => n, fun | n => n⟩
theorem joinLays : Go.Proofs.Lays.n156 Tryd.prog joinLays_ren where
  mixed := by kernel_rfl
  f156 := Tryd.func33.trans (congrArg some (by kernel_rfl))
  f165 := Tryd.func38.trans (congrArg some (by kernel_rfl))
  f166 := Tryd.func29.trans (congrArg some (by kernel_rfl))
  f169 := Tryd.func19.trans (congrArg some (by kernel_rfl))
  f240 := Tryd.func36.trans (congrArg some (by kernel_rfl))
  f241 := Tryd.func44.trans (congrArg some (by kernel_rfl))
  f276 := Tryd.func39.trans (congrArg some (by kernel_rfl))
  f277 := Tryd.func50.trans (congrArg some (by kernel_rfl))
  t0 := Tryd.underlying0
  a0 := Tryd.isAgg0
  z0 := Tryd.sizeOf0
  v0 := Tryd.zeroValue0
  t3 := Tryd.underlying3
  a3 := Tryd.isAgg3
  z3 := Tryd.sizeOf3
  v3 := Tryd.zeroValue3
  t4 := Tryd.underlying4
  a4 := Tryd.isAgg4
  z4 := Tryd.sizeOf4
  v4 := Tryd.zeroValue4
  t9 := Tryd.underlying9
  a9 := Tryd.isAgg9
  z9 := Tryd.sizeOf9
  v9 := Tryd.zeroValue9
  t20 := Tryd.underlying20
  a20 := Tryd.isAgg20
  z20 := Tryd.sizeOf20
  v20 := Tryd.zeroValue20
  t31 := Tryd.underlying58
  a31 := Tryd.isAgg58
  z31 := Tryd.sizeOf58
  v31 := Tryd.zeroValue58
  t37 := Tryd.underlying48
  a37 := Tryd.isAgg48
  z37 := Tryd.sizeOf48
  v37 := Tryd.zeroValue48
  t70 := Tryd.underlying47
  a70 := Tryd.isAgg47
  z70 := Tryd.sizeOf47
  v70 := Tryd.zeroValue47
  t72 := Tryd.underlying50
  a72 := Tryd.isAgg50
  z72 := Tryd.sizeOf50
  v72 := Tryd.zeroValue50
  t75 := Tryd.underlying65
  a75 := Tryd.isAgg65
  z75 := Tryd.sizeOf65
  v75 := Tryd.zeroValue65
  t76 := Tryd.underlying66
  a76 := Tryd.isAgg66
  z76 := Tryd.sizeOf66
  v76 := Tryd.zeroValue66
  t127 := Tryd.underlying69
  a127 := Tryd.isAgg69
  z127 := Tryd.sizeOf69
  v127 := Tryd.zeroValue69
  t164 := Tryd.underlying75
  a164 := Tryd.isAgg75
  z164 := Tryd.sizeOf75
  v164 := Tryd.zeroValue75
def checkLays_ren : Go.Shelf.Ren := ⟨fun | 240 => 36 | 276 => 39 | n => n, fun | 70 => 47 | 0 => 0 | 72 => 50 | 4 => 4 | 164 => 75 | 37 => 48 | 5 => 5 | n => n, fun | n => n⟩
theorem checkLays : Go.Proofs.Lays.n240 Tryd.prog checkLays_ren where
  mixed := by kernel_rfl
  f240 := Tryd.func36.trans (congrArg some (by kernel_rfl))
  f276 := Tryd.func39.trans (congrArg some (by kernel_rfl))
  t0 := Tryd.underlying0
  a0 := Tryd.isAgg0
  z0 := Tryd.sizeOf0
  v0 := Tryd.zeroValue0
  t4 := Tryd.underlying4
  a4 := Tryd.isAgg4
  z4 := Tryd.sizeOf4
  v4 := Tryd.zeroValue4
  t9 := Tryd.underlying9
  a9 := Tryd.isAgg9
  z9 := Tryd.sizeOf9
  v9 := Tryd.zeroValue9
  t20 := Tryd.underlying20
  a20 := Tryd.isAgg20
  z20 := Tryd.sizeOf20
  v20 := Tryd.zeroValue20
  t70 := Tryd.underlying47
  a70 := Tryd.isAgg47
  z70 := Tryd.sizeOf47
  v70 := Tryd.zeroValue47
  t72 := Tryd.underlying50
  a72 := Tryd.isAgg50
  z72 := Tryd.sizeOf50
  v72 := Tryd.zeroValue50
  t164 := Tryd.underlying75
  a164 := Tryd.isAgg75
  z164 := Tryd.sizeOf75
  v164 := Tryd.zeroValue75
theorem joinX : Builder.Extra Tryd.prog joinLays_ren where
  sizeBuilder := by kernel_rfl
  liesBuilder := by kernel_rfl
  t5 := Tryd.underlying5
  a5 := Tryd.isAgg5
  z5 := Tryd.sizeOf5
  v5 := Tryd.zeroValue5
  infoByte := by kernel_rfl
  cellsByte := by kernel_rfl
  sizeByte := by kernel_rfl
  neB5 := by decide
theorem checkX : Builder.X72 Tryd.prog checkLays_ren where
  sizeBuilder := by kernel_rfl
  liesBuilder := by kernel_rfl
def primNo : AX.Prim → Nat
  | .join => 33
  | .rep => 1000000
  | .count => 1000000
  | .index => 1000000
  | .check _ => 36
  | .atoi => 1000000
  | .add64 => 1000000
theorem primAll : ((List.range Tryd.prog.funcs.size).all fun g => match AX.primAt Tryd.prog g with | none => true | some p => Nat.beq g (primNo p)) = true := by kernel_rfl
theorem primGo (g : FuncId) (p : AX.Prim) (h : AX.primAt Tryd.prog g = some p) : g = primNo p := by
  have hg : g < Tryd.prog.funcs.size := by
    unfold AX.primAt at h
    split at h
    · rename_i fn hf; exact (Array.getElem?_eq_some_iff.1 hf).1
    · cases h
  have := List.all_eq_true.1 primAll g (List.mem_range.2 hg)
  rw [h] at this
  exact Nat.eq_of_beq_eq_true this
theorem prims : AX.PrimOk Tryd.prog := by
  intro g p args H v H' hp hv
  have e := primGo g p hp
  subst e
  cases p with
  | join => exact .inl ⟨⟨Tryd.f33, (Option.isSome_iff_exists.1 (by kernel_rfl : Tryd.f33.body.isSome = true)).imp fun _ h => ⟨Tryd.func33, h⟩⟩, AX.join_for joinLays joinX args H v H' hv⟩
  | rep =>
    have hp' : AX.primAt Tryd.prog 1000000 = some _ := hp
    rw [show AX.primAt Tryd.prog 1000000 = none by kernel_rfl] at hp'
    cases hp'
  | count =>
    have hp' : AX.primAt Tryd.prog 1000000 = some _ := hp
    rw [show AX.primAt Tryd.prog 1000000 = none by kernel_rfl] at hp'
    cases hp'
  | index =>
    have hp' : AX.primAt Tryd.prog 1000000 = some _ := hp
    rw [show AX.primAt Tryd.prog 1000000 = none by kernel_rfl] at hp'
    cases hp'
  | check t =>
    have ht : Tryd.f36.params[0]? = some t := by
      have hq : AX.primAt Tryd.prog 36 = Tryd.f36.params[0]?.map .check := by kernel_rfl
      have hp' : AX.primAt Tryd.prog 36 = some (.check t) := hp
      rw [hq, Option.map_eq_some_iff] at hp'
      obtain ⟨u, h1, h2⟩ := hp'
      cases h2; exact h1
    rw [Tryd.params36] at ht
    cases ht
    exact .inl ⟨⟨Tryd.f36, (Option.isSome_iff_exists.1 (by kernel_rfl : Tryd.f36.body.isSome = true)).imp fun _ h => ⟨Tryd.func36, h⟩⟩, AX.check_for checkLays checkX Tryd.underlying47 args H v H' hv⟩
  | atoi =>
    have hp' : AX.primAt Tryd.prog 1000000 = some _ := hp
    rw [show AX.primAt Tryd.prog 1000000 = none by kernel_rfl] at hp'
    cases hp'
  | add64 =>
    have hp' : AX.primAt Tryd.prog 1000000 = some _ := hp
    rw [show AX.primAt Tryd.prog 1000000 = none by kernel_rfl] at hp'
    cases hp'
end Go.Proofs.YtkngijdjkcdcjaaDoor
