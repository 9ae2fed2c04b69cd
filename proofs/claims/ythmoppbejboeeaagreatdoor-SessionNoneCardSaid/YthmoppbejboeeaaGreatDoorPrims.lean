/- Functions of Go's library in this program that answer as the library's contracts say: strings.Join, strings.Count, internal/stringslite.Index, Builder's copyCheck, strconv.Atoi, math/bits.Add64. -/
import Derived.Test.YthmoppbejboeeaaGreatDoorChecked
import Derived.Test.YthmoppbejboeeaaGreatDoorAxPrim
import Derived.WalkKit
import Derived.ProofKit
set_option linter.unusedVariables false
set_option maxRecDepth 100000
namespace Go.Proofs.YthmoppbejboeeaaGreatDoor
open Go.Shelf Go.Proofs
def joinLays_ren : Go.Shelf.Ren := ⟨fun | 156 => 119 | 165 => 171 | 166 => 11 | 169 => 12 | 240 => 21 | 241 => 222 | 276 => 76 | 277 => 249 | n => n, fun | 31 => 24 | 9 => 9 | 3 => 3 | 4 => 4 | 0 => 0 | 20 => 20 | 72 => 48 | 76 => 51 | 70 => 45 | 37 => 46 | 75 => 50 | 127 => 68 | 164 => 118 | 5 => 5 | 80 => 53 | n => n, fun | n => n⟩
theorem joinLays : Go.Proofs.Lays.n156 Tryz.prog joinLays_ren where
  mixed := by kernel_rfl
  f156 := Tryz.func119.trans (congrArg some (by kernel_rfl))
  f165 := Tryz.func171.trans (congrArg some (by kernel_rfl))
  f166 := Tryz.func11.trans (congrArg some (by kernel_rfl))
  f169 := Tryz.func12.trans (congrArg some (by kernel_rfl))
  f240 := Tryz.func21.trans (congrArg some (by kernel_rfl))
  f241 := Tryz.func222.trans (congrArg some (by kernel_rfl))
  f276 := Tryz.func76.trans (congrArg some (by kernel_rfl))
  f277 := Tryz.func249.trans (congrArg some (by kernel_rfl))
  t0 := Tryz.underlying0
  a0 := Tryz.isAgg0
  z0 := Tryz.sizeOf0
  v0 := Tryz.zeroValue0
  t3 := Tryz.underlying3
  a3 := Tryz.isAgg3
  z3 := Tryz.sizeOf3
  v3 := Tryz.zeroValue3
  t4 := Tryz.underlying4
  a4 := Tryz.isAgg4
  z4 := Tryz.sizeOf4
  v4 := Tryz.zeroValue4
  t9 := Tryz.underlying9
  a9 := Tryz.isAgg9
  z9 := Tryz.sizeOf9
  v9 := Tryz.zeroValue9
  t20 := Tryz.underlying20
  a20 := Tryz.isAgg20
  z20 := Tryz.sizeOf20
  v20 := Tryz.zeroValue20
  t31 := Tryz.underlying24
  a31 := Tryz.isAgg24
  z31 := Tryz.sizeOf24
  v31 := Tryz.zeroValue24
  t37 := Tryz.underlying46
  a37 := Tryz.isAgg46
  z37 := Tryz.sizeOf46
  v37 := Tryz.zeroValue46
  t70 := Tryz.underlying45
  a70 := Tryz.isAgg45
  z70 := Tryz.sizeOf45
  v70 := Tryz.zeroValue45
  t72 := Tryz.underlying48
  a72 := Tryz.isAgg48
  z72 := Tryz.sizeOf48
  v72 := Tryz.zeroValue48
  t75 := Tryz.underlying50
  a75 := Tryz.isAgg50
  z75 := Tryz.sizeOf50
  v75 := Tryz.zeroValue50
  t76 := Tryz.underlying51
  a76 := Tryz.isAgg51
  z76 := Tryz.sizeOf51
  v76 := Tryz.zeroValue51
  t127 := Tryz.underlying68
  a127 := Tryz.isAgg68
  z127 := Tryz.sizeOf68
  v127 := Tryz.zeroValue68
  t164 := Tryz.underlying118
  a164 := Tryz.isAgg118
  z164 := Tryz.sizeOf118
  v164 := Tryz.zeroValue118
def countLays_ren : Go.Shelf.Ren := ⟨fun | 138 => 151 | 195 => 212 | 218 => 213 | 143 => 152 | 219 => 22 | 217 => 77 | 225 => 78 | 224 => 79 | 267 => 80 | 266 => 125 | 314 => 126 | n => n, fun | 9 => 9 | 3 => 3 | 4 => 4 | 5 => 5 | 0 => 0 | 46 => 122 | 146 => 190 | 51 => 189 | n => n, fun | 1 => 0 | n => n⟩
theorem countLays : Go.Proofs.Lays.n138 Tryz.prog countLays_ren where
  mixed := by kernel_rfl
  f138 := Tryz.func151.trans (congrArg some (by kernel_rfl))
  f143 := Tryz.func152.trans (congrArg some (by kernel_rfl))
  f195 := Tryz.func212.trans (congrArg some (by kernel_rfl))
  f217 := Tryz.func77.trans (congrArg some (by kernel_rfl))
  f218 := Tryz.func213.trans (congrArg some (by kernel_rfl))
  f219 := Tryz.func22.trans (congrArg some (by kernel_rfl))
  f224 := Tryz.func79.trans (congrArg some (by kernel_rfl))
  f225 := Tryz.func78.trans (congrArg some (by kernel_rfl))
  f266 := Tryz.func125.trans (congrArg some (by kernel_rfl))
  f267 := Tryz.func80.trans (congrArg some (by kernel_rfl))
  f314 := Tryz.func126.trans (congrArg some (by kernel_rfl))
  t0 := Tryz.underlying0
  a0 := Tryz.isAgg0
  z0 := Tryz.sizeOf0
  v0 := Tryz.zeroValue0
  t3 := Tryz.underlying3
  a3 := Tryz.isAgg3
  z3 := Tryz.sizeOf3
  v3 := Tryz.zeroValue3
  t4 := Tryz.underlying4
  a4 := Tryz.isAgg4
  z4 := Tryz.sizeOf4
  v4 := Tryz.zeroValue4
  t5 := Tryz.underlying5
  a5 := Tryz.isAgg5
  z5 := Tryz.sizeOf5
  v5 := Tryz.zeroValue5
  t9 := Tryz.underlying9
  a9 := Tryz.isAgg9
  z9 := Tryz.sizeOf9
  v9 := Tryz.zeroValue9
  t46 := Tryz.underlying122
  a46 := Tryz.isAgg122
  z46 := Tryz.sizeOf122
  v46 := Tryz.zeroValue122
  t51 := Tryz.underlying189
  a51 := Tryz.isAgg189
  z51 := Tryz.sizeOf189
  v51 := Tryz.zeroValue189
  t146 := Tryz.underlying190
  a146 := Tryz.isAgg190
  z146 := Tryz.sizeOf190
  v146 := Tryz.zeroValue190
  g1 := by kernel_rfl
def indexLays_ren : Go.Shelf.Ren := ⟨fun | 219 => 22 | 217 => 77 | 225 => 78 | 224 => 79 | 267 => 80 | 266 => 125 | 314 => 126 | n => n, fun | 9 => 9 | 3 => 3 | 4 => 4 | 5 => 5 | 46 => 122 | 146 => 190 | 51 => 189 | n => n, fun | 1 => 0 | n => n⟩
theorem indexLays : Go.Proofs.Lays.n219 Tryz.prog indexLays_ren where
  mixed := by kernel_rfl
  f217 := Tryz.func77.trans (congrArg some (by kernel_rfl))
  f219 := Tryz.func22.trans (congrArg some (by kernel_rfl))
  f224 := Tryz.func79.trans (congrArg some (by kernel_rfl))
  f225 := Tryz.func78.trans (congrArg some (by kernel_rfl))
  f266 := Tryz.func125.trans (congrArg some (by kernel_rfl))
  f267 := Tryz.func80.trans (congrArg some (by kernel_rfl))
  f314 := Tryz.func126.trans (congrArg some (by kernel_rfl))
  t3 := Tryz.underlying3
  a3 := Tryz.isAgg3
  z3 := Tryz.sizeOf3
  v3 := Tryz.zeroValue3
  t4 := Tryz.underlying4
  a4 := Tryz.isAgg4
  z4 := Tryz.sizeOf4
  v4 := Tryz.zeroValue4
  t5 := Tryz.underlying5
  a5 := Tryz.isAgg5
  z5 := Tryz.sizeOf5
  v5 := Tryz.zeroValue5
  t9 := Tryz.underlying9
  a9 := Tryz.isAgg9
  z9 := Tryz.sizeOf9
  v9 := Tryz.zeroValue9
  t46 := Tryz.underlying122
  a46 := Tryz.isAgg122
  z46 := Tryz.sizeOf122
  v46 := Tryz.zeroValue122
  t51 := Tryz.underlying189
  a51 := Tryz.isAgg189
  z51 := Tryz.sizeOf189
  v51 := Tryz.zeroValue189
  t146 := Tryz.underlying190
  a146 := Tryz.isAgg190
  z146 := Tryz.sizeOf190
  v146 := Tryz.zeroValue190
  g1 := by kernel_rfl
def checkLays_ren : Go.Shelf.Ren := ⟨fun | 240 => 21 | 276 => 76 | n => n, fun | 70 => 45 | 0 => 0 | 72 => 48 | 4 => 4 | 164 => 118 | 37 => 46 | 5 => 5 | n => n, fun | n => n⟩
theorem checkLays : Go.Proofs.Lays.n240 Tryz.prog checkLays_ren where
  mixed := by kernel_rfl
  f240 := Tryz.func21.trans (congrArg some (by kernel_rfl))
  f276 := Tryz.func76.trans (congrArg some (by kernel_rfl))
  t0 := Tryz.underlying0
  a0 := Tryz.isAgg0
  z0 := Tryz.sizeOf0
  v0 := Tryz.zeroValue0
  t4 := Tryz.underlying4
  a4 := Tryz.isAgg4
  z4 := Tryz.sizeOf4
  v4 := Tryz.zeroValue4
  t9 := Tryz.underlying9
  a9 := Tryz.isAgg9
  z9 := Tryz.sizeOf9
  v9 := Tryz.zeroValue9
  t20 := Tryz.underlying20
  a20 := Tryz.isAgg20
  z20 := Tryz.sizeOf20
  v20 := Tryz.zeroValue20
  t70 := Tryz.underlying45
  a70 := Tryz.isAgg45
  z70 := Tryz.sizeOf45
  v70 := Tryz.zeroValue45
  t72 := Tryz.underlying48
  a72 := Tryz.isAgg48
  z72 := Tryz.sizeOf48
  v72 := Tryz.zeroValue48
  t164 := Tryz.underlying118
  a164 := Tryz.isAgg118
  z164 := Tryz.sizeOf118
  v164 := Tryz.zeroValue118
def atoiLays_ren : Go.Shelf.Ren := ⟨fun | 172 => 120 | 244 => 172 | 245 => 173 | 247 => 223 | 279 => 224 | 280 => 225 | 281 => 226 | 282 => 227 | 287 => 250 | 316 => 251 | 171 => 10 | 205 => 252 | 321 => 269 | 322 => 270 | 243 => 20 | 246 => 75 | 283 => 121 | 284 => 122 | 285 => 123 | 286 => 124 | 129 => 175 | 317 => 174 | 318 => 176 | 319 => 177 | 320 => 178 | 337 => 228 | 338 => 229 | n => n, fun | 9 => 9 | 3 => 3 | 75 => 50 | 76 => 51 | 4 => 4 | 5 => 5 | 167 => 314 | 37 => 46 | 0 => 0 | 85 => 315 | 2 => 2 | 168 => 317 | 53 => 96 | 175 => 349 | 46 => 122 | 210 => 352 | 127 => 68 | 145 => 375 | 143 => 373 | 21 => 21 | 171 => 184 | 173 => 187 | 212 => 252 | 51 => 189 | 20 => 20 | 213 => 253 | 232 => 354 | 233 => 355 | 80 => 53 | n => n, fun | 15 => 4 | 16 => 5 | 17 => 1 | 18 => 6 | 19 => 7 | n => n⟩
theorem atoiLays : Go.Proofs.Lays.n172 Tryz.prog atoiLays_ren where
  mixed := by kernel_rfl
  f129 := Tryz.func175.trans (congrArg some (by kernel_rfl))
  f171 := Tryz.func10.trans (congrArg some (by kernel_rfl))
  f172 := Tryz.func120.trans (congrArg some (by kernel_rfl))
  f205 := Tryz.func252.trans (congrArg some (by kernel_rfl))
  f243 := Tryz.func20.trans (congrArg some (by kernel_rfl))
  f244 := Tryz.func172.trans (congrArg some (by kernel_rfl))
  f245 := Tryz.func173.trans (congrArg some (by kernel_rfl))
  f246 := Tryz.func75.trans (congrArg some (by kernel_rfl))
  f247 := Tryz.func223.trans (congrArg some (by kernel_rfl))
  f279 := Tryz.func224.trans (congrArg some (by kernel_rfl))
  f280 := Tryz.func225.trans (congrArg some (by kernel_rfl))
  f281 := Tryz.func226.trans (congrArg some (by kernel_rfl))
  f282 := Tryz.func227.trans (congrArg some (by kernel_rfl))
  f283 := Tryz.func121.trans (congrArg some (by kernel_rfl))
  f284 := Tryz.func122.trans (congrArg some (by kernel_rfl))
  f285 := Tryz.func123.trans (congrArg some (by kernel_rfl))
  f286 := Tryz.func124.trans (congrArg some (by kernel_rfl))
  f287 := Tryz.func250.trans (congrArg some (by kernel_rfl))
  f316 := Tryz.func251.trans (congrArg some (by kernel_rfl))
  f317 := Tryz.func174.trans (congrArg some (by kernel_rfl))
  f318 := Tryz.func176.trans (congrArg some (by kernel_rfl))
  f319 := Tryz.func177.trans (congrArg some (by kernel_rfl))
  f320 := Tryz.func178.trans (congrArg some (by kernel_rfl))
  f321 := Tryz.func269.trans (congrArg some (by kernel_rfl))
  f322 := Tryz.func270.trans (congrArg some (by kernel_rfl))
  f337 := Tryz.func228.trans (congrArg some (by kernel_rfl))
  f338 := Tryz.func229.trans (congrArg some (by kernel_rfl))
  t0 := Tryz.underlying0
  a0 := Tryz.isAgg0
  z0 := Tryz.sizeOf0
  v0 := Tryz.zeroValue0
  t2 := Tryz.underlying2
  a2 := Tryz.isAgg2
  z2 := Tryz.sizeOf2
  v2 := Tryz.zeroValue2
  t3 := Tryz.underlying3
  a3 := Tryz.isAgg3
  z3 := Tryz.sizeOf3
  v3 := Tryz.zeroValue3
  t4 := Tryz.underlying4
  a4 := Tryz.isAgg4
  z4 := Tryz.sizeOf4
  v4 := Tryz.zeroValue4
  t5 := Tryz.underlying5
  a5 := Tryz.isAgg5
  z5 := Tryz.sizeOf5
  v5 := Tryz.zeroValue5
  t9 := Tryz.underlying9
  a9 := Tryz.isAgg9
  z9 := Tryz.sizeOf9
  v9 := Tryz.zeroValue9
  t20 := Tryz.underlying20
  a20 := Tryz.isAgg20
  z20 := Tryz.sizeOf20
  v20 := Tryz.zeroValue20
  t21 := Tryz.underlying21
  a21 := Tryz.isAgg21
  z21 := Tryz.sizeOf21
  v21 := Tryz.zeroValue21
  t37 := Tryz.underlying46
  a37 := Tryz.isAgg46
  z37 := Tryz.sizeOf46
  v37 := Tryz.zeroValue46
  t46 := Tryz.underlying122
  a46 := Tryz.isAgg122
  z46 := Tryz.sizeOf122
  v46 := Tryz.zeroValue122
  t51 := Tryz.underlying189
  a51 := Tryz.isAgg189
  z51 := Tryz.sizeOf189
  v51 := Tryz.zeroValue189
  t53 := Tryz.underlying96
  a53 := Tryz.isAgg96
  z53 := Tryz.sizeOf96
  v53 := Tryz.zeroValue96
  t75 := Tryz.underlying50
  a75 := Tryz.isAgg50
  z75 := Tryz.sizeOf50
  v75 := Tryz.zeroValue50
  t76 := Tryz.underlying51
  a76 := Tryz.isAgg51
  z76 := Tryz.sizeOf51
  v76 := Tryz.zeroValue51
  t85 := Tryz.underlying315
  a85 := Tryz.isAgg315
  z85 := Tryz.sizeOf315
  v85 := Tryz.zeroValue315
  t127 := Tryz.underlying68
  a127 := Tryz.isAgg68
  z127 := Tryz.sizeOf68
  v127 := Tryz.zeroValue68
  t143 := Tryz.underlying373
  a143 := Tryz.isAgg373
  z143 := Tryz.sizeOf373
  v143 := Tryz.zeroValue373
  t145 := Tryz.underlying375
  a145 := Tryz.isAgg375
  z145 := Tryz.sizeOf375
  v145 := Tryz.zeroValue375
  t167 := Tryz.underlying314
  a167 := Tryz.isAgg314
  z167 := Tryz.sizeOf314
  v167 := Tryz.zeroValue314
  t168 := Tryz.underlying317
  a168 := Tryz.isAgg317
  z168 := Tryz.sizeOf317
  v168 := Tryz.zeroValue317
  t171 := Tryz.underlying184
  a171 := Tryz.isAgg184
  z171 := Tryz.sizeOf184
  v171 := Tryz.zeroValue184
  t173 := Tryz.underlying187
  a173 := Tryz.isAgg187
  z173 := Tryz.sizeOf187
  v173 := Tryz.zeroValue187
  t175 := Tryz.underlying349
  a175 := Tryz.isAgg349
  z175 := Tryz.sizeOf349
  v175 := Tryz.zeroValue349
  t210 := Tryz.underlying352
  a210 := Tryz.isAgg352
  z210 := Tryz.sizeOf352
  v210 := Tryz.zeroValue352
  t212 := Tryz.underlying252
  a212 := Tryz.isAgg252
  z212 := Tryz.sizeOf252
  v212 := Tryz.zeroValue252
  t213 := Tryz.underlying253
  a213 := Tryz.isAgg253
  z213 := Tryz.sizeOf253
  t232 := Tryz.underlying354
  a232 := Tryz.isAgg354
  z232 := Tryz.sizeOf354
  v232 := Tryz.zeroValue354
  t233 := Tryz.underlying355
  a233 := Tryz.isAgg355
  z233 := Tryz.sizeOf355
  v233 := Tryz.zeroValue355
  g15 := by kernel_rfl
  g16 := by kernel_rfl
  g17 := by kernel_rfl
  g18 := by kernel_rfl
  g19 := by kernel_rfl
def add64Lays_ren : Go.Shelf.Ren := ⟨fun | 25 => 206 | n => n, fun | 22 => 96 | n => n, fun | n => n⟩
theorem add64Lays : Go.Proofs.Lays7.n25 Tryz.prog add64Lays_ren where
  mixed := by kernel_rfl
  f25 := Tryz.func206.trans (congrArg some (by kernel_rfl))
  t22 := Tryz.underlying96
  a22 := Tryz.isAgg96
  z22 := Tryz.sizeOf96
  v22 := Tryz.zeroValue96
  i22 := by kernel_rfl
theorem joinX : Builder.Extra Tryz.prog joinLays_ren where
  sizeBuilder := by kernel_rfl
  liesBuilder := by kernel_rfl
  t5 := Tryz.underlying5
  a5 := Tryz.isAgg5
  z5 := Tryz.sizeOf5
  v5 := Tryz.zeroValue5
  infoByte := by kernel_rfl
  cellsByte := by kernel_rfl
  sizeByte := by kernel_rfl
  neB5 := by decide
theorem checkX : Builder.X72 Tryz.prog checkLays_ren where
  sizeBuilder := by kernel_rfl
  liesBuilder := by kernel_rfl
def primNo : AX.Prim → Nat
  | .join => 119
  | .rep => 1000000
  | .count => 151
  | .index => 22
  | .check _ => 21
  | .atoi => 120
  | .add64 => 206
theorem primAll : ((List.range Tryz.prog.funcs.size).all fun g => match AX.primAt Tryz.prog g with | none => true | some p => Nat.beq g (primNo p)) = true := by kernel_rfl
theorem primGo (g : FuncId) (p : AX.Prim) (h : AX.primAt Tryz.prog g = some p) : g = primNo p := by
  have hg : g < Tryz.prog.funcs.size := by
    unfold AX.primAt at h
    split at h
    · rename_i fn hf; exact (Array.getElem?_eq_some_iff.1 hf).1
    · cases h
  have := List.all_eq_true.1 primAll g (List.mem_range.2 hg)
  rw [h] at this
  exact Nat.eq_of_beq_eq_true this
theorem prims : AX.PrimOk Tryz.prog := by
  intro g p args H v H' hp hv
  have e := primGo g p hp
  subst e
  cases p with
  | join => exact .inl ⟨⟨Tryz.f119, (Option.isSome_iff_exists.1 (by kernel_rfl : Tryz.f119.body.isSome = true)).imp fun _ h => ⟨Tryz.func119, h⟩⟩, AX.join_for joinLays joinX args H v H' hv⟩
  | rep =>
    have hp' : AX.primAt Tryz.prog 1000000 = some _ := hp
    rw [show AX.primAt Tryz.prog 1000000 = none by kernel_rfl] at hp'
    cases hp'
  | count => exact .inl ⟨⟨Tryz.f151, (Option.isSome_iff_exists.1 (by kernel_rfl : Tryz.f151.body.isSome = true)).imp fun _ h => ⟨Tryz.func151, h⟩⟩, AX.count_for countLays args H v H' hv⟩
  | index => exact .inl ⟨⟨Tryz.f22, (Option.isSome_iff_exists.1 (by kernel_rfl : Tryz.f22.body.isSome = true)).imp fun _ h => ⟨Tryz.func22, h⟩⟩, AX.index_for indexLays args H v H' hv⟩
  | check t =>
    have ht : Tryz.f21.params[0]? = some t := by
      have hq : AX.primAt Tryz.prog 21 = Tryz.f21.params[0]?.map .check := by kernel_rfl
      have hp' : AX.primAt Tryz.prog 21 = some (.check t) := hp
      rw [hq, Option.map_eq_some_iff] at hp'
      obtain ⟨u, h1, h2⟩ := hp'
      cases h2; exact h1
    rw [Tryz.params21] at ht
    cases ht
    exact .inl ⟨⟨Tryz.f21, (Option.isSome_iff_exists.1 (by kernel_rfl : Tryz.f21.body.isSome = true)).imp fun _ h => ⟨Tryz.func21, h⟩⟩, AX.check_for checkLays checkX Tryz.underlying45 args H v H' hv⟩
  | atoi => exact .inl ⟨⟨Tryz.f120, (Option.isSome_iff_exists.1 (by kernel_rfl : Tryz.f120.body.isSome = true)).imp fun _ h => ⟨Tryz.func120, h⟩⟩, AX.atoi_for atoiLays args H v H' hv⟩
  | add64 => exact .inr (AX.add64_ext add64Lays hv)
end Go.Proofs.YthmoppbejboeeaaGreatDoor
