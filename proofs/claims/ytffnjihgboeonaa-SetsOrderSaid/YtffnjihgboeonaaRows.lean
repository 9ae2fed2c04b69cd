/-
  No cell of these rows narrows 'for every input' (looked for: loops, veiled, ifaces, maps, wideKeys, modest, calm, conditions, laid).
  DERIVED. THE GIVEN ROWS OF THIS SEAT. 3 by the template 'for every input the law returns true; each argument reads behind the call as it read before'; 0 by the template 'total and deterministic' (their statements: YtffnjihgboeonaaTotals.lean).
  GIVEN WITH THE SEED: the statements are not yours to turn. If you find one false, say at which input.
  Laid BY PROGRAM, IN A SANDBOX (cutbox-rows.mjs): the forced cells as the released guide's own fill.sh prints them over the translation 54004923d97d46b9… (all of the seat's roots in one cut). By AI agents, Wed Nov 11 2026. No macro, syntax, notation, axiom, sorry.
-/
import Derived.Test.YtffnjihgboeonaaChecked
import GoSem.Claim
import GoSem.ClaimJoined
import GoSem.ClaimMapViews
import Derived.JoinedTies
import Derived.KernelRfl
namespace Go.Proofs.Ytffnjihgboeonaa
/- THE CELL 'sum', in the pinned program and in every row, IS THE sha256 OF THE DUMP (.gsa) THAT YtffnjihgboeonaaProg.lean LOADS. Nothing in Lean hashes anything: it is a label: what it is worth is what the hold of that sum in a sandbox is worth. -/
noncomputable def Try.pinned : Pinned := { name := "ytffnjihgboeonaa", sum := "54004923d97d46b9afb1b2ad04156a5a581557165f60df7e3f46ab067018fded", checked := Try.checked }
namespace Rows
def none {H : Type} : Left H := { results := [], args := [] }

/-- 'rejoinderlaw10.SetsOrder': WHATEVER THE INPUT: true; the input reads as it did. -/
def setsOrderSpec : ChangeSpec := { name := "setsOrder", fn := fun _ => fun
  | [d1, d2] => { results := [.lit (.bool true)], args := [d1, d2] }
  | _ => none }
def setsOrderRow : OpenClaim := { program := "ytffnjihgboeonaa", sum := "54004923d97d46b9afb1b2ad04156a5a581557165f60df7e3f46ab067018fded", func := "rejoinder/rejoinderlaw10.SetsOrder", spec := "setsOrder", unfollowed := true, recurses := true, apart := false }
def SetsOrderSaid : Prop := setsOrderRow.holds Try.pinned (OpenSpec.ofChange setsOrderSpec)

/-- ITS FALSE NEIGHBOUR: 'it returns false'. Refute it at one input. -/
def setsOrderWrong : ChangeSpec := { name := "setsOrder", fn := fun _ => fun
  | [d1, d2] => { results := [.lit (.bool false)], args := [d1, d2] }
  | _ => none }
def SetsOrderWrongFalsely : Prop := setsOrderRow.holds Try.pinned (OpenSpec.ofChange setsOrderWrong)

/-- 'rejoinderlaw10.SetsRing': WHATEVER THE INPUT: true; the input reads as it did. -/
def setsRingSpec : ChangeSpec := { name := "setsRing", fn := fun _ => fun
  | [d1, d2, d3] => { results := [.lit (.bool true)], args := [d1, d2, d3] }
  | _ => none }
def setsRingRow : OpenClaim := { program := "ytffnjihgboeonaa", sum := "54004923d97d46b9afb1b2ad04156a5a581557165f60df7e3f46ab067018fded", func := "rejoinder/rejoinderlaw10.SetsRing", spec := "setsRing", unfollowed := true, recurses := true, apart := false }
def SetsRingSaid : Prop := setsRingRow.holds Try.pinned (OpenSpec.ofChange setsRingSpec)

/-- ITS FALSE NEIGHBOUR: 'it returns false'. Refute it at one input. -/
def setsRingWrong : ChangeSpec := { name := "setsRing", fn := fun _ => fun
  | [d1, d2, d3] => { results := [.lit (.bool false)], args := [d1, d2, d3] }
  | _ => none }
def SetsRingWrongFalsely : Prop := setsRingRow.holds Try.pinned (OpenSpec.ofChange setsRingWrong)

/-- 'rejoinderlaw10.SetsMean': WHATEVER THE INPUT: true; the input reads as it did. -/
def setsMeanSpec : ChangeSpec := { name := "setsMean", fn := fun _ => fun
  | [d1, d2, d3] => { results := [.lit (.bool true)], args := [d1, d2, d3] }
  | _ => none }
def setsMeanRow : OpenClaim := { program := "ytffnjihgboeonaa", sum := "54004923d97d46b9afb1b2ad04156a5a581557165f60df7e3f46ab067018fded", func := "rejoinder/rejoinderlaw10.SetsMean", spec := "setsMean", unfollowed := true, recurses := true, apart := false }
def SetsMeanSaid : Prop := setsMeanRow.holds Try.pinned (OpenSpec.ofChange setsMeanSpec)

/-- ITS FALSE NEIGHBOUR: 'it returns false'. Refute it at one input. -/
def setsMeanWrong : ChangeSpec := { name := "setsMean", fn := fun _ => fun
  | [d1, d2, d3] => { results := [.lit (.bool false)], args := [d1, d2, d3] }
  | _ => none }
def SetsMeanWrongFalsely : Prop := setsMeanRow.holds Try.pinned (OpenSpec.ofChange setsMeanWrong)

/- THE SECOND FORM. 'bulk': how many values and letters a reading holds, each counted each time it is reached (what is shared counts as often as it is met; a slice's spare places count too). A statement '..UptoSaid' is the law's where the arguments, and the package variables that the reading takes, are together of bulk at most 1048576: NARROWER than '..Said'. Prove '..Said' where nothing that the law and all that it calls make is longer than what came in: it says more and counts as full. Else prove '..UptoSaid'. A law counts once. -/
mutual
def uptoBulk {H : Type} : DataW H → Nat
  | .lit (.string bytes) => bytes.length + 1
  | .lit _ => 1
  | .nil => 1
  | .ptr d => uptoBulk d + 1
  | .slice elems spare => uptoBulkAll elems + uptoBulkAll spare + 1
  | .agg parts => uptoBulkAll parts + 1
  | .iface _ d => uptoBulk d + 1
  | .map entries => uptoBulkEntries entries + 1
  | .held _ => 1
def uptoBulkAll {H : Type} : List (DataW H) → Nat
  | [] => 0
  | d :: r => uptoBulk d + uptoBulkAll r
def uptoBulkEntries {H : Type} : List (Lit × DataW H) → Nat
  | [] => 0
  | x :: r => uptoBulkEntry x + uptoBulkEntries r
def uptoBulkEntry {H : Type} : Lit × DataW H → Nat
  | (.string bytes, d) => bytes.length + uptoBulk d + 1
  | (_, d) => uptoBulk d + 1
 end
def uptoSmall : (H : Type) → List (DataW H) → Bool := fun _ ds => decide (uptoBulkAll ds ≤ 1048576)
def OpenSpec.upto (s : _root_.Go.ChangeSpec) : _root_.Go.OpenSpec := { _root_.Go.OpenSpec.ofChange s with cond := some uptoSmall }

/-- 'rejoinderlaw10.SetsOrder', WHERE WHAT IT READS IS OF BULK AT MOST 1048576: true; the input reads as it did. -/
def setsOrderUptoRow : OpenClaim := { program := "ytffnjihgboeonaa", sum := "54004923d97d46b9afb1b2ad04156a5a581557165f60df7e3f46ab067018fded", func := "rejoinder/rejoinderlaw10.SetsOrder", spec := "setsOrder", unfollowed := true, recurses := true, apart := false, narrowed := true }
def SetsOrderUptoSaid : Prop := setsOrderUptoRow.holds Try.pinned (OpenSpec.upto setsOrderSpec)

/-- 'rejoinderlaw10.SetsRing', WHERE WHAT IT READS IS OF BULK AT MOST 1048576: true; the input reads as it did. -/
def setsRingUptoRow : OpenClaim := { program := "ytffnjihgboeonaa", sum := "54004923d97d46b9afb1b2ad04156a5a581557165f60df7e3f46ab067018fded", func := "rejoinder/rejoinderlaw10.SetsRing", spec := "setsRing", unfollowed := true, recurses := true, apart := false, narrowed := true }
def SetsRingUptoSaid : Prop := setsRingUptoRow.holds Try.pinned (OpenSpec.upto setsRingSpec)

/-- 'rejoinderlaw10.SetsMean', WHERE WHAT IT READS IS OF BULK AT MOST 1048576: true; the input reads as it did. -/
def setsMeanUptoRow : OpenClaim := { program := "ytffnjihgboeonaa", sum := "54004923d97d46b9afb1b2ad04156a5a581557165f60df7e3f46ab067018fded", func := "rejoinder/rejoinderlaw10.SetsMean", spec := "setsMean", unfollowed := true, recurses := true, apart := false, narrowed := true }
def SetsMeanUptoSaid : Prop := setsMeanUptoRow.holds Try.pinned (OpenSpec.upto setsMeanSpec)

end Rows
end Go.Proofs.Ytffnjihgboeonaa
