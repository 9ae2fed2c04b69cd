/-
  No cell of these rows narrows 'for every input' (looked for: loops, veiled, ifaces, maps, wideKeys, modest, calm, conditions, laid).
  DERIVED. THE GIVEN ROWS OF THIS SEAT. 10 by the template 'for every input the law returns true; each argument reads behind the call as it read before'; 0 by the template 'total and deterministic' (their statements: YtcalhjlcnapnaaaTotals.lean).
  GIVEN WITH THE SEED: the statements are not yours to turn. If you find one false, say at which input.
  Laid BY PROGRAM, IN A SANDBOX (cutbox-rows.mjs): the forced cells as the released guide's own fill.sh prints them over the translation e045ac4c46821423… (all of the seat's roots in one cut). By AI agents, Wed Nov 11 2026. No macro, syntax, notation, axiom, sorry.
-/
import Derived.Test.YtcalhjlcnapnaaaChecked
import GoSem.Claim
import GoSem.ClaimJoined
import GoSem.ClaimMapViews
import Derived.JoinedTies
import Derived.KernelRfl
namespace Go.Proofs.Ytcalhjlcnapnaaa
/- THE CELL 'sum', in the pinned program and in every row, IS THE sha256 OF THE DUMP (.gsa) THAT YtcalhjlcnapnaaaProg.lean LOADS. Nothing in Lean hashes anything: it is a label: what it is worth is what the hold of that sum in a sandbox is worth. -/
noncomputable def Try.pinned : Pinned := { name := "ytcalhjlcnapnaaa", sum := "e045ac4c468214231a698cf1a7a047c2b2b256ba4080029130cebc7484230c5b", checked := Try.checked }
namespace Rows
def none {H : Type} : Left H := { results := [], args := [] }

/-- 'rejoinderlaw07.MeanCut': WHATEVER THE INPUT: true; the input reads as it did. -/
def meanCutSpec : ChangeSpec := { name := "meanCut", fn := fun _ => fun
  | [d1, d2, d3] => { results := [.lit (.bool true)], args := [d1, d2, d3] }
  | _ => none }
def meanCutRow : OpenClaim := { program := "ytcalhjlcnapnaaa", sum := "e045ac4c468214231a698cf1a7a047c2b2b256ba4080029130cebc7484230c5b", func := "rejoinder/rejoinderlaw07.MeanCut", spec := "meanCut", unfollowed := true, recurses := true, apart := false }
def MeanCutSaid : Prop := meanCutRow.holds Try.pinned (OpenSpec.ofChange meanCutSpec)

/-- ITS FALSE NEIGHBOUR: 'it returns false'. Refute it at one input. -/
def meanCutWrong : ChangeSpec := { name := "meanCut", fn := fun _ => fun
  | [d1, d2, d3] => { results := [.lit (.bool false)], args := [d1, d2, d3] }
  | _ => none }
def MeanCutWrongFalsely : Prop := meanCutRow.holds Try.pinned (OpenSpec.ofChange meanCutWrong)

/-- 'rejoinderlaw08.KernelTells': WHATEVER THE INPUT: true; the input reads as it did. -/
def kernelTellsSpec : ChangeSpec := { name := "kernelTells", fn := fun _ => fun
  | [d] => { results := [.lit (.bool true)], args := [d] }
  | _ => none }
def kernelTellsRow : OpenClaim := { program := "ytcalhjlcnapnaaa", sum := "e045ac4c468214231a698cf1a7a047c2b2b256ba4080029130cebc7484230c5b", func := "rejoinder/rejoinderlaw08.KernelTells", spec := "kernelTells", unfollowed := true, recurses := true, apart := false }
def KernelTellsSaid : Prop := kernelTellsRow.holds Try.pinned (OpenSpec.ofChange kernelTellsSpec)

/-- ITS FALSE NEIGHBOUR: 'it returns false'. Refute it at one input. -/
def kernelTellsWrong : ChangeSpec := { name := "kernelTells", fn := fun _ => fun
  | [d] => { results := [.lit (.bool false)], args := [d] }
  | _ => none }
def KernelTellsWrongFalsely : Prop := kernelTellsRow.holds Try.pinned (OpenSpec.ofChange kernelTellsWrong)

/-- 'rejoinderlaw08.KernelLong': WHATEVER THE INPUT: true; the input reads as it did. -/
def kernelLongSpec : ChangeSpec := { name := "kernelLong", fn := fun _ => fun
  | [d1, d2, d3] => { results := [.lit (.bool true)], args := [d1, d2, d3] }
  | _ => none }
def kernelLongRow : OpenClaim := { program := "ytcalhjlcnapnaaa", sum := "e045ac4c468214231a698cf1a7a047c2b2b256ba4080029130cebc7484230c5b", func := "rejoinder/rejoinderlaw08.KernelLong", spec := "kernelLong", unfollowed := true, recurses := true, apart := false }
def KernelLongSaid : Prop := kernelLongRow.holds Try.pinned (OpenSpec.ofChange kernelLongSpec)

/-- ITS FALSE NEIGHBOUR: 'it returns false'. Refute it at one input. -/
def kernelLongWrong : ChangeSpec := { name := "kernelLong", fn := fun _ => fun
  | [d1, d2, d3] => { results := [.lit (.bool false)], args := [d1, d2, d3] }
  | _ => none }
def KernelLongWrongFalsely : Prop := kernelLongRow.holds Try.pinned (OpenSpec.ofChange kernelLongWrong)

/-- 'rejoinderlaw08.KernelAgain': WHATEVER THE INPUT: true; the input reads as it did. -/
def kernelAgainSpec : ChangeSpec := { name := "kernelAgain", fn := fun _ => fun
  | [d] => { results := [.lit (.bool true)], args := [d] }
  | _ => none }
def kernelAgainRow : OpenClaim := { program := "ytcalhjlcnapnaaa", sum := "e045ac4c468214231a698cf1a7a047c2b2b256ba4080029130cebc7484230c5b", func := "rejoinder/rejoinderlaw08.KernelAgain", spec := "kernelAgain", unfollowed := true, recurses := true, apart := false }
def KernelAgainSaid : Prop := kernelAgainRow.holds Try.pinned (OpenSpec.ofChange kernelAgainSpec)

/-- ITS FALSE NEIGHBOUR: 'it returns false'. Refute it at one input. -/
def kernelAgainWrong : ChangeSpec := { name := "kernelAgain", fn := fun _ => fun
  | [d] => { results := [.lit (.bool false)], args := [d] }
  | _ => none }
def KernelAgainWrongFalsely : Prop := kernelAgainRow.holds Try.pinned (OpenSpec.ofChange kernelAgainWrong)

/-- 'rejoinderlaw08.KernelKnown': WHATEVER THE INPUT: true; the input reads as it did. -/
def kernelKnownSpec : ChangeSpec := { name := "kernelKnown", fn := fun _ => fun
  | [] => { results := [.lit (.bool true)], args := [] }
  | _ => none }
def kernelKnownRow : OpenClaim := { program := "ytcalhjlcnapnaaa", sum := "e045ac4c468214231a698cf1a7a047c2b2b256ba4080029130cebc7484230c5b", func := "rejoinder/rejoinderlaw08.KernelKnown", spec := "kernelKnown", unfollowed := true, recurses := true, apart := false }
def KernelKnownSaid : Prop := kernelKnownRow.holds Try.pinned (OpenSpec.ofChange kernelKnownSpec)

/-- ITS FALSE NEIGHBOUR: 'it returns false'. Refute it at one input. -/
def kernelKnownWrong : ChangeSpec := { name := "kernelKnown", fn := fun _ => fun
  | [] => { results := [.lit (.bool false)], args := [] }
  | _ => none }
def KernelKnownWrongFalsely : Prop := kernelKnownRow.holds Try.pinned (OpenSpec.ofChange kernelKnownWrong)

/-- 'rejoinderlaw07.MeanTells': WHATEVER THE INPUT: true; the input reads as it did. -/
def meanTellsSpec : ChangeSpec := { name := "meanTells", fn := fun _ => fun
  | [d1, d2, d3] => { results := [.lit (.bool true)], args := [d1, d2, d3] }
  | _ => none }
def meanTellsRow : OpenClaim := { program := "ytcalhjlcnapnaaa", sum := "e045ac4c468214231a698cf1a7a047c2b2b256ba4080029130cebc7484230c5b", func := "rejoinder/rejoinderlaw07.MeanTells", spec := "meanTells", unfollowed := true, recurses := true, apart := false }
def MeanTellsSaid : Prop := meanTellsRow.holds Try.pinned (OpenSpec.ofChange meanTellsSpec)

/-- ITS FALSE NEIGHBOUR: 'it returns false'. Refute it at one input. -/
def meanTellsWrong : ChangeSpec := { name := "meanTells", fn := fun _ => fun
  | [d1, d2, d3] => { results := [.lit (.bool false)], args := [d1, d2, d3] }
  | _ => none }
def MeanTellsWrongFalsely : Prop := meanTellsRow.holds Try.pinned (OpenSpec.ofChange meanTellsWrong)

/-- 'rejoinderlaw07.MeanKnown': WHATEVER THE INPUT: true; the input reads as it did. -/
def meanKnownSpec : ChangeSpec := { name := "meanKnown", fn := fun _ => fun
  | [] => { results := [.lit (.bool true)], args := [] }
  | _ => none }
def meanKnownRow : OpenClaim := { program := "ytcalhjlcnapnaaa", sum := "e045ac4c468214231a698cf1a7a047c2b2b256ba4080029130cebc7484230c5b", func := "rejoinder/rejoinderlaw07.MeanKnown", spec := "meanKnown", unfollowed := true, recurses := true, apart := false }
def MeanKnownSaid : Prop := meanKnownRow.holds Try.pinned (OpenSpec.ofChange meanKnownSpec)

/-- ITS FALSE NEIGHBOUR: 'it returns false'. Refute it at one input. -/
def meanKnownWrong : ChangeSpec := { name := "meanKnown", fn := fun _ => fun
  | [] => { results := [.lit (.bool false)], args := [] }
  | _ => none }
def MeanKnownWrongFalsely : Prop := meanKnownRow.holds Try.pinned (OpenSpec.ofChange meanKnownWrong)

/-- 'rejoinderlaw07.MeanDuals': WHATEVER THE INPUT: true; the input reads as it did. -/
def meanDualsSpec : ChangeSpec := { name := "meanDuals", fn := fun _ => fun
  | [d1, d2, d3] => { results := [.lit (.bool true)], args := [d1, d2, d3] }
  | _ => none }
def meanDualsRow : OpenClaim := { program := "ytcalhjlcnapnaaa", sum := "e045ac4c468214231a698cf1a7a047c2b2b256ba4080029130cebc7484230c5b", func := "rejoinder/rejoinderlaw07.MeanDuals", spec := "meanDuals", unfollowed := true, recurses := true, apart := false }
def MeanDualsSaid : Prop := meanDualsRow.holds Try.pinned (OpenSpec.ofChange meanDualsSpec)

/-- ITS FALSE NEIGHBOUR: 'it returns false'. Refute it at one input. -/
def meanDualsWrong : ChangeSpec := { name := "meanDuals", fn := fun _ => fun
  | [d1, d2, d3] => { results := [.lit (.bool false)], args := [d1, d2, d3] }
  | _ => none }
def MeanDualsWrongFalsely : Prop := meanDualsRow.holds Try.pinned (OpenSpec.ofChange meanDualsWrong)

/-- 'rejoinderlaw07.MeanPaths': WHATEVER THE INPUT: true; the input reads as it did. -/
def meanPathsSpec : ChangeSpec := { name := "meanPaths", fn := fun _ => fun
  | [d1, d2, d3, d4, d5] => { results := [.lit (.bool true)], args := [d1, d2, d3, d4, d5] }
  | _ => none }
def meanPathsRow : OpenClaim := { program := "ytcalhjlcnapnaaa", sum := "e045ac4c468214231a698cf1a7a047c2b2b256ba4080029130cebc7484230c5b", func := "rejoinder/rejoinderlaw07.MeanPaths", spec := "meanPaths", unfollowed := true, recurses := true, apart := false }
def MeanPathsSaid : Prop := meanPathsRow.holds Try.pinned (OpenSpec.ofChange meanPathsSpec)

/-- ITS FALSE NEIGHBOUR: 'it returns false'. Refute it at one input. -/
def meanPathsWrong : ChangeSpec := { name := "meanPaths", fn := fun _ => fun
  | [d1, d2, d3, d4, d5] => { results := [.lit (.bool false)], args := [d1, d2, d3, d4, d5] }
  | _ => none }
def MeanPathsWrongFalsely : Prop := meanPathsRow.holds Try.pinned (OpenSpec.ofChange meanPathsWrong)

/-- 'rejoinderlaw08.KernelMeans': WHATEVER THE INPUT: true; the input reads as it did. -/
def kernelMeansSpec : ChangeSpec := { name := "kernelMeans", fn := fun _ => fun
  | [d1, d2] => { results := [.lit (.bool true)], args := [d1, d2] }
  | _ => none }
def kernelMeansRow : OpenClaim := { program := "ytcalhjlcnapnaaa", sum := "e045ac4c468214231a698cf1a7a047c2b2b256ba4080029130cebc7484230c5b", func := "rejoinder/rejoinderlaw08.KernelMeans", spec := "kernelMeans", unfollowed := true, recurses := true, apart := false }
def KernelMeansSaid : Prop := kernelMeansRow.holds Try.pinned (OpenSpec.ofChange kernelMeansSpec)

/-- ITS FALSE NEIGHBOUR: 'it returns false'. Refute it at one input. -/
def kernelMeansWrong : ChangeSpec := { name := "kernelMeans", fn := fun _ => fun
  | [d1, d2] => { results := [.lit (.bool false)], args := [d1, d2] }
  | _ => none }
def KernelMeansWrongFalsely : Prop := kernelMeansRow.holds Try.pinned (OpenSpec.ofChange kernelMeansWrong)

/- THE SECOND FORM. 'bulk': how many values and letters a reading holds, each counted each time it is reached (what is shared counts as often as it is met; a slice's spare places count too). A statement '..UptoSaid' is the law's where the arguments, and the package variables that the reading takes, are together of bulk at most 1048576: NARROWER than '..Said'. Prove '..Said' where nothing that the law and all that it calls make is longer than what came in: it says more and counts as full. Else prove '..UptoSaid'. A law counts once. -/
mutual
def uptoBulk {H : Type} : DataW H → Nat
  | .lit (.string bytes) => bytes.length + 1
  | .lit _ => 1
  | .nil => 1
  | .ptr d => uptoBulk d + 1
  | .slice elems spare => uptoBulkAll elems + uptoBulkAll spare + 1
  | .agg parts => uptoBulkAll parts + 1
  | .iface _ d => uptoBulk d + 1
  | .map entries => uptoBulkEntries entries + 1
  | .held _ => 1
def uptoBulkAll {H : Type} : List (DataW H) → Nat
  | [] => 0
  | d :: r => uptoBulk d + uptoBulkAll r
def uptoBulkEntries {H : Type} : List (Lit × DataW H) → Nat
  | [] => 0
  | x :: r => uptoBulkEntry x + uptoBulkEntries r
def uptoBulkEntry {H : Type} : Lit × DataW H → Nat
  | (.string bytes, d) => bytes.length + uptoBulk d + 1
  | (_, d) => uptoBulk d + 1
 end
def uptoSmall : (H : Type) → List (DataW H) → Bool := fun _ ds => decide (uptoBulkAll ds ≤ 1048576)
def OpenSpec.upto (s : _root_.Go.ChangeSpec) : _root_.Go.OpenSpec := { _root_.Go.OpenSpec.ofChange s with cond := some uptoSmall }

/-- 'rejoinderlaw07.MeanCut', WHERE WHAT IT READS IS OF BULK AT MOST 1048576: true; the input reads as it did. -/
def meanCutUptoRow : OpenClaim := { program := "ytcalhjlcnapnaaa", sum := "e045ac4c468214231a698cf1a7a047c2b2b256ba4080029130cebc7484230c5b", func := "rejoinder/rejoinderlaw07.MeanCut", spec := "meanCut", unfollowed := true, recurses := true, apart := false, narrowed := true }
def MeanCutUptoSaid : Prop := meanCutUptoRow.holds Try.pinned (OpenSpec.upto meanCutSpec)

/-- 'rejoinderlaw08.KernelTells', WHERE WHAT IT READS IS OF BULK AT MOST 1048576: true; the input reads as it did. -/
def kernelTellsUptoRow : OpenClaim := { program := "ytcalhjlcnapnaaa", sum := "e045ac4c468214231a698cf1a7a047c2b2b256ba4080029130cebc7484230c5b", func := "rejoinder/rejoinderlaw08.KernelTells", spec := "kernelTells", unfollowed := true, recurses := true, apart := false, narrowed := true }
def KernelTellsUptoSaid : Prop := kernelTellsUptoRow.holds Try.pinned (OpenSpec.upto kernelTellsSpec)

/-- 'rejoinderlaw08.KernelLong', WHERE WHAT IT READS IS OF BULK AT MOST 1048576: true; the input reads as it did. -/
def kernelLongUptoRow : OpenClaim := { program := "ytcalhjlcnapnaaa", sum := "e045ac4c468214231a698cf1a7a047c2b2b256ba4080029130cebc7484230c5b", func := "rejoinder/rejoinderlaw08.KernelLong", spec := "kernelLong", unfollowed := true, recurses := true, apart := false, narrowed := true }
def KernelLongUptoSaid : Prop := kernelLongUptoRow.holds Try.pinned (OpenSpec.upto kernelLongSpec)

/-- 'rejoinderlaw08.KernelAgain', WHERE WHAT IT READS IS OF BULK AT MOST 1048576: true; the input reads as it did. -/
def kernelAgainUptoRow : OpenClaim := { program := "ytcalhjlcnapnaaa", sum := "e045ac4c468214231a698cf1a7a047c2b2b256ba4080029130cebc7484230c5b", func := "rejoinder/rejoinderlaw08.KernelAgain", spec := "kernelAgain", unfollowed := true, recurses := true, apart := false, narrowed := true }
def KernelAgainUptoSaid : Prop := kernelAgainUptoRow.holds Try.pinned (OpenSpec.upto kernelAgainSpec)

/-- 'rejoinderlaw08.KernelKnown', WHERE WHAT IT READS IS OF BULK AT MOST 1048576: true; the input reads as it did. -/
def kernelKnownUptoRow : OpenClaim := { program := "ytcalhjlcnapnaaa", sum := "e045ac4c468214231a698cf1a7a047c2b2b256ba4080029130cebc7484230c5b", func := "rejoinder/rejoinderlaw08.KernelKnown", spec := "kernelKnown", unfollowed := true, recurses := true, apart := false, narrowed := true }
def KernelKnownUptoSaid : Prop := kernelKnownUptoRow.holds Try.pinned (OpenSpec.upto kernelKnownSpec)

/-- 'rejoinderlaw07.MeanTells', WHERE WHAT IT READS IS OF BULK AT MOST 1048576: true; the input reads as it did. -/
def meanTellsUptoRow : OpenClaim := { program := "ytcalhjlcnapnaaa", sum := "e045ac4c468214231a698cf1a7a047c2b2b256ba4080029130cebc7484230c5b", func := "rejoinder/rejoinderlaw07.MeanTells", spec := "meanTells", unfollowed := true, recurses := true, apart := false, narrowed := true }
def MeanTellsUptoSaid : Prop := meanTellsUptoRow.holds Try.pinned (OpenSpec.upto meanTellsSpec)

/-- 'rejoinderlaw07.MeanKnown', WHERE WHAT IT READS IS OF BULK AT MOST 1048576: true; the input reads as it did. -/
def meanKnownUptoRow : OpenClaim := { program := "ytcalhjlcnapnaaa", sum := "e045ac4c468214231a698cf1a7a047c2b2b256ba4080029130cebc7484230c5b", func := "rejoinder/rejoinderlaw07.MeanKnown", spec := "meanKnown", unfollowed := true, recurses := true, apart := false, narrowed := true }
def MeanKnownUptoSaid : Prop := meanKnownUptoRow.holds Try.pinned (OpenSpec.upto meanKnownSpec)

/-- 'rejoinderlaw07.MeanDuals', WHERE WHAT IT READS IS OF BULK AT MOST 1048576: true; the input reads as it did. -/
def meanDualsUptoRow : OpenClaim := { program := "ytcalhjlcnapnaaa", sum := "e045ac4c468214231a698cf1a7a047c2b2b256ba4080029130cebc7484230c5b", func := "rejoinder/rejoinderlaw07.MeanDuals", spec := "meanDuals", unfollowed := true, recurses := true, apart := false, narrowed := true }
def MeanDualsUptoSaid : Prop := meanDualsUptoRow.holds Try.pinned (OpenSpec.upto meanDualsSpec)

/-- 'rejoinderlaw07.MeanPaths', WHERE WHAT IT READS IS OF BULK AT MOST 1048576: true; the input reads as it did. -/
def meanPathsUptoRow : OpenClaim := { program := "ytcalhjlcnapnaaa", sum := "e045ac4c468214231a698cf1a7a047c2b2b256ba4080029130cebc7484230c5b", func := "rejoinder/rejoinderlaw07.MeanPaths", spec := "meanPaths", unfollowed := true, recurses := true, apart := false, narrowed := true }
def MeanPathsUptoSaid : Prop := meanPathsUptoRow.holds Try.pinned (OpenSpec.upto meanPathsSpec)

/-- 'rejoinderlaw08.KernelMeans', WHERE WHAT IT READS IS OF BULK AT MOST 1048576: true; the input reads as it did. -/
def kernelMeansUptoRow : OpenClaim := { program := "ytcalhjlcnapnaaa", sum := "e045ac4c468214231a698cf1a7a047c2b2b256ba4080029130cebc7484230c5b", func := "rejoinder/rejoinderlaw08.KernelMeans", spec := "kernelMeans", unfollowed := true, recurses := true, apart := false, narrowed := true }
def KernelMeansUptoSaid : Prop := kernelMeansUptoRow.holds Try.pinned (OpenSpec.upto kernelMeansSpec)

end Rows
end Go.Proofs.Ytcalhjlcnapnaaa
