/-
  DERIVED. GIVEN WITH THE SEED: THE CARDS: each row of YtjnegbcdeggpfaaDoorRows.lean that lists a variable, with what it lists TIED to the program's text (the seventh form; the later family's looks); each row that meets fmt, with fmt's text TOLD by the authors' own Lean function (tested against real Go, not proved from fmt's source: count such statements apart). THE CARD IS WHAT COUNTS. Prove the row's statement (the work); the ties are given (YtjnegbcdeggpfaaDoorTie.lean); close each card by the builder's one call (the guide's Derived/Test/ToyasCard.lean, 'card_holds'). Laid BY PROGRAM, IN A SANDBOX (cutbox-door.mjs). By AI agents, Wed Nov 11 2026. No macro, syntax, notation, axiom, sorry.
-/
import Derived.Test.YtjnegbcdeggpfaaDoorRows
import GoSem.ClaimSeven
namespace Go.Proofs.YtjnegbcdeggpfaaDoor
namespace Rows

/-- THE TIED CARD OF 'rejoinderlaw29.RecordBack'. -/
def recordBackCard : Claim7 := { stood := { row := recordBackRow, standIns := [], harness := (true, "01127a8bfb6b85ef3e01dca369c3abb0f0d074f38ba7dfe86114cda38ffd178a"), looks := true }, kinds := [], alts := [], laidByText := true, laidKinds := [.data, .data, .data, .data, .sentinel, .sentinel, .pinned], laidTests := true, laidLooks := .later }
def RecordBackCardSaid : Prop := Claim7.holds Tryd.pinned (.plain (OpenSpec.ofChange recordBackSpec)) recordBackCard

/-- THE TIED CARD OF 'rejoinderlaw29.RecordOnce'. -/
def recordOnceCard : Claim7 := { stood := { row := recordOnceRow, standIns := [], harness := (true, "01127a8bfb6b85ef3e01dca369c3abb0f0d074f38ba7dfe86114cda38ffd178a"), looks := true }, kinds := [], alts := [], laidByText := true, laidKinds := [.data, .data, .data, .data, .sentinel, .sentinel, .pinned], laidTests := true, laidLooks := .later }
def RecordOnceCardSaid : Prop := Claim7.holds Tryd.pinned (.plain (OpenSpec.ofChange recordOnceSpec)) recordOnceCard

/-- THE TIED CARD OF 'rejoinderlaw29.RecordKnown'. -/
def recordKnownCard : Claim7 := { stood := { row := recordKnownRow, standIns := [], harness := (true, "01127a8bfb6b85ef3e01dca369c3abb0f0d074f38ba7dfe86114cda38ffd178a"), looks := true }, kinds := [], alts := [], laidByText := true, laidKinds := [.data, .data, .data, .data, .sentinel, .sentinel, .pinned], laidTests := true, laidLooks := .later }
def RecordKnownCardSaid : Prop := Claim7.holds Tryd.pinned (.plain (OpenSpec.ofChange recordKnownSpec)) recordKnownCard

/-- THE SECOND FORM's CARD OF 'rejoinderlaw29.RecordBack'. -/
def recordBackUptoCard : Claim7 := { stood := { row := recordBackUptoRow, standIns := [], harness := (true, "01127a8bfb6b85ef3e01dca369c3abb0f0d074f38ba7dfe86114cda38ffd178a"), looks := true }, kinds := [], alts := [], laidByText := true, laidKinds := [.data, .data, .data, .data, .sentinel, .sentinel, .pinned], laidTests := true, laidLooks := .later }
def RecordBackUptoCardSaid : Prop := Claim7.holds Tryd.pinned (.plain (OpenSpec.upto recordBackSpec)) recordBackUptoCard

/-- THE SECOND FORM's CARD OF 'rejoinderlaw29.RecordOnce'. -/
def recordOnceUptoCard : Claim7 := { stood := { row := recordOnceUptoRow, standIns := [], harness := (true, "01127a8bfb6b85ef3e01dca369c3abb0f0d074f38ba7dfe86114cda38ffd178a"), looks := true }, kinds := [], alts := [], laidByText := true, laidKinds := [.data, .data, .data, .data, .sentinel, .sentinel, .pinned], laidTests := true, laidLooks := .later }
def RecordOnceUptoCardSaid : Prop := Claim7.holds Tryd.pinned (.plain (OpenSpec.upto recordOnceSpec)) recordOnceUptoCard

/-- THE SECOND FORM's CARD OF 'rejoinderlaw29.RecordKnown'. -/
def recordKnownUptoCard : Claim7 := { stood := { row := recordKnownUptoRow, standIns := [], harness := (true, "01127a8bfb6b85ef3e01dca369c3abb0f0d074f38ba7dfe86114cda38ffd178a"), looks := true }, kinds := [], alts := [], laidByText := true, laidKinds := [.data, .data, .data, .data, .sentinel, .sentinel, .pinned], laidTests := true, laidLooks := .later }
def RecordKnownUptoCardSaid : Prop := Claim7.holds Tryd.pinned (.plain (OpenSpec.upto recordKnownSpec)) recordKnownUptoCard
end Rows
end Go.Proofs.YtjnegbcdeggpfaaDoor
