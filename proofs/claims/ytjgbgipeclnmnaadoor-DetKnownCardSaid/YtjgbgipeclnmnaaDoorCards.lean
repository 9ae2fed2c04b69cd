/-
  DERIVED. GIVEN WITH THE SEED: THE CARDS: each row of YtjgbgipeclnmnaaDoorRows.lean that lists a variable, with what it lists TIED to the program's text (the seventh form; the later family's looks); each row that meets fmt, with fmt's text TOLD by the authors' own Lean function (tested against real Go, not proved from fmt's source: count such statements apart). THE CARD IS WHAT COUNTS. Prove the row's statement (the work); the ties are given (YtjgbgipeclnmnaaDoorTie.lean); close each card by the builder's one call (the guide's Derived/Test/ToyasCard.lean, 'card_holds'). Laid BY PROGRAM, IN A SANDBOX (cutbox-door.mjs). By AI agents, Wed Nov 11 2026. No macro, syntax, notation, axiom, sorry.
-/
import Derived.Test.YtjgbgipeclnmnaaDoorRows
import GoSem.ClaimSeven
namespace Go.Proofs.YtjgbgipeclnmnaaDoor
namespace Rows

/-- THE TIED CARD OF 'rejoinderlaw10.SetsKnown'. -/
def setsKnownCard : Claim7 := { stood := { row := setsKnownRow, standIns := [], harness := (true, "23346bf156277d5c596c02d4a1f7191f4a788382b017ce05e836bdab0251595d"), looks := true }, kinds := [], alts := [], laidByText := true, laidKinds := [.data], laidTests := true, laidLooks := .later }
def SetsKnownCardSaid : Prop := Claim7.holds Tryd.pinned (.plain (OpenSpec.ofChange setsKnownSpec)) setsKnownCard

/-- THE TIED CARD OF 'rejoinderlaw11.ProgKnown'. -/
def progKnownCard : Claim7 := { stood := { row := progKnownRow, standIns := [], harness := (true, "23346bf156277d5c596c02d4a1f7191f4a788382b017ce05e836bdab0251595d"), looks := true }, kinds := [], alts := [], laidByText := true, laidKinds := [.data], laidTests := true, laidLooks := .later }
def ProgKnownCardSaid : Prop := Claim7.holds Tryd.pinned (.plain (OpenSpec.ofChange progKnownSpec)) progKnownCard

/-- THE TIED CARD OF 'rejoinderlaw11.ProgNone'. -/
def progNoneCard : Claim7 := { stood := { row := progNoneRow, standIns := [], harness := (true, "23346bf156277d5c596c02d4a1f7191f4a788382b017ce05e836bdab0251595d"), looks := true }, kinds := [], alts := [], laidByText := true, laidKinds := [.data], laidTests := true, laidLooks := .later }
def ProgNoneCardSaid : Prop := Claim7.holds Tryd.pinned (.plain (OpenSpec.ofChange progNoneSpec)) progNoneCard

/-- THE TIED CARD OF 'rejoinderlaw12.AltKnown'. -/
def altKnownCard : Claim7 := { stood := { row := altKnownRow, standIns := [], harness := (true, "23346bf156277d5c596c02d4a1f7191f4a788382b017ce05e836bdab0251595d"), looks := true }, kinds := [], alts := [], laidByText := true, laidKinds := [.data], laidTests := true, laidLooks := .later }
def AltKnownCardSaid : Prop := Claim7.holds Tryd.pinned (.plain (OpenSpec.ofChange altKnownSpec)) altKnownCard

/-- THE TIED CARD OF 'rejoinderlaw15.DetKnown'. -/
def detKnownCard : Claim7 := { stood := { row := detKnownRow, standIns := [], harness := (true, "23346bf156277d5c596c02d4a1f7191f4a788382b017ce05e836bdab0251595d"), looks := true }, kinds := [], alts := [], laidByText := true, laidKinds := [.data, .data, .data], laidTests := true, laidLooks := .later }
def DetKnownCardSaid : Prop := Claim7.holds Tryd.pinned (.plain (OpenSpec.ofChange detKnownSpec)) detKnownCard

/-- THE SECOND FORM's CARD OF 'rejoinderlaw10.SetsKnown'. -/
def setsKnownUptoCard : Claim7 := { stood := { row := setsKnownUptoRow, standIns := [], harness := (true, "23346bf156277d5c596c02d4a1f7191f4a788382b017ce05e836bdab0251595d"), looks := true }, kinds := [], alts := [], laidByText := true, laidKinds := [.data], laidTests := true, laidLooks := .later }
def SetsKnownUptoCardSaid : Prop := Claim7.holds Tryd.pinned (.plain (OpenSpec.upto setsKnownSpec)) setsKnownUptoCard

/-- THE SECOND FORM's CARD OF 'rejoinderlaw11.ProgKnown'. -/
def progKnownUptoCard : Claim7 := { stood := { row := progKnownUptoRow, standIns := [], harness := (true, "23346bf156277d5c596c02d4a1f7191f4a788382b017ce05e836bdab0251595d"), looks := true }, kinds := [], alts := [], laidByText := true, laidKinds := [.data], laidTests := true, laidLooks := .later }
def ProgKnownUptoCardSaid : Prop := Claim7.holds Tryd.pinned (.plain (OpenSpec.upto progKnownSpec)) progKnownUptoCard

/-- THE SECOND FORM's CARD OF 'rejoinderlaw11.ProgNone'. -/
def progNoneUptoCard : Claim7 := { stood := { row := progNoneUptoRow, standIns := [], harness := (true, "23346bf156277d5c596c02d4a1f7191f4a788382b017ce05e836bdab0251595d"), looks := true }, kinds := [], alts := [], laidByText := true, laidKinds := [.data], laidTests := true, laidLooks := .later }
def ProgNoneUptoCardSaid : Prop := Claim7.holds Tryd.pinned (.plain (OpenSpec.upto progNoneSpec)) progNoneUptoCard

/-- THE SECOND FORM's CARD OF 'rejoinderlaw12.AltKnown'. -/
def altKnownUptoCard : Claim7 := { stood := { row := altKnownUptoRow, standIns := [], harness := (true, "23346bf156277d5c596c02d4a1f7191f4a788382b017ce05e836bdab0251595d"), looks := true }, kinds := [], alts := [], laidByText := true, laidKinds := [.data], laidTests := true, laidLooks := .later }
def AltKnownUptoCardSaid : Prop := Claim7.holds Tryd.pinned (.plain (OpenSpec.upto altKnownSpec)) altKnownUptoCard

/-- THE SECOND FORM's CARD OF 'rejoinderlaw15.DetKnown'. -/
def detKnownUptoCard : Claim7 := { stood := { row := detKnownUptoRow, standIns := [], harness := (true, "23346bf156277d5c596c02d4a1f7191f4a788382b017ce05e836bdab0251595d"), looks := true }, kinds := [], alts := [], laidByText := true, laidKinds := [.data, .data, .data], laidTests := true, laidLooks := .later }
def DetKnownUptoCardSaid : Prop := Claim7.holds Tryd.pinned (.plain (OpenSpec.upto detKnownSpec)) detKnownUptoCard
end Rows
end Go.Proofs.YtjgbgipeclnmnaaDoor
