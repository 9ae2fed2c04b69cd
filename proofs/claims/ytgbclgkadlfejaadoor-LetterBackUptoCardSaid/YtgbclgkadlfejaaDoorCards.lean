/-
  DERIVED. GIVEN WITH THE SEED: THE CARDS: each row of YtgbclgkadlfejaaDoorRows.lean that lists a variable, with what it lists TIED to the program's text (the seventh form; the later family's looks); each row that meets fmt, with fmt's text TOLD by the authors' own Lean function (tested against real Go, not proved from fmt's source: count such statements apart). THE CARD IS WHAT COUNTS. Prove the row's statement (the work); the ties are given (YtgbclgkadlfejaaDoorTie.lean); close each card by the builder's one call (the guide's Derived/Test/ToyasCard.lean, 'card_holds'). Laid BY PROGRAM, IN A SANDBOX (cutbox-door.mjs). By AI agents, Wed Nov 11 2026. No macro, syntax, notation, axiom, sorry.
-/
import Derived.Test.YtgbclgkadlfejaaDoorRows
import GoSem.ClaimSeven
namespace Go.Proofs.YtgbclgkadlfejaaDoor
namespace Rows

/-- THE TIED CARD OF 'rejoinderlaw01.LetterAll'. -/
def letterAllCard : Claim7 := { stood := { row := letterAllRow, standIns := [], harness := (true, "d2f16c1a0f7d2faf3e97441b6cebf0959ee0a3ab88df8deffddb6388ca5723eb"), looks := false }, kinds := [], alts := [], laidByText := true, laidKinds := [.data, .pinned], laidTests := true, laidLooks := .later }
def LetterAllCardSaid : Prop := Claim7.holds Tryd.pinned (.plain (OpenSpec.ofChange letterAllSpec)) letterAllCard

/-- THE TIED CARD OF 'rejoinderlaw01.LetterTexts'. -/
def letterTextsCard : Claim7 := { stood := { row := letterTextsRow, standIns := [], harness := (true, "d2f16c1a0f7d2faf3e97441b6cebf0959ee0a3ab88df8deffddb6388ca5723eb"), looks := false }, kinds := [], alts := [], laidByText := true, laidKinds := [.data, .pinned], laidTests := true, laidLooks := .later }
def LetterTextsCardSaid : Prop := Claim7.holds Tryd.pinned (.plain (OpenSpec.ofChange letterTextsSpec)) letterTextsCard

/-- THE TIED CARD OF 'rejoinderlaw01.LetterBack'. -/
def letterBackCard : Claim7 := { stood := { row := letterBackRow, standIns := [], harness := (true, "d2f16c1a0f7d2faf3e97441b6cebf0959ee0a3ab88df8deffddb6388ca5723eb"), looks := false }, kinds := [], alts := [], laidByText := true, laidKinds := [.data, .pinned], laidTests := true, laidLooks := .later }
def LetterBackCardSaid : Prop := Claim7.holds Tryd.pinned (.plain (OpenSpec.ofChange letterBackSpec)) letterBackCard

/-- THE TIED CARD OF 'rejoinderlaw01.LetterKnown'. -/
def letterKnownCard : Claim7 := { stood := { row := letterKnownRow, standIns := [], harness := (true, "d2f16c1a0f7d2faf3e97441b6cebf0959ee0a3ab88df8deffddb6388ca5723eb"), looks := false }, kinds := [], alts := [], laidByText := true, laidKinds := [.data, .pinned], laidTests := true, laidLooks := .later }
def LetterKnownCardSaid : Prop := Claim7.holds Tryd.pinned (.plain (OpenSpec.ofChange letterKnownSpec)) letterKnownCard

/-- THE SECOND FORM's CARD OF 'rejoinderlaw01.LetterAll'. -/
def letterAllUptoCard : Claim7 := { stood := { row := letterAllUptoRow, standIns := [], harness := (true, "d2f16c1a0f7d2faf3e97441b6cebf0959ee0a3ab88df8deffddb6388ca5723eb"), looks := false }, kinds := [], alts := [], laidByText := true, laidKinds := [.data, .pinned], laidTests := true, laidLooks := .later }
def LetterAllUptoCardSaid : Prop := Claim7.holds Tryd.pinned (.plain (OpenSpec.upto letterAllSpec)) letterAllUptoCard

/-- THE SECOND FORM's CARD OF 'rejoinderlaw01.LetterTexts'. -/
def letterTextsUptoCard : Claim7 := { stood := { row := letterTextsUptoRow, standIns := [], harness := (true, "d2f16c1a0f7d2faf3e97441b6cebf0959ee0a3ab88df8deffddb6388ca5723eb"), looks := false }, kinds := [], alts := [], laidByText := true, laidKinds := [.data, .pinned], laidTests := true, laidLooks := .later }
def LetterTextsUptoCardSaid : Prop := Claim7.holds Tryd.pinned (.plain (OpenSpec.upto letterTextsSpec)) letterTextsUptoCard

/-- THE SECOND FORM's CARD OF 'rejoinderlaw01.LetterBack'. -/
def letterBackUptoCard : Claim7 := { stood := { row := letterBackUptoRow, standIns := [], harness := (true, "d2f16c1a0f7d2faf3e97441b6cebf0959ee0a3ab88df8deffddb6388ca5723eb"), looks := false }, kinds := [], alts := [], laidByText := true, laidKinds := [.data, .pinned], laidTests := true, laidLooks := .later }
def LetterBackUptoCardSaid : Prop := Claim7.holds Tryd.pinned (.plain (OpenSpec.upto letterBackSpec)) letterBackUptoCard

/-- THE SECOND FORM's CARD OF 'rejoinderlaw01.LetterKnown'. -/
def letterKnownUptoCard : Claim7 := { stood := { row := letterKnownUptoRow, standIns := [], harness := (true, "d2f16c1a0f7d2faf3e97441b6cebf0959ee0a3ab88df8deffddb6388ca5723eb"), looks := false }, kinds := [], alts := [], laidByText := true, laidKinds := [.data, .pinned], laidTests := true, laidLooks := .later }
def LetterKnownUptoCardSaid : Prop := Claim7.holds Tryd.pinned (.plain (OpenSpec.upto letterKnownSpec)) letterKnownUptoCard
end Rows
end Go.Proofs.YtgbclgkadlfejaaDoor
