/-
  DERIVED. GIVEN WITH THE SEED: THE CARDS: each row of YteiamcnjlpbihaaGreatDoorRows.lean that lists a variable, with what it lists TIED to the program's text (the seventh form; the later family's looks); each row that meets fmt, with fmt's text TOLD by the authors' own Lean function (tested against real Go, not proved from fmt's source: count such statements apart). THE CARD IS WHAT COUNTS. Prove the row's statement (the work); the ties are given (YteiamcnjlpbihaaGreatDoorTie.lean); close each card by the builder's one call (the guide's Derived/Test/ToyasCard.lean, 'card_holds'). Laid BY PROGRAM, IN A SANDBOX (cutbox-door.mjs). By AI agents, Wed Nov 11 2026. No macro, syntax, notation, axiom, sorry.
-/
import Derived.Test.YteiamcnjlpbihaaGreatDoorRows
import GoSem.ClaimSeven
namespace Go.Proofs.YteiamcnjlpbihaaGreatDoor
namespace Rows

/-- THE TIED CARD OF 'sautoirlaw17.LetterPut'. -/
def letterPutCard : Claim7 := { stood := { row := letterPutRow, standIns := [], harness := (true, "a2870c78af17271e4ad6ec68b56c78c023f76978dabbb61c859370949c544f6a"), looks := true }, kinds := [], alts := [], laidByText := true, laidKinds := [.handle], laidTests := true, laidLooks := .later }
def LetterPutCardSaid : Prop := Claim7.holds Tryz.pinned (.plain (OpenSpec.ofChange letterPutSpec)) letterPutCard

/-- THE TIED CARD OF 'sautoirlaw17.LetterOpen'. -/
def letterOpenCard : Claim7 := { stood := { row := letterOpenRow, standIns := [], harness := (true, "a2870c78af17271e4ad6ec68b56c78c023f76978dabbb61c859370949c544f6a"), looks := true }, kinds := [], alts := [], laidByText := true, laidKinds := [.handle], laidTests := true, laidLooks := .later }
def LetterOpenCardSaid : Prop := Claim7.holds Tryz.pinned (.plain (OpenSpec.ofChange letterOpenSpec)) letterOpenCard

/-- THE TIED CARD OF 'sautoirlaw17.LetterTurned'. -/
def letterTurnedCard : Claim7 := { stood := { row := letterTurnedRow, standIns := [], harness := (true, "a2870c78af17271e4ad6ec68b56c78c023f76978dabbb61c859370949c544f6a"), looks := true }, kinds := [], alts := [], laidByText := true, laidKinds := [.handle], laidTests := true, laidLooks := .later }
def LetterTurnedCardSaid : Prop := Claim7.holds Tryz.pinned (.plain (OpenSpec.ofChange letterTurnedSpec)) letterTurnedCard

/-- THE SECOND FORM's CARD OF 'sautoirlaw17.LetterPut'. -/
def letterPutUptoCard : Claim7 := { stood := { row := letterPutUptoRow, standIns := [], harness := (true, "a2870c78af17271e4ad6ec68b56c78c023f76978dabbb61c859370949c544f6a"), looks := true }, kinds := [], alts := [], laidByText := true, laidKinds := [.handle], laidTests := true, laidLooks := .later }
def LetterPutUptoCardSaid : Prop := Claim7.holds Tryz.pinned (.plain (OpenSpec.upto letterPutSpec)) letterPutUptoCard

/-- THE SECOND FORM's CARD OF 'sautoirlaw17.LetterOpen'. -/
def letterOpenUptoCard : Claim7 := { stood := { row := letterOpenUptoRow, standIns := [], harness := (true, "a2870c78af17271e4ad6ec68b56c78c023f76978dabbb61c859370949c544f6a"), looks := true }, kinds := [], alts := [], laidByText := true, laidKinds := [.handle], laidTests := true, laidLooks := .later }
def LetterOpenUptoCardSaid : Prop := Claim7.holds Tryz.pinned (.plain (OpenSpec.upto letterOpenSpec)) letterOpenUptoCard

/-- THE SECOND FORM's CARD OF 'sautoirlaw17.LetterTurned'. -/
def letterTurnedUptoCard : Claim7 := { stood := { row := letterTurnedUptoRow, standIns := [], harness := (true, "a2870c78af17271e4ad6ec68b56c78c023f76978dabbb61c859370949c544f6a"), looks := true }, kinds := [], alts := [], laidByText := true, laidKinds := [.handle], laidTests := true, laidLooks := .later }
def LetterTurnedUptoCardSaid : Prop := Claim7.holds Tryz.pinned (.plain (OpenSpec.upto letterTurnedSpec)) letterTurnedUptoCard
end Rows
end Go.Proofs.YteiamcnjlpbihaaGreatDoor
