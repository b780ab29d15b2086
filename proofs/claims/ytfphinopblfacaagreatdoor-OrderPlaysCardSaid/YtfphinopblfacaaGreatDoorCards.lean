/-
  DERIVED. GIVEN WITH THE SEED: THE CARDS: each row of YtfphinopblfacaaGreatDoorRows.lean that lists a variable, with what it lists TIED to the program's text (the seventh form; the later family's looks); each row that meets fmt, with fmt's text TOLD by the authors' own Lean function (tested against real Go, not proved from fmt's source: count such statements apart). THE CARD IS WHAT COUNTS. Prove the row's statement (the work); the ties are given (YtfphinopblfacaaGreatDoorTie.lean); close each card by the builder's one call (the guide's Derived/Test/ToyasCard.lean, 'card_holds'). Laid BY PROGRAM, IN A SANDBOX (cutbox-door.mjs). By AI agents, Wed Nov 11 2026. No macro, syntax, notation, axiom, sorry.
-/
import Derived.Test.YtfphinopblfacaaGreatDoorRows
import GoSem.ClaimSeven
namespace Go.Proofs.YtfphinopblfacaaGreatDoor
namespace Rows

/-- THE TIED CARD OF 'sautoirlaw21.OrderPlays'. -/
def orderPlaysCard : Claim7 := { stood := { row := orderPlaysRow, standIns := [], harness := (true, "2df2911ca849beb5ef5e507ff565d315ef6538a87969e3fe996dd33746994ea5"), looks := true }, kinds := [], alts := [], laidByText := true, laidKinds := [.handle], laidTests := true, laidLooks := .later }
def OrderPlaysCardSaid : Prop := Claim7.holds Tryz.pinned (.plain (OpenSpec.ofChange orderPlaysSpec)) orderPlaysCard

/-- THE SECOND FORM's CARD OF 'sautoirlaw21.OrderPlays'. -/
def orderPlaysUptoCard : Claim7 := { stood := { row := orderPlaysUptoRow, standIns := [], harness := (true, "2df2911ca849beb5ef5e507ff565d315ef6538a87969e3fe996dd33746994ea5"), looks := true }, kinds := [], alts := [], laidByText := true, laidKinds := [.handle], laidTests := true, laidLooks := .later }
def OrderPlaysUptoCardSaid : Prop := Claim7.holds Tryz.pinned (.plain (OpenSpec.upto orderPlaysSpec)) orderPlaysUptoCard
end Rows
end Go.Proofs.YtfphinopblfacaaGreatDoor
