/-
  DERIVED. GIVEN WITH THE SEED: THE CARDS: each row of YtnkagdjmjakeiaaGreatDoorRows.lean that lists a variable, with what it lists TIED to the program's text (the seventh form; the later family's looks); each row that meets fmt, with fmt's text TOLD by the authors' own Lean function (tested against real Go, not proved from fmt's source: count such statements apart). THE CARD IS WHAT COUNTS. Prove the row's statement (the work); the ties are given (YtnkagdjmjakeiaaGreatDoorTie.lean); close each card by the builder's one call (the guide's Derived/Test/ToyasCard.lean, 'card_holds'). Laid BY PROGRAM, IN A SANDBOX (cutbox-door.mjs). By AI agents, Wed Nov 11 2026. No macro, syntax, notation, axiom, sorry.
-/
import Derived.Test.YtnkagdjmjakeiaaGreatDoorRows
import GoSem.ClaimSeven
namespace Go.Proofs.YtnkagdjmjakeiaaGreatDoor
namespace Rows

/-- THE TIED CARD OF 'sautoirlaw22.BeatAdvises'. -/
def beatAdvisesCard : Claim7 := { stood := { row := beatAdvisesRow, standIns := [], harness := (true, "12d651ce182659744da59c460584ecca50ba23484d1ce2e7d45010daf212bfed"), looks := true }, kinds := [], alts := [], laidByText := true, laidKinds := [.handle], laidTests := true, laidLooks := .later }
def BeatAdvisesCardSaid : Prop := Claim7.holds Tryz.pinned (.plain (OpenSpec.ofChange beatAdvisesSpec)) beatAdvisesCard

/-- THE TIED CARD OF 'sautoirlaw22.BeatHelps'. -/
def beatHelpsCard : Claim7 := { stood := { row := beatHelpsRow, standIns := [], harness := (true, "12d651ce182659744da59c460584ecca50ba23484d1ce2e7d45010daf212bfed"), looks := true }, kinds := [], alts := [], laidByText := true, laidKinds := [.handle], laidTests := true, laidLooks := .later }
def BeatHelpsCardSaid : Prop := Claim7.holds Tryz.pinned (.plain (OpenSpec.ofChange beatHelpsSpec)) beatHelpsCard

/-- THE SECOND FORM's CARD OF 'sautoirlaw22.BeatAdvises'. -/
def beatAdvisesUptoCard : Claim7 := { stood := { row := beatAdvisesUptoRow, standIns := [], harness := (true, "12d651ce182659744da59c460584ecca50ba23484d1ce2e7d45010daf212bfed"), looks := true }, kinds := [], alts := [], laidByText := true, laidKinds := [.handle], laidTests := true, laidLooks := .later }
def BeatAdvisesUptoCardSaid : Prop := Claim7.holds Tryz.pinned (.plain (OpenSpec.upto beatAdvisesSpec)) beatAdvisesUptoCard

/-- THE SECOND FORM's CARD OF 'sautoirlaw22.BeatHelps'. -/
def beatHelpsUptoCard : Claim7 := { stood := { row := beatHelpsUptoRow, standIns := [], harness := (true, "12d651ce182659744da59c460584ecca50ba23484d1ce2e7d45010daf212bfed"), looks := true }, kinds := [], alts := [], laidByText := true, laidKinds := [.handle], laidTests := true, laidLooks := .later }
def BeatHelpsUptoCardSaid : Prop := Claim7.holds Tryz.pinned (.plain (OpenSpec.upto beatHelpsSpec)) beatHelpsUptoCard
end Rows
end Go.Proofs.YtnkagdjmjakeiaaGreatDoor
