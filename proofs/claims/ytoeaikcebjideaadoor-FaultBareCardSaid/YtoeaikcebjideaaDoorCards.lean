/-
  DERIVED. GIVEN WITH THE SEED: THE CARDS: each row of YtoeaikcebjideaaDoorRows.lean that lists a variable, with what it lists TIED to the program's text (the seventh form; the later family's looks); each row that meets fmt, with fmt's text TOLD by the authors' own Lean function (tested against real Go, not proved from fmt's source: count such statements apart). THE CARD IS WHAT COUNTS. Prove the row's statement (the work); the ties are given (YtoeaikcebjideaaDoorTie.lean); close each card by the builder's one call (the guide's Derived/Test/ToyasCard.lean, 'card_holds'). Laid BY PROGRAM, IN A SANDBOX (cutbox-door.mjs). By AI agents, Wed Nov 11 2026. No macro, syntax, notation, axiom, sorry.
-/
import Derived.Test.YtoeaikcebjideaaDoorRows
import GoSem.ClaimSeven
namespace Go.Proofs.YtoeaikcebjideaaDoor
namespace Rows

/-- THE TIED CARD OF 'sautoirlaw03.FaultWraps'. -/
def faultWrapsCard : Claim7 := { stood := { row := faultWrapsRow, standIns := [], harness := (true, "e08ba771fc9e3bbb65ec2b8813c1dc51e506f3589815a8dd03b2c173055163d5"), looks := true }, kinds := [], alts := [], laidByText := true, laidKinds := [.handle], laidTests := true, laidLooks := .later }
def FaultWrapsCardSaid : Prop := Claim7.holds Tryd.pinned (.plain (OpenSpec.ofChange faultWrapsSpec)) faultWrapsCard

/-- THE TIED CARD OF 'sautoirlaw03.FaultTells'. -/
def faultTellsCard : Claim7 := { stood := { row := faultTellsRow, standIns := [], harness := (true, "e08ba771fc9e3bbb65ec2b8813c1dc51e506f3589815a8dd03b2c173055163d5"), looks := true }, kinds := [], alts := [], laidByText := true, laidKinds := [.handle], laidTests := true, laidLooks := .later }
def FaultTellsCardSaid : Prop := Claim7.holds Tryd.pinned (.plain (OpenSpec.ofChange faultTellsSpec)) faultTellsCard

/-- THE TIED CARD OF 'sautoirlaw03.FaultIs'. -/
def faultIsCard : Claim7 := { stood := { row := faultIsRow, standIns := [], harness := (true, "e08ba771fc9e3bbb65ec2b8813c1dc51e506f3589815a8dd03b2c173055163d5"), looks := true }, kinds := [], alts := [], laidByText := true, laidKinds := [.handle], laidTests := true, laidLooks := .later }
def FaultIsCardSaid : Prop := Claim7.holds Tryd.pinned (.plain (OpenSpec.ofChange faultIsSpec)) faultIsCard

/-- THE TIED CARD OF 'sautoirlaw03.FaultBare'. -/
def faultBareCard : Claim7 := { stood := { row := faultBareRow, standIns := [], harness := (true, "e08ba771fc9e3bbb65ec2b8813c1dc51e506f3589815a8dd03b2c173055163d5"), looks := true }, kinds := [], alts := [], laidByText := true, laidKinds := [.handle], laidTests := true, laidLooks := .later }
def FaultBareCardSaid : Prop := Claim7.holds Tryd.pinned (.plain (OpenSpec.ofChange faultBareSpec)) faultBareCard

/-- THE SECOND FORM's CARD OF 'sautoirlaw03.FaultWraps'. -/
def faultWrapsUptoCard : Claim7 := { stood := { row := faultWrapsUptoRow, standIns := [], harness := (true, "e08ba771fc9e3bbb65ec2b8813c1dc51e506f3589815a8dd03b2c173055163d5"), looks := true }, kinds := [], alts := [], laidByText := true, laidKinds := [.handle], laidTests := true, laidLooks := .later }
def FaultWrapsUptoCardSaid : Prop := Claim7.holds Tryd.pinned (.plain (OpenSpec.upto faultWrapsSpec)) faultWrapsUptoCard

/-- THE SECOND FORM's CARD OF 'sautoirlaw03.FaultTells'. -/
def faultTellsUptoCard : Claim7 := { stood := { row := faultTellsUptoRow, standIns := [], harness := (true, "e08ba771fc9e3bbb65ec2b8813c1dc51e506f3589815a8dd03b2c173055163d5"), looks := true }, kinds := [], alts := [], laidByText := true, laidKinds := [.handle], laidTests := true, laidLooks := .later }
def FaultTellsUptoCardSaid : Prop := Claim7.holds Tryd.pinned (.plain (OpenSpec.upto faultTellsSpec)) faultTellsUptoCard

/-- THE SECOND FORM's CARD OF 'sautoirlaw03.FaultIs'. -/
def faultIsUptoCard : Claim7 := { stood := { row := faultIsUptoRow, standIns := [], harness := (true, "e08ba771fc9e3bbb65ec2b8813c1dc51e506f3589815a8dd03b2c173055163d5"), looks := true }, kinds := [], alts := [], laidByText := true, laidKinds := [.handle], laidTests := true, laidLooks := .later }
def FaultIsUptoCardSaid : Prop := Claim7.holds Tryd.pinned (.plain (OpenSpec.upto faultIsSpec)) faultIsUptoCard

/-- THE SECOND FORM's CARD OF 'sautoirlaw03.FaultBare'. -/
def faultBareUptoCard : Claim7 := { stood := { row := faultBareUptoRow, standIns := [], harness := (true, "e08ba771fc9e3bbb65ec2b8813c1dc51e506f3589815a8dd03b2c173055163d5"), looks := true }, kinds := [], alts := [], laidByText := true, laidKinds := [.handle], laidTests := true, laidLooks := .later }
def FaultBareUptoCardSaid : Prop := Claim7.holds Tryd.pinned (.plain (OpenSpec.upto faultBareSpec)) faultBareUptoCard
end Rows
end Go.Proofs.YtoeaikcebjideaaDoor
