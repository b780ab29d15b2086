/-
  DERIVED. GIVEN WITH THE SEED: THE CARDS: each row of YtchdmofoaokpjaaGreatDoorRows.lean that lists a variable, with what it lists TIED to the program's text (the seventh form; the later family's looks); each row that meets fmt, with fmt's text TOLD by the authors' own Lean function (tested against real Go, not proved from fmt's source: count such statements apart). THE CARD IS WHAT COUNTS. Prove the row's statement (the work); the ties are given (YtchdmofoaokpjaaGreatDoorTie.lean); close each card by the builder's one call (the guide's Derived/Test/ToyasCard.lean, 'card_holds'). Laid BY PROGRAM, IN A SANDBOX (cutbox-door.mjs). By AI agents, Wed Nov 11 2026. No macro, syntax, notation, axiom, sorry.
-/
import Derived.Test.YtchdmofoaokpjaaGreatDoorRows
import GoSem.ClaimSeven
namespace Go.Proofs.YtchdmofoaokpjaaGreatDoor
namespace Rows

/-- THE TIED CARD OF 'sautoirlaw30.MailBounds'. -/
def mailBoundsCard : Claim7 := { stood := { row := mailBoundsRow, standIns := [], harness := (true, "4edc7b6bd0fc81c469bf5ddafde932545897de0a955b8efe3e86475fa42f8ffa"), looks := true }, kinds := [], alts := [], laidByText := true, laidKinds := [.handle], laidTests := true, laidLooks := .later }
def MailBoundsCardSaid : Prop := Claim7.holds Tryz.pinned (.plain (OpenSpec.ofChange mailBoundsSpec)) mailBoundsCard

/-- THE TIED CARD OF 'sautoirlaw30.MailOpens'. -/
def mailOpensCard : Claim7 := { stood := { row := mailOpensRow, standIns := [], harness := (true, "4edc7b6bd0fc81c469bf5ddafde932545897de0a955b8efe3e86475fa42f8ffa"), looks := true }, kinds := [], alts := [], laidByText := true, laidKinds := [.handle], laidTests := true, laidLooks := .later }
def MailOpensCardSaid : Prop := Claim7.holds Tryz.pinned (.plain (OpenSpec.ofChange mailOpensSpec)) mailOpensCard

/-- THE TIED CARD OF 'sautoirlaw30.MailPlays'. -/
def mailPlaysCard : Claim7 := { stood := { row := mailPlaysRow, standIns := [], harness := (true, "4edc7b6bd0fc81c469bf5ddafde932545897de0a955b8efe3e86475fa42f8ffa"), looks := true }, kinds := [], alts := [], laidByText := true, laidKinds := [.handle], laidTests := true, laidLooks := .later }
def MailPlaysCardSaid : Prop := Claim7.holds Tryz.pinned (.plain (OpenSpec.ofChange mailPlaysSpec)) mailPlaysCard

/-- THE TIED CARD OF 'sautoirlaw30.MailNil'. -/
def mailNilCard : Claim7 := { stood := { row := mailNilRow, standIns := [], harness := (true, "4edc7b6bd0fc81c469bf5ddafde932545897de0a955b8efe3e86475fa42f8ffa"), looks := true }, kinds := [], alts := [], laidByText := true, laidKinds := [.handle], laidTests := true, laidLooks := .later }
def MailNilCardSaid : Prop := Claim7.holds Tryz.pinned (.plain (OpenSpec.ofChange mailNilSpec)) mailNilCard

/-- THE SECOND FORM's CARD OF 'sautoirlaw30.MailBounds'. -/
def mailBoundsUptoCard : Claim7 := { stood := { row := mailBoundsUptoRow, standIns := [], harness := (true, "4edc7b6bd0fc81c469bf5ddafde932545897de0a955b8efe3e86475fa42f8ffa"), looks := true }, kinds := [], alts := [], laidByText := true, laidKinds := [.handle], laidTests := true, laidLooks := .later }
def MailBoundsUptoCardSaid : Prop := Claim7.holds Tryz.pinned (.plain (OpenSpec.upto mailBoundsSpec)) mailBoundsUptoCard

/-- THE SECOND FORM's CARD OF 'sautoirlaw30.MailOpens'. -/
def mailOpensUptoCard : Claim7 := { stood := { row := mailOpensUptoRow, standIns := [], harness := (true, "4edc7b6bd0fc81c469bf5ddafde932545897de0a955b8efe3e86475fa42f8ffa"), looks := true }, kinds := [], alts := [], laidByText := true, laidKinds := [.handle], laidTests := true, laidLooks := .later }
def MailOpensUptoCardSaid : Prop := Claim7.holds Tryz.pinned (.plain (OpenSpec.upto mailOpensSpec)) mailOpensUptoCard

/-- THE SECOND FORM's CARD OF 'sautoirlaw30.MailPlays'. -/
def mailPlaysUptoCard : Claim7 := { stood := { row := mailPlaysUptoRow, standIns := [], harness := (true, "4edc7b6bd0fc81c469bf5ddafde932545897de0a955b8efe3e86475fa42f8ffa"), looks := true }, kinds := [], alts := [], laidByText := true, laidKinds := [.handle], laidTests := true, laidLooks := .later }
def MailPlaysUptoCardSaid : Prop := Claim7.holds Tryz.pinned (.plain (OpenSpec.upto mailPlaysSpec)) mailPlaysUptoCard

/-- THE SECOND FORM's CARD OF 'sautoirlaw30.MailNil'. -/
def mailNilUptoCard : Claim7 := { stood := { row := mailNilUptoRow, standIns := [], harness := (true, "4edc7b6bd0fc81c469bf5ddafde932545897de0a955b8efe3e86475fa42f8ffa"), looks := true }, kinds := [], alts := [], laidByText := true, laidKinds := [.handle], laidTests := true, laidLooks := .later }
def MailNilUptoCardSaid : Prop := Claim7.holds Tryz.pinned (.plain (OpenSpec.upto mailNilSpec)) mailNilUptoCard
end Rows
end Go.Proofs.YtchdmofoaokpjaaGreatDoor
