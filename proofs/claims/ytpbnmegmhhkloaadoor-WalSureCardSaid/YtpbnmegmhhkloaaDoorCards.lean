/-
  DERIVED. GIVEN WITH THE SEED: THE CARDS: each row of YtpbnmegmhhkloaaDoorRows.lean that lists a variable, with what it lists TIED to the program's text (the seventh form; the later family's looks); each row that meets fmt, with fmt's text TOLD by the authors' own Lean function (tested against real Go, not proved from fmt's source: count such statements apart). THE CARD IS WHAT COUNTS. Prove the row's statement (the work); the ties are given (YtpbnmegmhhkloaaDoorTie.lean); close each card by the builder's one call (the guide's Derived/Test/ToyasCard.lean, 'card_holds'). Laid BY PROGRAM, IN A SANDBOX (cutbox-door.mjs). By AI agents, Wed Nov 11 2026. No macro, syntax, notation, axiom, sorry.
-/
import Derived.Test.YtpbnmegmhhkloaaDoorRows
import GoSem.ClaimSeven
namespace Go.Proofs.YtpbnmegmhhkloaaDoor
namespace Rows

/-- THE TIED CARD OF 'sautoirlaw06.WalOpens'. -/
def walOpensCard : Claim7 := { stood := { row := walOpensRow, standIns := [], harness := (true, "e5a201b82bcbe1678acc47b3094a976464f432480d5fa8be7c4f278849e0147c"), looks := true }, kinds := [], alts := [], laidByText := true, laidKinds := [.handle], laidTests := true, laidLooks := .later }
def WalOpensCardSaid : Prop := Claim7.holds Tryd.pinned (.plain (OpenSpec.ofChange walOpensSpec)) walOpensCard

/-- THE TIED CARD OF 'sautoirlaw06.WalFull'. -/
def walFullCard : Claim7 := { stood := { row := walFullRow, standIns := [], harness := (true, "e5a201b82bcbe1678acc47b3094a976464f432480d5fa8be7c4f278849e0147c"), looks := true }, kinds := [], alts := [], laidByText := true, laidKinds := [.handle], laidTests := true, laidLooks := .later }
def WalFullCardSaid : Prop := Claim7.holds Tryd.pinned (.plain (OpenSpec.ofChange walFullSpec)) walFullCard

/-- THE TIED CARD OF 'sautoirlaw06.WalSure'. -/
def walSureCard : Claim7 := { stood := { row := walSureRow, standIns := [], harness := (true, "e5a201b82bcbe1678acc47b3094a976464f432480d5fa8be7c4f278849e0147c"), looks := true }, kinds := [], alts := [], laidByText := true, laidKinds := [.handle], laidTests := true, laidLooks := .later }
def WalSureCardSaid : Prop := Claim7.holds Tryd.pinned (.plain (OpenSpec.ofChange walSureSpec)) walSureCard

/-- THE TIED CARD OF 'sautoirlaw06.WalNil'. -/
def walNilCard : Claim7 := { stood := { row := walNilRow, standIns := [], harness := (true, "e5a201b82bcbe1678acc47b3094a976464f432480d5fa8be7c4f278849e0147c"), looks := true }, kinds := [], alts := [], laidByText := true, laidKinds := [.handle], laidTests := true, laidLooks := .later }
def WalNilCardSaid : Prop := Claim7.holds Tryd.pinned (.plain (OpenSpec.ofChange walNilSpec)) walNilCard

/-- THE SECOND FORM's CARD OF 'sautoirlaw06.WalOpens'. -/
def walOpensUptoCard : Claim7 := { stood := { row := walOpensUptoRow, standIns := [], harness := (true, "e5a201b82bcbe1678acc47b3094a976464f432480d5fa8be7c4f278849e0147c"), looks := true }, kinds := [], alts := [], laidByText := true, laidKinds := [.handle], laidTests := true, laidLooks := .later }
def WalOpensUptoCardSaid : Prop := Claim7.holds Tryd.pinned (.plain (OpenSpec.upto walOpensSpec)) walOpensUptoCard

/-- THE SECOND FORM's CARD OF 'sautoirlaw06.WalFull'. -/
def walFullUptoCard : Claim7 := { stood := { row := walFullUptoRow, standIns := [], harness := (true, "e5a201b82bcbe1678acc47b3094a976464f432480d5fa8be7c4f278849e0147c"), looks := true }, kinds := [], alts := [], laidByText := true, laidKinds := [.handle], laidTests := true, laidLooks := .later }
def WalFullUptoCardSaid : Prop := Claim7.holds Tryd.pinned (.plain (OpenSpec.upto walFullSpec)) walFullUptoCard

/-- THE SECOND FORM's CARD OF 'sautoirlaw06.WalSure'. -/
def walSureUptoCard : Claim7 := { stood := { row := walSureUptoRow, standIns := [], harness := (true, "e5a201b82bcbe1678acc47b3094a976464f432480d5fa8be7c4f278849e0147c"), looks := true }, kinds := [], alts := [], laidByText := true, laidKinds := [.handle], laidTests := true, laidLooks := .later }
def WalSureUptoCardSaid : Prop := Claim7.holds Tryd.pinned (.plain (OpenSpec.upto walSureSpec)) walSureUptoCard

/-- THE SECOND FORM's CARD OF 'sautoirlaw06.WalNil'. -/
def walNilUptoCard : Claim7 := { stood := { row := walNilUptoRow, standIns := [], harness := (true, "e5a201b82bcbe1678acc47b3094a976464f432480d5fa8be7c4f278849e0147c"), looks := true }, kinds := [], alts := [], laidByText := true, laidKinds := [.handle], laidTests := true, laidLooks := .later }
def WalNilUptoCardSaid : Prop := Claim7.holds Tryd.pinned (.plain (OpenSpec.upto walNilSpec)) walNilUptoCard
end Rows
end Go.Proofs.YtpbnmegmhhkloaaDoor
