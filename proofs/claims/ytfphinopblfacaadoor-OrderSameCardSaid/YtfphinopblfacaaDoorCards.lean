/-
  DERIVED. GIVEN WITH THE SEED: THE CARDS: each row of YtfphinopblfacaaDoorRows.lean that lists a variable, with what it lists TIED to the program's text (the seventh form; the later family's looks); each row that meets fmt, with fmt's text TOLD by the authors' own Lean function (tested against real Go, not proved from fmt's source: count such statements apart). THE CARD IS WHAT COUNTS. Prove the row's statement (the work); the ties are given (YtfphinopblfacaaDoorTie.lean); close each card by the builder's one call (the guide's Derived/Test/ToyasCard.lean, 'card_holds'). Laid BY PROGRAM, IN A SANDBOX (cutbox-door.mjs). By AI agents, Wed Nov 11 2026. No macro, syntax, notation, axiom, sorry.
-/
import Derived.Test.YtfphinopblfacaaDoorRows
import GoSem.ClaimSeven
namespace Go.Proofs.YtfphinopblfacaaDoor
namespace Rows

/-- THE TIED CARD OF 'sautoirlaw21.OrderCmd'. -/
def orderCmdCard : Claim7 := { stood := { row := orderCmdRow, standIns := [], harness := (true, "9b1b461710845c57d5eea754c0fd5fb868cbf2daa8eeaf8652cf149c497375b1"), looks := true }, kinds := [], alts := [], laidByText := true, laidKinds := [.handle], laidTests := true, laidLooks := .later }
def OrderCmdCardSaid : Prop := Claim7.holds Tryd.pinned (.plain (OpenSpec.ofChange orderCmdSpec)) orderCmdCard

/-- THE TIED CARD OF 'sautoirlaw21.OrderNil'. -/
def orderNilCard : Claim7 := { stood := { row := orderNilRow, standIns := [], harness := (true, "9b1b461710845c57d5eea754c0fd5fb868cbf2daa8eeaf8652cf149c497375b1"), looks := true }, kinds := [], alts := [], laidByText := true, laidKinds := [.handle], laidTests := true, laidLooks := .later }
def OrderNilCardSaid : Prop := Claim7.holds Tryd.pinned (.plain (OpenSpec.ofChange orderNilSpec)) orderNilCard

/-- THE TIED CARD OF 'sautoirlaw21.OrderApart'. -/
def orderApartCard : Claim7 := { stood := { row := orderApartRow, standIns := [], harness := (true, "9b1b461710845c57d5eea754c0fd5fb868cbf2daa8eeaf8652cf149c497375b1"), looks := true }, kinds := [], alts := [], laidByText := true, laidKinds := [.handle], laidTests := true, laidLooks := .later }
def OrderApartCardSaid : Prop := Claim7.holds Tryd.pinned (.plain (OpenSpec.ofChange orderApartSpec)) orderApartCard

/-- THE TIED CARD OF 'sautoirlaw21.OrderSame'. -/
def orderSameCard : Claim7 := { stood := { row := orderSameRow, standIns := [], harness := (true, "9b1b461710845c57d5eea754c0fd5fb868cbf2daa8eeaf8652cf149c497375b1"), looks := true }, kinds := [], alts := [], laidByText := true, laidKinds := [.handle], laidTests := true, laidLooks := .later }
def OrderSameCardSaid : Prop := Claim7.holds Tryd.pinned (.plain (OpenSpec.ofChange orderSameSpec)) orderSameCard

/-- THE SECOND FORM's CARD OF 'sautoirlaw21.OrderCmd'. -/
def orderCmdUptoCard : Claim7 := { stood := { row := orderCmdUptoRow, standIns := [], harness := (true, "9b1b461710845c57d5eea754c0fd5fb868cbf2daa8eeaf8652cf149c497375b1"), looks := true }, kinds := [], alts := [], laidByText := true, laidKinds := [.handle], laidTests := true, laidLooks := .later }
def OrderCmdUptoCardSaid : Prop := Claim7.holds Tryd.pinned (.plain (OpenSpec.upto orderCmdSpec)) orderCmdUptoCard

/-- THE SECOND FORM's CARD OF 'sautoirlaw21.OrderNil'. -/
def orderNilUptoCard : Claim7 := { stood := { row := orderNilUptoRow, standIns := [], harness := (true, "9b1b461710845c57d5eea754c0fd5fb868cbf2daa8eeaf8652cf149c497375b1"), looks := true }, kinds := [], alts := [], laidByText := true, laidKinds := [.handle], laidTests := true, laidLooks := .later }
def OrderNilUptoCardSaid : Prop := Claim7.holds Tryd.pinned (.plain (OpenSpec.upto orderNilSpec)) orderNilUptoCard

/-- THE SECOND FORM's CARD OF 'sautoirlaw21.OrderApart'. -/
def orderApartUptoCard : Claim7 := { stood := { row := orderApartUptoRow, standIns := [], harness := (true, "9b1b461710845c57d5eea754c0fd5fb868cbf2daa8eeaf8652cf149c497375b1"), looks := true }, kinds := [], alts := [], laidByText := true, laidKinds := [.handle], laidTests := true, laidLooks := .later }
def OrderApartUptoCardSaid : Prop := Claim7.holds Tryd.pinned (.plain (OpenSpec.upto orderApartSpec)) orderApartUptoCard

/-- THE SECOND FORM's CARD OF 'sautoirlaw21.OrderSame'. -/
def orderSameUptoCard : Claim7 := { stood := { row := orderSameUptoRow, standIns := [], harness := (true, "9b1b461710845c57d5eea754c0fd5fb868cbf2daa8eeaf8652cf149c497375b1"), looks := true }, kinds := [], alts := [], laidByText := true, laidKinds := [.handle], laidTests := true, laidLooks := .later }
def OrderSameUptoCardSaid : Prop := Claim7.holds Tryd.pinned (.plain (OpenSpec.upto orderSameSpec)) orderSameUptoCard
end Rows
end Go.Proofs.YtfphinopblfacaaDoor
