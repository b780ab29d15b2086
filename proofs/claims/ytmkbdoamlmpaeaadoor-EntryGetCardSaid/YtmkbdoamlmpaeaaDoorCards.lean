/-
  DERIVED. GIVEN WITH THE SEED: THE CARDS: each row of YtmkbdoamlmpaeaaDoorRows.lean that lists a variable, with what it lists TIED to the program's text (the seventh form; the later family's looks); each row that meets fmt, with fmt's text TOLD by the authors' own Lean function (tested against real Go, not proved from fmt's source: count such statements apart). THE CARD IS WHAT COUNTS. Prove the row's statement (the work); the ties are given (YtmkbdoamlmpaeaaDoorTie.lean); close each card by the builder's one call (the guide's Derived/Test/ToyasCard.lean, 'card_holds'). Laid BY PROGRAM, IN A SANDBOX (cutbox-door.mjs). By AI agents, Wed Nov 11 2026. No macro, syntax, notation, axiom, sorry.
-/
import Derived.Test.YtmkbdoamlmpaeaaDoorRows
import GoSem.ClaimSeven
namespace Go.Proofs.YtmkbdoamlmpaeaaDoor
namespace Rows

/-- THE TIED CARD OF 'sautoirlaw12.EntryPut'. -/
def entryPutCard : Claim7 := { stood := { row := entryPutRow, standIns := [], harness := (true, "504c738785f4b8c7ae37e2e1153e94219e4967e7da98ae2fe00bb9937c795b7f"), looks := true }, kinds := [], alts := [], laidByText := true, laidKinds := [.handle], laidTests := true, laidLooks := .later }
def EntryPutCardSaid : Prop := Claim7.holds Tryd.pinned (.plain (OpenSpec.ofChange entryPutSpec)) entryPutCard

/-- THE TIED CARD OF 'sautoirlaw12.EntryGet'. -/
def entryGetCard : Claim7 := { stood := { row := entryGetRow, standIns := [], harness := (true, "504c738785f4b8c7ae37e2e1153e94219e4967e7da98ae2fe00bb9937c795b7f"), looks := true }, kinds := [], alts := [], laidByText := true, laidKinds := [.handle], laidTests := true, laidLooks := .later }
def EntryGetCardSaid : Prop := Claim7.holds Tryd.pinned (.plain (OpenSpec.ofChange entryGetSpec)) entryGetCard

/-- THE SECOND FORM's CARD OF 'sautoirlaw12.EntryPut'. -/
def entryPutUptoCard : Claim7 := { stood := { row := entryPutUptoRow, standIns := [], harness := (true, "504c738785f4b8c7ae37e2e1153e94219e4967e7da98ae2fe00bb9937c795b7f"), looks := true }, kinds := [], alts := [], laidByText := true, laidKinds := [.handle], laidTests := true, laidLooks := .later }
def EntryPutUptoCardSaid : Prop := Claim7.holds Tryd.pinned (.plain (OpenSpec.upto entryPutSpec)) entryPutUptoCard

/-- THE SECOND FORM's CARD OF 'sautoirlaw12.EntryGet'. -/
def entryGetUptoCard : Claim7 := { stood := { row := entryGetUptoRow, standIns := [], harness := (true, "504c738785f4b8c7ae37e2e1153e94219e4967e7da98ae2fe00bb9937c795b7f"), looks := true }, kinds := [], alts := [], laidByText := true, laidKinds := [.handle], laidTests := true, laidLooks := .later }
def EntryGetUptoCardSaid : Prop := Claim7.holds Tryd.pinned (.plain (OpenSpec.upto entryGetSpec)) entryGetUptoCard
end Rows
end Go.Proofs.YtmkbdoamlmpaeaaDoor
