/-
  DERIVED. GIVEN WITH THE SEED: THE CARDS: each row of YtfpebgpgabjieaaGreatDoorRows.lean that lists a variable, with what it lists TIED to the program's text (the seventh form; the later family's looks); each row that meets fmt, with fmt's text TOLD by the authors' own Lean function (tested against real Go, not proved from fmt's source: count such statements apart). THE CARD IS WHAT COUNTS. Prove the row's statement (the work); the ties are given (YtfpebgpgabjieaaGreatDoorTie.lean); close each card by the builder's one call (the guide's Derived/Test/ToyasCard.lean, 'card_holds'). Laid BY PROGRAM, IN A SANDBOX (cutbox-door.mjs). By AI agents, Wed Nov 11 2026. No macro, syntax, notation, axiom, sorry.
-/
import Derived.Test.YtfpebgpgabjieaaGreatDoorRows
import GoSem.ClaimSeven
namespace Go.Proofs.YtfpebgpgabjieaaGreatDoor
namespace Rows

/-- THE TIED CARD OF 'worldmintlaw16.LedgerReplays'. -/
def ledgerReplaysCard : Claim7 := { stood := { row := ledgerReplaysRow, standIns := [], harness := (true, "9fb5c3909c1cc273cd40ca80eb25eca329e08344f97ae0366a733611edbf6dbf"), looks := true }, kinds := [], alts := [], laidByText := true, laidKinds := [.data], laidTests := true, laidLooks := .later }
def LedgerReplaysCardSaid : Prop := Claim7.holds Tryz.pinned (.plain (OpenSpec.ofChange ledgerReplaysSpec)) ledgerReplaysCard

/-- THE TIED CARD OF 'worldmintlaw16.LedgerNew'. -/
def ledgerNewCard : Claim7 := { stood := { row := ledgerNewRow, standIns := [], harness := (true, "9fb5c3909c1cc273cd40ca80eb25eca329e08344f97ae0366a733611edbf6dbf"), looks := true }, kinds := [], alts := [], laidByText := true, laidKinds := [.data], laidTests := true, laidLooks := .later }
def LedgerNewCardSaid : Prop := Claim7.holds Tryz.pinned (.plain (OpenSpec.ofChange ledgerNewSpec)) ledgerNewCard

/-- THE TIED CARD OF 'worldmintlaw16.LedgerGraph'. -/
def ledgerGraphCard : Claim7 := { stood := { row := ledgerGraphRow, standIns := [], harness := (true, "9fb5c3909c1cc273cd40ca80eb25eca329e08344f97ae0366a733611edbf6dbf"), looks := true }, kinds := [], alts := [], laidByText := true, laidKinds := [.data], laidTests := true, laidLooks := .later }
def LedgerGraphCardSaid : Prop := Claim7.holds Tryz.pinned (.plain (OpenSpec.ofChange ledgerGraphSpec)) ledgerGraphCard

/-- THE SECOND FORM's CARD OF 'worldmintlaw16.LedgerReplays'. -/
def ledgerReplaysUptoCard : Claim7 := { stood := { row := ledgerReplaysUptoRow, standIns := [], harness := (true, "9fb5c3909c1cc273cd40ca80eb25eca329e08344f97ae0366a733611edbf6dbf"), looks := true }, kinds := [], alts := [], laidByText := true, laidKinds := [.data], laidTests := true, laidLooks := .later }
def LedgerReplaysUptoCardSaid : Prop := Claim7.holds Tryz.pinned (.plain (OpenSpec.upto ledgerReplaysSpec)) ledgerReplaysUptoCard

/-- THE SECOND FORM's CARD OF 'worldmintlaw16.LedgerNew'. -/
def ledgerNewUptoCard : Claim7 := { stood := { row := ledgerNewUptoRow, standIns := [], harness := (true, "9fb5c3909c1cc273cd40ca80eb25eca329e08344f97ae0366a733611edbf6dbf"), looks := true }, kinds := [], alts := [], laidByText := true, laidKinds := [.data], laidTests := true, laidLooks := .later }
def LedgerNewUptoCardSaid : Prop := Claim7.holds Tryz.pinned (.plain (OpenSpec.upto ledgerNewSpec)) ledgerNewUptoCard

/-- THE SECOND FORM's CARD OF 'worldmintlaw16.LedgerGraph'. -/
def ledgerGraphUptoCard : Claim7 := { stood := { row := ledgerGraphUptoRow, standIns := [], harness := (true, "9fb5c3909c1cc273cd40ca80eb25eca329e08344f97ae0366a733611edbf6dbf"), looks := true }, kinds := [], alts := [], laidByText := true, laidKinds := [.data], laidTests := true, laidLooks := .later }
def LedgerGraphUptoCardSaid : Prop := Claim7.holds Tryz.pinned (.plain (OpenSpec.upto ledgerGraphSpec)) ledgerGraphUptoCard
end Rows
end Go.Proofs.YtfpebgpgabjieaaGreatDoor
