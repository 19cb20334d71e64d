/-
  DERIVED. GIVEN WITH THE SEED: THE CARDS: each row of YtpbiiigpphehbaaGreatDoorRows.lean that lists a variable, with what it lists TIED to the program's text (the seventh form; the later family's looks); each row that meets fmt, with fmt's text TOLD by the authors' own Lean function (tested against real Go, not proved from fmt's source: count such statements apart). THE CARD IS WHAT COUNTS. Prove the row's statement (the work); the ties are given (YtpbiiigpphehbaaGreatDoorTie.lean); close each card by the builder's one call (the guide's Derived/Test/ToyasCard.lean, 'card_holds'). Laid BY PROGRAM, IN A SANDBOX (cutbox-door.mjs). By AI agents, Wed Nov 11 2026. No macro, syntax, notation, axiom, sorry.
-/
import Derived.Test.YtpbiiigpphehbaaGreatDoorRows
import GoSem.ClaimSeven
namespace Go.Proofs.YtpbiiigpphehbaaGreatDoor
namespace Rows

/-- THE TIED CARD OF 'worldmintlaw16.LedgerParts'. -/
def ledgerPartsCard : Claim7 := { stood := { row := ledgerPartsRow, standIns := [], harness := (true, "e996c1b725512e8c10480b3ae2cd074a5bd6b95850999f6d5bc4e5cd6c7cedd3"), looks := false }, kinds := [], alts := [], laidByText := true, laidKinds := [.data], laidTests := true, laidLooks := .later }
def LedgerPartsCardSaid : Prop := Claim7.holds Tryz.pinned (.plain (OpenSpec.ofChange ledgerPartsSpec)) ledgerPartsCard

/-- THE TIED CARD OF 'worldmintlaw16.LedgerSteps'. -/
def ledgerStepsCard : Claim7 := { stood := { row := ledgerStepsRow, standIns := [], harness := (true, "e996c1b725512e8c10480b3ae2cd074a5bd6b95850999f6d5bc4e5cd6c7cedd3"), looks := false }, kinds := [], alts := [], laidByText := true, laidKinds := [.data], laidTests := true, laidLooks := .later }
def LedgerStepsCardSaid : Prop := Claim7.holds Tryz.pinned (.plain (OpenSpec.ofChange ledgerStepsSpec)) ledgerStepsCard

/-- THE SECOND FORM's CARD OF 'worldmintlaw16.LedgerParts'. -/
def ledgerPartsUptoCard : Claim7 := { stood := { row := ledgerPartsUptoRow, standIns := [], harness := (true, "e996c1b725512e8c10480b3ae2cd074a5bd6b95850999f6d5bc4e5cd6c7cedd3"), looks := false }, kinds := [], alts := [], laidByText := true, laidKinds := [.data], laidTests := true, laidLooks := .later }
def LedgerPartsUptoCardSaid : Prop := Claim7.holds Tryz.pinned (.plain (OpenSpec.upto ledgerPartsSpec)) ledgerPartsUptoCard

/-- THE SECOND FORM's CARD OF 'worldmintlaw16.LedgerSteps'. -/
def ledgerStepsUptoCard : Claim7 := { stood := { row := ledgerStepsUptoRow, standIns := [], harness := (true, "e996c1b725512e8c10480b3ae2cd074a5bd6b95850999f6d5bc4e5cd6c7cedd3"), looks := false }, kinds := [], alts := [], laidByText := true, laidKinds := [.data], laidTests := true, laidLooks := .later }
def LedgerStepsUptoCardSaid : Prop := Claim7.holds Tryz.pinned (.plain (OpenSpec.upto ledgerStepsSpec)) ledgerStepsUptoCard
end Rows
end Go.Proofs.YtpbiiigpphehbaaGreatDoor
