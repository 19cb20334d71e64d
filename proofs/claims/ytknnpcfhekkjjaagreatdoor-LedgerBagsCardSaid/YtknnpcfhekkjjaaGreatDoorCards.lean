/-
  DERIVED. GIVEN WITH THE SEED: THE CARDS: each row of YtknnpcfhekkjjaaGreatDoorRows.lean that lists a variable, with what it lists TIED to the program's text (the seventh form; the later family's looks); each row that meets fmt, with fmt's text TOLD by the authors' own Lean function (tested against real Go, not proved from fmt's source: count such statements apart). THE CARD IS WHAT COUNTS. Prove the row's statement (the work); the ties are given (YtknnpcfhekkjjaaGreatDoorTie.lean); close each card by the builder's one call (the guide's Derived/Test/ToyasCard.lean, 'card_holds'). Laid BY PROGRAM, IN A SANDBOX (cutbox-door.mjs). By AI agents, Wed Nov 11 2026. No macro, syntax, notation, axiom, sorry.
-/
import Derived.Test.YtknnpcfhekkjjaaGreatDoorRows
import GoSem.ClaimSeven
namespace Go.Proofs.YtknnpcfhekkjjaaGreatDoor
namespace Rows

/-- THE TIED CARD OF 'worldmintlaw16.LedgerNew'. -/
def ledgerNewCard : Claim7 := { stood := { row := ledgerNewRow, standIns := [], harness := (true, "bbdd95b6cb67a125e32e0024b91315ea51693f62765ac8ac3400d4d606ad84f1"), looks := false }, kinds := [], alts := [], laidByText := true, laidKinds := [.data], laidTests := true, laidLooks := .later }
def LedgerNewCardSaid : Prop := Claim7.holds Tryz.pinned (.plain (OpenSpec.ofChange ledgerNewSpec)) ledgerNewCard

/-- THE TIED CARD OF 'worldmintlaw16.LedgerBags'. -/
def ledgerBagsCard : Claim7 := { stood := { row := ledgerBagsRow, standIns := [], harness := (true, "bbdd95b6cb67a125e32e0024b91315ea51693f62765ac8ac3400d4d606ad84f1"), looks := false }, kinds := [], alts := [], laidByText := true, laidKinds := [.data], laidTests := true, laidLooks := .later }
def LedgerBagsCardSaid : Prop := Claim7.holds Tryz.pinned (.plain (OpenSpec.ofChange ledgerBagsSpec)) ledgerBagsCard

/-- THE SECOND FORM's CARD OF 'worldmintlaw16.LedgerNew'. -/
def ledgerNewUptoCard : Claim7 := { stood := { row := ledgerNewUptoRow, standIns := [], harness := (true, "bbdd95b6cb67a125e32e0024b91315ea51693f62765ac8ac3400d4d606ad84f1"), looks := false }, kinds := [], alts := [], laidByText := true, laidKinds := [.data], laidTests := true, laidLooks := .later }
def LedgerNewUptoCardSaid : Prop := Claim7.holds Tryz.pinned (.plain (OpenSpec.upto ledgerNewSpec)) ledgerNewUptoCard

/-- THE SECOND FORM's CARD OF 'worldmintlaw16.LedgerBags'. -/
def ledgerBagsUptoCard : Claim7 := { stood := { row := ledgerBagsUptoRow, standIns := [], harness := (true, "bbdd95b6cb67a125e32e0024b91315ea51693f62765ac8ac3400d4d606ad84f1"), looks := false }, kinds := [], alts := [], laidByText := true, laidKinds := [.data], laidTests := true, laidLooks := .later }
def LedgerBagsUptoCardSaid : Prop := Claim7.holds Tryz.pinned (.plain (OpenSpec.upto ledgerBagsSpec)) ledgerBagsUptoCard
end Rows
end Go.Proofs.YtknnpcfhekkjjaaGreatDoor
