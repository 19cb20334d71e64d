/-
  DERIVED. GIVEN WITH THE SEED: THE CARDS: each row of YtmojfblpbcficaaGreatDoorRows.lean that lists a variable, with what it lists TIED to the program's text (the seventh form; the later family's looks); each row that meets fmt, with fmt's text TOLD by the authors' own Lean function (tested against real Go, not proved from fmt's source: count such statements apart). THE CARD IS WHAT COUNTS. Prove the row's statement (the work); the ties are given (YtmojfblpbcficaaGreatDoorTie.lean); close each card by the builder's one call (the guide's Derived/Test/ToyasCard.lean, 'card_holds'). Laid BY PROGRAM, IN A SANDBOX (cutbox-door.mjs). By AI agents, Wed Nov 11 2026. No macro, syntax, notation, axiom, sorry.
-/
import Derived.Test.YtmojfblpbcficaaGreatDoorRows
import GoSem.ClaimSeven
namespace Go.Proofs.YtmojfblpbcficaaGreatDoor
namespace Rows

/-- THE TIED CARD OF 'worldmintlaw16.LedgerConserves'. -/
def ledgerConservesCard : Claim7 := { stood := { row := ledgerConservesRow, standIns := [], harness := (true, "4cfebacd7fa11c9ba05c4da78e53308d7f32422a2330262ad2f8dea3f3ade102"), looks := true }, kinds := [], alts := [], laidByText := true, laidKinds := [.data], laidTests := true, laidLooks := .later }
def LedgerConservesCardSaid : Prop := Claim7.holds Tryz.pinned (.plain (OpenSpec.ofChange ledgerConservesSpec)) ledgerConservesCard

/-- THE TIED CARD OF 'worldmintlaw16.LedgerParts'. -/
def ledgerPartsCard : Claim7 := { stood := { row := ledgerPartsRow, standIns := [], harness := (true, "4cfebacd7fa11c9ba05c4da78e53308d7f32422a2330262ad2f8dea3f3ade102"), looks := true }, kinds := [], alts := [], laidByText := true, laidKinds := [.data], laidTests := true, laidLooks := .later }
def LedgerPartsCardSaid : Prop := Claim7.holds Tryz.pinned (.plain (OpenSpec.ofChange ledgerPartsSpec)) ledgerPartsCard

/-- THE TIED CARD OF 'worldmintlaw16.LedgerHolders'. -/
def ledgerHoldersCard : Claim7 := { stood := { row := ledgerHoldersRow, standIns := [], harness := (true, "4cfebacd7fa11c9ba05c4da78e53308d7f32422a2330262ad2f8dea3f3ade102"), looks := true }, kinds := [], alts := [], laidByText := true, laidKinds := [.data], laidTests := true, laidLooks := .later }
def LedgerHoldersCardSaid : Prop := Claim7.holds Tryz.pinned (.plain (OpenSpec.ofChange ledgerHoldersSpec)) ledgerHoldersCard

/-- THE TIED CARD OF 'worldmintlaw16.LedgerReplays'. -/
def ledgerReplaysCard : Claim7 := { stood := { row := ledgerReplaysRow, standIns := [], harness := (true, "4cfebacd7fa11c9ba05c4da78e53308d7f32422a2330262ad2f8dea3f3ade102"), looks := true }, kinds := [], alts := [], laidByText := true, laidKinds := [.data], laidTests := true, laidLooks := .later }
def LedgerReplaysCardSaid : Prop := Claim7.holds Tryz.pinned (.plain (OpenSpec.ofChange ledgerReplaysSpec)) ledgerReplaysCard

/-- THE TIED CARD OF 'worldmintlaw16.LedgerGraph'. -/
def ledgerGraphCard : Claim7 := { stood := { row := ledgerGraphRow, standIns := [], harness := (true, "4cfebacd7fa11c9ba05c4da78e53308d7f32422a2330262ad2f8dea3f3ade102"), looks := true }, kinds := [], alts := [], laidByText := true, laidKinds := [.data], laidTests := true, laidLooks := .later }
def LedgerGraphCardSaid : Prop := Claim7.holds Tryz.pinned (.plain (OpenSpec.ofChange ledgerGraphSpec)) ledgerGraphCard

/-- THE SECOND FORM's CARD OF 'worldmintlaw16.LedgerConserves'. -/
def ledgerConservesUptoCard : Claim7 := { stood := { row := ledgerConservesUptoRow, standIns := [], harness := (true, "4cfebacd7fa11c9ba05c4da78e53308d7f32422a2330262ad2f8dea3f3ade102"), looks := true }, kinds := [], alts := [], laidByText := true, laidKinds := [.data], laidTests := true, laidLooks := .later }
def LedgerConservesUptoCardSaid : Prop := Claim7.holds Tryz.pinned (.plain (OpenSpec.upto ledgerConservesSpec)) ledgerConservesUptoCard

/-- THE SECOND FORM's CARD OF 'worldmintlaw16.LedgerParts'. -/
def ledgerPartsUptoCard : Claim7 := { stood := { row := ledgerPartsUptoRow, standIns := [], harness := (true, "4cfebacd7fa11c9ba05c4da78e53308d7f32422a2330262ad2f8dea3f3ade102"), looks := true }, kinds := [], alts := [], laidByText := true, laidKinds := [.data], laidTests := true, laidLooks := .later }
def LedgerPartsUptoCardSaid : Prop := Claim7.holds Tryz.pinned (.plain (OpenSpec.upto ledgerPartsSpec)) ledgerPartsUptoCard

/-- THE SECOND FORM's CARD OF 'worldmintlaw16.LedgerHolders'. -/
def ledgerHoldersUptoCard : Claim7 := { stood := { row := ledgerHoldersUptoRow, standIns := [], harness := (true, "4cfebacd7fa11c9ba05c4da78e53308d7f32422a2330262ad2f8dea3f3ade102"), looks := true }, kinds := [], alts := [], laidByText := true, laidKinds := [.data], laidTests := true, laidLooks := .later }
def LedgerHoldersUptoCardSaid : Prop := Claim7.holds Tryz.pinned (.plain (OpenSpec.upto ledgerHoldersSpec)) ledgerHoldersUptoCard

/-- THE SECOND FORM's CARD OF 'worldmintlaw16.LedgerReplays'. -/
def ledgerReplaysUptoCard : Claim7 := { stood := { row := ledgerReplaysUptoRow, standIns := [], harness := (true, "4cfebacd7fa11c9ba05c4da78e53308d7f32422a2330262ad2f8dea3f3ade102"), looks := true }, kinds := [], alts := [], laidByText := true, laidKinds := [.data], laidTests := true, laidLooks := .later }
def LedgerReplaysUptoCardSaid : Prop := Claim7.holds Tryz.pinned (.plain (OpenSpec.upto ledgerReplaysSpec)) ledgerReplaysUptoCard

/-- THE SECOND FORM's CARD OF 'worldmintlaw16.LedgerGraph'. -/
def ledgerGraphUptoCard : Claim7 := { stood := { row := ledgerGraphUptoRow, standIns := [], harness := (true, "4cfebacd7fa11c9ba05c4da78e53308d7f32422a2330262ad2f8dea3f3ade102"), looks := true }, kinds := [], alts := [], laidByText := true, laidKinds := [.data], laidTests := true, laidLooks := .later }
def LedgerGraphUptoCardSaid : Prop := Claim7.holds Tryz.pinned (.plain (OpenSpec.upto ledgerGraphSpec)) ledgerGraphUptoCard
end Rows
end Go.Proofs.YtmojfblpbcficaaGreatDoor
