/-
  DERIVED. GIVEN WITH THE SEED: THE CARDS: each row of YtpjpdomkcabfcaaGreatDoorRows.lean that lists a variable, with what it lists TIED to the program's text (the seventh form; the later family's looks); each row that meets fmt, with fmt's text TOLD by the authors' own Lean function (tested against real Go, not proved from fmt's source: count such statements apart). THE CARD IS WHAT COUNTS. Prove the row's statement (the work); the ties are given (YtpjpdomkcabfcaaGreatDoorTie.lean); close each card by the builder's one call (the guide's Derived/Test/ToyasCard.lean, 'card_holds'). Laid BY PROGRAM, IN A SANDBOX (cutbox-door.mjs). By AI agents, Wed Nov 11 2026. No macro, syntax, notation, axiom, sorry.
-/
import Derived.Test.YtpjpdomkcabfcaaGreatDoorRows
import GoSem.ClaimSeven
namespace Go.Proofs.YtpjpdomkcabfcaaGreatDoor
namespace Rows

/-- THE TIED CARD OF 'worldmintlaw17.ObjectBound'. -/
def objectBoundCard : Claim7 := { stood := { row := objectBoundRow, standIns := [], harness := (true, "4871691a53e00b9c12218030e3251f04890d94de1d374acfb2b1981778cdcebd"), looks := true }, kinds := [], alts := [], laidByText := true, laidKinds := [.data], laidTests := true, laidLooks := .later }
def ObjectBoundCardSaid : Prop := Claim7.holds Tryz.pinned (.plain (OpenSpec.ofChange objectBoundSpec)) objectBoundCard

/-- THE TIED CARD OF 'worldmintlaw17.ObjectArguments'. -/
def objectArgumentsCard : Claim7 := { stood := { row := objectArgumentsRow, standIns := [], harness := (true, "4871691a53e00b9c12218030e3251f04890d94de1d374acfb2b1981778cdcebd"), looks := true }, kinds := [], alts := [], laidByText := true, laidKinds := [.data], laidTests := true, laidLooks := .later }
def ObjectArgumentsCardSaid : Prop := Claim7.holds Tryz.pinned (.plain (OpenSpec.ofChange objectArgumentsSpec)) objectArgumentsCard

/-- THE TIED CARD OF 'worldmintlaw17.ObjectScripts'. -/
def objectScriptsCard : Claim7 := { stood := { row := objectScriptsRow, standIns := [], harness := (true, "4871691a53e00b9c12218030e3251f04890d94de1d374acfb2b1981778cdcebd"), looks := true }, kinds := [], alts := [], laidByText := true, laidKinds := [.data], laidTests := true, laidLooks := .later }
def ObjectScriptsCardSaid : Prop := Claim7.holds Tryz.pinned (.plain (OpenSpec.ofChange objectScriptsSpec)) objectScriptsCard

/-- THE TIED CARD OF 'worldmintlaw17.ObjectCopies'. -/
def objectCopiesCard : Claim7 := { stood := { row := objectCopiesRow, standIns := [], harness := (true, "4871691a53e00b9c12218030e3251f04890d94de1d374acfb2b1981778cdcebd"), looks := true }, kinds := [], alts := [], laidByText := true, laidKinds := [.data], laidTests := true, laidLooks := .later }
def ObjectCopiesCardSaid : Prop := Claim7.holds Tryz.pinned (.plain (OpenSpec.ofChange objectCopiesSpec)) objectCopiesCard

/-- THE TIED CARD OF 'worldmintlaw17.ObjectCodes'. -/
def objectCodesCard : Claim7 := { stood := { row := objectCodesRow, standIns := [], harness := (true, "4871691a53e00b9c12218030e3251f04890d94de1d374acfb2b1981778cdcebd"), looks := true }, kinds := [], alts := [], laidByText := true, laidKinds := [.data], laidTests := true, laidLooks := .later }
def ObjectCodesCardSaid : Prop := Claim7.holds Tryz.pinned (.plain (OpenSpec.ofChange objectCodesSpec)) objectCodesCard

/-- THE TIED CARD OF 'worldmintlaw17.ObjectConverts'. -/
def objectConvertsCard : Claim7 := { stood := { row := objectConvertsRow, standIns := [], harness := (true, "4871691a53e00b9c12218030e3251f04890d94de1d374acfb2b1981778cdcebd"), looks := true }, kinds := [], alts := [], laidByText := true, laidKinds := [.data], laidTests := true, laidLooks := .later }
def ObjectConvertsCardSaid : Prop := Claim7.holds Tryz.pinned (.plain (OpenSpec.ofChange objectConvertsSpec)) objectConvertsCard

/-- THE SECOND FORM's CARD OF 'worldmintlaw17.ObjectBound'. -/
def objectBoundUptoCard : Claim7 := { stood := { row := objectBoundUptoRow, standIns := [], harness := (true, "4871691a53e00b9c12218030e3251f04890d94de1d374acfb2b1981778cdcebd"), looks := true }, kinds := [], alts := [], laidByText := true, laidKinds := [.data], laidTests := true, laidLooks := .later }
def ObjectBoundUptoCardSaid : Prop := Claim7.holds Tryz.pinned (.plain (OpenSpec.upto objectBoundSpec)) objectBoundUptoCard

/-- THE SECOND FORM's CARD OF 'worldmintlaw17.ObjectArguments'. -/
def objectArgumentsUptoCard : Claim7 := { stood := { row := objectArgumentsUptoRow, standIns := [], harness := (true, "4871691a53e00b9c12218030e3251f04890d94de1d374acfb2b1981778cdcebd"), looks := true }, kinds := [], alts := [], laidByText := true, laidKinds := [.data], laidTests := true, laidLooks := .later }
def ObjectArgumentsUptoCardSaid : Prop := Claim7.holds Tryz.pinned (.plain (OpenSpec.upto objectArgumentsSpec)) objectArgumentsUptoCard

/-- THE SECOND FORM's CARD OF 'worldmintlaw17.ObjectScripts'. -/
def objectScriptsUptoCard : Claim7 := { stood := { row := objectScriptsUptoRow, standIns := [], harness := (true, "4871691a53e00b9c12218030e3251f04890d94de1d374acfb2b1981778cdcebd"), looks := true }, kinds := [], alts := [], laidByText := true, laidKinds := [.data], laidTests := true, laidLooks := .later }
def ObjectScriptsUptoCardSaid : Prop := Claim7.holds Tryz.pinned (.plain (OpenSpec.upto objectScriptsSpec)) objectScriptsUptoCard

/-- THE SECOND FORM's CARD OF 'worldmintlaw17.ObjectCopies'. -/
def objectCopiesUptoCard : Claim7 := { stood := { row := objectCopiesUptoRow, standIns := [], harness := (true, "4871691a53e00b9c12218030e3251f04890d94de1d374acfb2b1981778cdcebd"), looks := true }, kinds := [], alts := [], laidByText := true, laidKinds := [.data], laidTests := true, laidLooks := .later }
def ObjectCopiesUptoCardSaid : Prop := Claim7.holds Tryz.pinned (.plain (OpenSpec.upto objectCopiesSpec)) objectCopiesUptoCard

/-- THE SECOND FORM's CARD OF 'worldmintlaw17.ObjectCodes'. -/
def objectCodesUptoCard : Claim7 := { stood := { row := objectCodesUptoRow, standIns := [], harness := (true, "4871691a53e00b9c12218030e3251f04890d94de1d374acfb2b1981778cdcebd"), looks := true }, kinds := [], alts := [], laidByText := true, laidKinds := [.data], laidTests := true, laidLooks := .later }
def ObjectCodesUptoCardSaid : Prop := Claim7.holds Tryz.pinned (.plain (OpenSpec.upto objectCodesSpec)) objectCodesUptoCard

/-- THE SECOND FORM's CARD OF 'worldmintlaw17.ObjectConverts'. -/
def objectConvertsUptoCard : Claim7 := { stood := { row := objectConvertsUptoRow, standIns := [], harness := (true, "4871691a53e00b9c12218030e3251f04890d94de1d374acfb2b1981778cdcebd"), looks := true }, kinds := [], alts := [], laidByText := true, laidKinds := [.data], laidTests := true, laidLooks := .later }
def ObjectConvertsUptoCardSaid : Prop := Claim7.holds Tryz.pinned (.plain (OpenSpec.upto objectConvertsSpec)) objectConvertsUptoCard
end Rows
end Go.Proofs.YtpjpdomkcabfcaaGreatDoor
