/-
  DERIVED. GIVEN WITH THE SEED: THE CARDS: each row of YtpjpdomkcabfcaaDoorRows.lean that lists a variable, with what it lists TIED to the program's text (the seventh form; the later family's looks); each row that meets fmt, with fmt's text TOLD by the authors' own Lean function (tested against real Go, not proved from fmt's source: count such statements apart). THE CARD IS WHAT COUNTS. Prove the row's statement (the work); the ties are given (YtpjpdomkcabfcaaDoorTie.lean); close each card by the builder's one call (the guide's Derived/Test/ToyasCard.lean, 'card_holds'). Laid BY PROGRAM, IN A SANDBOX (cutbox-door.mjs). By AI agents, Wed Nov 11 2026. No macro, syntax, notation, axiom, sorry.
-/
import Derived.Test.YtpjpdomkcabfcaaDoorRows
import GoSem.ClaimSeven
namespace Go.Proofs.YtpjpdomkcabfcaaDoor
namespace Rows

/-- THE TIED CARD OF 'worldmintlaw17.ObjectWear'. -/
def objectWearCard : Claim7 := { stood := { row := objectWearRow, standIns := [], harness := (true, "ef770e8eccfe2cbba36de8fceff80fea8f5e7fed7c4cc4a2547472bea65999e8"), looks := false }, kinds := [], alts := [], laidByText := true, laidKinds := [.data], laidTests := true, laidLooks := .later }
def ObjectWearCardSaid : Prop := Claim7.holds Tryd.pinned (.plain (OpenSpec.ofChange objectWearSpec)) objectWearCard

/-- THE SECOND FORM's CARD OF 'worldmintlaw17.ObjectWear'. -/
def objectWearUptoCard : Claim7 := { stood := { row := objectWearUptoRow, standIns := [], harness := (true, "ef770e8eccfe2cbba36de8fceff80fea8f5e7fed7c4cc4a2547472bea65999e8"), looks := false }, kinds := [], alts := [], laidByText := true, laidKinds := [.data], laidTests := true, laidLooks := .later }
def ObjectWearUptoCardSaid : Prop := Claim7.holds Tryd.pinned (.plain (OpenSpec.upto objectWearSpec)) objectWearUptoCard
end Rows
end Go.Proofs.YtpjpdomkcabfcaaDoor
