/-
  DERIVED. GIVEN WITH THE SEED: THE CARDS: each row of YtccialgeakmmpaaGreatDoorRows.lean that lists a variable, with what it lists TIED to the program's text (the seventh form; the later family's looks); each row that meets fmt, with fmt's text TOLD by the authors' own Lean function (tested against real Go, not proved from fmt's source: count such statements apart). THE CARD IS WHAT COUNTS. Prove the row's statement (the work); the ties are given (YtccialgeakmmpaaGreatDoorTie.lean); close each card by the builder's one call (the guide's Derived/Test/ToyasCard.lean, 'card_holds'). Laid BY PROGRAM, IN A SANDBOX (cutbox-door.mjs). By AI agents, Wed Nov 11 2026. No macro, syntax, notation, axiom, sorry.
-/
import Derived.Test.YtccialgeakmmpaaGreatDoorRows
import GoSem.ClaimSeven
namespace Go.Proofs.YtccialgeakmmpaaGreatDoor
namespace Rows

/-- THE TIED CARD OF 'worldmintlaw17.ObjectConverts'. -/
def objectConvertsCard : Claim7 := { stood := { row := objectConvertsRow, standIns := [], harness := (true, "fd9e0daf7ff34700ba45724c5274c95777e5e0fbd9fb63f203a832053ce3f578"), looks := false }, kinds := [], alts := [], laidByText := true, laidKinds := [.data], laidTests := true, laidLooks := .later }
def ObjectConvertsCardSaid : Prop := Claim7.holds Tryz.pinned (.plain (OpenSpec.ofChange objectConvertsSpec)) objectConvertsCard

/-- THE SECOND FORM's CARD OF 'worldmintlaw17.ObjectConverts'. -/
def objectConvertsUptoCard : Claim7 := { stood := { row := objectConvertsUptoRow, standIns := [], harness := (true, "fd9e0daf7ff34700ba45724c5274c95777e5e0fbd9fb63f203a832053ce3f578"), looks := false }, kinds := [], alts := [], laidByText := true, laidKinds := [.data], laidTests := true, laidLooks := .later }
def ObjectConvertsUptoCardSaid : Prop := Claim7.holds Tryz.pinned (.plain (OpenSpec.upto objectConvertsSpec)) objectConvertsUptoCard
end Rows
end Go.Proofs.YtccialgeakmmpaaGreatDoor
