/-
  DERIVED. GIVEN WITH THE SEED: THE CARDS: each row of YtpbdohkbiklflaaGreatDoorRows.lean that lists a variable, with what it lists TIED to the program's text (the seventh form; the later family's looks); each row that meets fmt, with fmt's text TOLD by the authors' own Lean function (tested against real Go, not proved from fmt's source: count such statements apart). THE CARD IS WHAT COUNTS. Prove the row's statement (the work); the ties are given (YtpbdohkbiklflaaGreatDoorTie.lean); close each card by the builder's one call (the guide's Derived/Test/ToyasCard.lean, 'card_holds'). Laid BY PROGRAM, IN A SANDBOX (cutbox-door.mjs). By AI agents, Wed Nov 11 2026. No macro, syntax, notation, axiom, sorry.
-/
import Derived.Test.YtpbdohkbiklflaaGreatDoorRows
import GoSem.ClaimSeven
namespace Go.Proofs.YtpbdohkbiklflaaGreatDoor
namespace Rows

/-- THE TIED CARD OF 'worldmintlaw38.ViewsNew'. -/
def viewsNewCard : Claim7 := { stood := { row := viewsNewRow, standIns := [], harness := (true, "a072e9ee3de6e652b1a56dd51512d977f379c6012001995ee184881637a72722"), looks := true }, kinds := [], alts := [], laidByText := true, laidKinds := [.data], laidTests := true, laidLooks := .later }
def ViewsNewCardSaid : Prop := Claim7.holds Tryz.pinned (.plain (OpenSpec.ofChange viewsNewSpec)) viewsNewCard

/-- THE TIED CARD OF 'worldmintlaw38.ViewsPrice'. -/
def viewsPriceCard : Claim7 := { stood := { row := viewsPriceRow, standIns := [], harness := (true, "a072e9ee3de6e652b1a56dd51512d977f379c6012001995ee184881637a72722"), looks := true }, kinds := [], alts := [], laidByText := true, laidKinds := [.data], laidTests := true, laidLooks := .later }
def ViewsPriceCardSaid : Prop := Claim7.holds Tryz.pinned (.plain (OpenSpec.ofChange viewsPriceSpec)) viewsPriceCard

/-- THE TIED CARD OF 'worldmintlaw38.ViewsWork'. -/
def viewsWorkCard : Claim7 := { stood := { row := viewsWorkRow, standIns := [], harness := (true, "a072e9ee3de6e652b1a56dd51512d977f379c6012001995ee184881637a72722"), looks := true }, kinds := [], alts := [], laidByText := true, laidKinds := [.data], laidTests := true, laidLooks := .later }
def ViewsWorkCardSaid : Prop := Claim7.holds Tryz.pinned (.plain (OpenSpec.ofChange viewsWorkSpec)) viewsWorkCard

/-- THE TIED CARD OF 'worldmintlaw38.ViewsScratch'. -/
def viewsScratchCard : Claim7 := { stood := { row := viewsScratchRow, standIns := [], harness := (true, "a072e9ee3de6e652b1a56dd51512d977f379c6012001995ee184881637a72722"), looks := true }, kinds := [], alts := [], laidByText := true, laidKinds := [.data], laidTests := true, laidLooks := .later }
def ViewsScratchCardSaid : Prop := Claim7.holds Tryz.pinned (.plain (OpenSpec.ofChange viewsScratchSpec)) viewsScratchCard

/-- THE TIED CARD OF 'worldmintlaw38.ViewsFeed'. -/
def viewsFeedCard : Claim7 := { stood := { row := viewsFeedRow, standIns := [], harness := (true, "a072e9ee3de6e652b1a56dd51512d977f379c6012001995ee184881637a72722"), looks := true }, kinds := [], alts := [], laidByText := true, laidKinds := [.data], laidTests := true, laidLooks := .later }
def ViewsFeedCardSaid : Prop := Claim7.holds Tryz.pinned (.plain (OpenSpec.ofChange viewsFeedSpec)) viewsFeedCard

/-- THE TIED CARD OF 'worldmintlaw38.ViewsCopy'. -/
def viewsCopyCard : Claim7 := { stood := { row := viewsCopyRow, standIns := [], harness := (true, "a072e9ee3de6e652b1a56dd51512d977f379c6012001995ee184881637a72722"), looks := true }, kinds := [], alts := [], laidByText := true, laidKinds := [.data], laidTests := true, laidLooks := .later }
def ViewsCopyCardSaid : Prop := Claim7.holds Tryz.pinned (.plain (OpenSpec.ofChange viewsCopySpec)) viewsCopyCard

/-- THE SECOND FORM's CARD OF 'worldmintlaw38.ViewsNew'. -/
def viewsNewUptoCard : Claim7 := { stood := { row := viewsNewUptoRow, standIns := [], harness := (true, "a072e9ee3de6e652b1a56dd51512d977f379c6012001995ee184881637a72722"), looks := true }, kinds := [], alts := [], laidByText := true, laidKinds := [.data], laidTests := true, laidLooks := .later }
def ViewsNewUptoCardSaid : Prop := Claim7.holds Tryz.pinned (.plain (OpenSpec.upto viewsNewSpec)) viewsNewUptoCard

/-- THE SECOND FORM's CARD OF 'worldmintlaw38.ViewsPrice'. -/
def viewsPriceUptoCard : Claim7 := { stood := { row := viewsPriceUptoRow, standIns := [], harness := (true, "a072e9ee3de6e652b1a56dd51512d977f379c6012001995ee184881637a72722"), looks := true }, kinds := [], alts := [], laidByText := true, laidKinds := [.data], laidTests := true, laidLooks := .later }
def ViewsPriceUptoCardSaid : Prop := Claim7.holds Tryz.pinned (.plain (OpenSpec.upto viewsPriceSpec)) viewsPriceUptoCard

/-- THE SECOND FORM's CARD OF 'worldmintlaw38.ViewsWork'. -/
def viewsWorkUptoCard : Claim7 := { stood := { row := viewsWorkUptoRow, standIns := [], harness := (true, "a072e9ee3de6e652b1a56dd51512d977f379c6012001995ee184881637a72722"), looks := true }, kinds := [], alts := [], laidByText := true, laidKinds := [.data], laidTests := true, laidLooks := .later }
def ViewsWorkUptoCardSaid : Prop := Claim7.holds Tryz.pinned (.plain (OpenSpec.upto viewsWorkSpec)) viewsWorkUptoCard

/-- THE SECOND FORM's CARD OF 'worldmintlaw38.ViewsScratch'. -/
def viewsScratchUptoCard : Claim7 := { stood := { row := viewsScratchUptoRow, standIns := [], harness := (true, "a072e9ee3de6e652b1a56dd51512d977f379c6012001995ee184881637a72722"), looks := true }, kinds := [], alts := [], laidByText := true, laidKinds := [.data], laidTests := true, laidLooks := .later }
def ViewsScratchUptoCardSaid : Prop := Claim7.holds Tryz.pinned (.plain (OpenSpec.upto viewsScratchSpec)) viewsScratchUptoCard

/-- THE SECOND FORM's CARD OF 'worldmintlaw38.ViewsFeed'. -/
def viewsFeedUptoCard : Claim7 := { stood := { row := viewsFeedUptoRow, standIns := [], harness := (true, "a072e9ee3de6e652b1a56dd51512d977f379c6012001995ee184881637a72722"), looks := true }, kinds := [], alts := [], laidByText := true, laidKinds := [.data], laidTests := true, laidLooks := .later }
def ViewsFeedUptoCardSaid : Prop := Claim7.holds Tryz.pinned (.plain (OpenSpec.upto viewsFeedSpec)) viewsFeedUptoCard

/-- THE SECOND FORM's CARD OF 'worldmintlaw38.ViewsCopy'. -/
def viewsCopyUptoCard : Claim7 := { stood := { row := viewsCopyUptoRow, standIns := [], harness := (true, "a072e9ee3de6e652b1a56dd51512d977f379c6012001995ee184881637a72722"), looks := true }, kinds := [], alts := [], laidByText := true, laidKinds := [.data], laidTests := true, laidLooks := .later }
def ViewsCopyUptoCardSaid : Prop := Claim7.holds Tryz.pinned (.plain (OpenSpec.upto viewsCopySpec)) viewsCopyUptoCard
end Rows
end Go.Proofs.YtpbdohkbiklflaaGreatDoor
