/-
  NARROWER THAN 'FOR EVERY INPUT', by the rows' own cells (each row's printed sentence says how): ViewsNew: laid · ViewsPrice: laid · ViewsWork: laid · ViewsScratch: laid · ViewsFeed: laid · ViewsCopy: laid.
  DERIVED. THE GIVEN ROWS OF THIS SEAT. 6 by the template 'for every input the law returns true; each argument reads behind the call as it read before'; 0 by the template 'total and deterministic' (their statements: YtpbdohkbiklflaaGreatDoorTotals.lean).
  GIVEN WITH THE SEED: the statements are not yours to turn. If you find one false, say at which input.
  Laid BY PROGRAM, IN A SANDBOX (cutbox-rows.mjs): the forced cells as the released guide's own fill.sh prints them over the translation a8aa33eadd014283… (all of the seat's roots in one cut). By AI agents, Wed Nov 11 2026. No macro, syntax, notation, axiom, sorry.
-/
import Derived.Test.YtpbdohkbiklflaaGreatDoorChecked
import GoSem.Claim
import GoSem.ClaimJoined
import GoSem.ClaimMapViews
import Derived.JoinedTies
import Derived.KernelRfl
namespace Go.Proofs.YtpbdohkbiklflaaGreatDoor
/- THE CELL 'sum', in the pinned program and in every row, IS THE sha256 OF THE DUMP (.gsa) THAT YtpbdohkbiklflaaGreatDoorProg.lean LOADS. Nothing in Lean hashes anything: it is a label: what it is worth is what the hold of that sum in a sandbox is worth. -/
noncomputable def Tryz.pinned : Pinned := { name := "ytpbdohkbiklflaagreatdoor", sum := "a8aa33eadd014283818ad73814646ed131c2640ca0f8f4c20c53067a5bf169b7", checked := Tryz.checked }
namespace Rows
def none {H : Type} : Left H := { results := [], args := [] }

/- WHAT THE LISTED PACKAGE-LEVEL VARIABLES READ AS WHEN THE CALL BEGINS. Each datum BY PROGRAM (the guide's laid-datum.mjs) off the statement by which the dump's own 'gosem.cut.vars' lays the variable. In a bare row this is a premise. The card (YtpbdohkbiklflaaGreatDoorCards.lean) ties it to the program's text. -/
def laid_worldmint_lexer_kinds {H : Type} : DataW H := .agg [.lit (.int .u8 0), .lit (.int .u8 0), .lit (.int .u8 0), .lit (.int .u8 0), .lit (.int .u8 0), .lit (.int .u8 0), .lit (.int .u8 0), .lit (.int .u8 0), .lit (.int .u8 0), .lit (.int .u8 1), .lit (.int .u8 1), .lit (.int .u8 0), .lit (.int .u8 0), .lit (.int .u8 0), .lit (.int .u8 0), .lit (.int .u8 0), .lit (.int .u8 0), .lit (.int .u8 0), .lit (.int .u8 0), .lit (.int .u8 0), .lit (.int .u8 0), .lit (.int .u8 0), .lit (.int .u8 0), .lit (.int .u8 0), .lit (.int .u8 0), .lit (.int .u8 0), .lit (.int .u8 0), .lit (.int .u8 0), .lit (.int .u8 0), .lit (.int .u8 0), .lit (.int .u8 0), .lit (.int .u8 0), .lit (.int .u8 1), .lit (.int .u8 0), .lit (.int .u8 0), .lit (.int .u8 2), .lit (.int .u8 0), .lit (.int .u8 0), .lit (.int .u8 0), .lit (.int .u8 0), .lit (.int .u8 7), .lit (.int .u8 7), .lit (.int .u8 0), .lit (.int .u8 7), .lit (.int .u8 7), .lit (.int .u8 6), .lit (.int .u8 7), .lit (.int .u8 0), .lit (.int .u8 4), .lit (.int .u8 4), .lit (.int .u8 4), .lit (.int .u8 4), .lit (.int .u8 4), .lit (.int .u8 4), .lit (.int .u8 4), .lit (.int .u8 4), .lit (.int .u8 4), .lit (.int .u8 4), .lit (.int .u8 7), .lit (.int .u8 7), .lit (.int .u8 7), .lit (.int .u8 7), .lit (.int .u8 7), .lit (.int .u8 0), .lit (.int .u8 0), .lit (.int .u8 0), .lit (.int .u8 0), .lit (.int .u8 0), .lit (.int .u8 0), .lit (.int .u8 0), .lit (.int .u8 0), .lit (.int .u8 0), .lit (.int .u8 0), .lit (.int .u8 0), .lit (.int .u8 0), .lit (.int .u8 0), .lit (.int .u8 0), .lit (.int .u8 0), .lit (.int .u8 0), .lit (.int .u8 0), .lit (.int .u8 0), .lit (.int .u8 0), .lit (.int .u8 0), .lit (.int .u8 0), .lit (.int .u8 0), .lit (.int .u8 0), .lit (.int .u8 0), .lit (.int .u8 0), .lit (.int .u8 0), .lit (.int .u8 0), .lit (.int .u8 0), .lit (.int .u8 0), .lit (.int .u8 0), .lit (.int .u8 0), .lit (.int .u8 0), .lit (.int .u8 5), .lit (.int .u8 0), .lit (.int .u8 3), .lit (.int .u8 3), .lit (.int .u8 3), .lit (.int .u8 3), .lit (.int .u8 3), .lit (.int .u8 3), .lit (.int .u8 3), .lit (.int .u8 3), .lit (.int .u8 3), .lit (.int .u8 3), .lit (.int .u8 3), .lit (.int .u8 3), .lit (.int .u8 3), .lit (.int .u8 3), .lit (.int .u8 3), .lit (.int .u8 3), .lit (.int .u8 3), .lit (.int .u8 3), .lit (.int .u8 3), .lit (.int .u8 3), .lit (.int .u8 3), .lit (.int .u8 3), .lit (.int .u8 3), .lit (.int .u8 3), .lit (.int .u8 3), .lit (.int .u8 3), .lit (.int .u8 7), .lit (.int .u8 0), .lit (.int .u8 7), .lit (.int .u8 0), .lit (.int .u8 0)]

/-- 'worldmintlaw38.ViewsNew': WHATEVER THE INPUT: true; the input reads as it did. -/
def viewsNewSpec : ChangeSpec := { name := "viewsNew", fn := fun _ => fun
  | [d1, d2, d3, d4] => { results := [.lit (.bool true)], args := [d1, d2, d3, d4] }
  | _ => none }
def viewsNewRow : OpenClaim := { program := "ytpbdohkbiklflaagreatdoor", sum := "a8aa33eadd014283818ad73814646ed131c2640ca0f8f4c20c53067a5bf169b7", func := "worldmint/worldmintlaw38.ViewsNew", spec := "viewsNew", inPlace := ["internal/bytealg.IndexByteString", "slices.overlaps[worldmint/views.Rank]", "slices.overlaps[[]worldmint/views.Rank]"], unfollowed := true, recurses := true, named := ["worldmint/lexer.kinds"], plainKeys := false, apart := false, laid := [("worldmint/lexer.kinds", laid_worldmint_lexer_kinds)] }
def ViewsNewSaid : Prop := viewsNewRow.holds Tryz.pinned (OpenSpec.ofChange viewsNewSpec)

/-- ITS FALSE NEIGHBOUR: 'it returns false'. Refute it at one input. -/
def viewsNewWrong : ChangeSpec := { name := "viewsNew", fn := fun _ => fun
  | [d1, d2, d3, d4] => { results := [.lit (.bool false)], args := [d1, d2, d3, d4] }
  | _ => none }
def ViewsNewWrongFalsely : Prop := viewsNewRow.holds Tryz.pinned (OpenSpec.ofChange viewsNewWrong)

/-- 'worldmintlaw38.ViewsPrice': WHATEVER THE INPUT: true; the input reads as it did. -/
def viewsPriceSpec : ChangeSpec := { name := "viewsPrice", fn := fun _ => fun
  | [d1, d2, d3] => { results := [.lit (.bool true)], args := [d1, d2, d3] }
  | _ => none }
def viewsPriceRow : OpenClaim := { program := "ytpbdohkbiklflaagreatdoor", sum := "a8aa33eadd014283818ad73814646ed131c2640ca0f8f4c20c53067a5bf169b7", func := "worldmint/worldmintlaw38.ViewsPrice", spec := "viewsPrice", inPlace := ["internal/bytealg.IndexByteString", "slices.overlaps[worldmint/views.Rank]", "slices.overlaps[[]worldmint/views.Rank]"], unfollowed := true, recurses := true, named := ["worldmint/lexer.kinds"], plainKeys := false, apart := false, laid := [("worldmint/lexer.kinds", laid_worldmint_lexer_kinds)] }
def ViewsPriceSaid : Prop := viewsPriceRow.holds Tryz.pinned (OpenSpec.ofChange viewsPriceSpec)

/-- ITS FALSE NEIGHBOUR: 'it returns false'. Refute it at one input. -/
def viewsPriceWrong : ChangeSpec := { name := "viewsPrice", fn := fun _ => fun
  | [d1, d2, d3] => { results := [.lit (.bool false)], args := [d1, d2, d3] }
  | _ => none }
def ViewsPriceWrongFalsely : Prop := viewsPriceRow.holds Tryz.pinned (OpenSpec.ofChange viewsPriceWrong)

/-- 'worldmintlaw38.ViewsWork': WHATEVER THE INPUT: true; the input reads as it did. -/
def viewsWorkSpec : ChangeSpec := { name := "viewsWork", fn := fun _ => fun
  | [d1, d2, d3] => { results := [.lit (.bool true)], args := [d1, d2, d3] }
  | _ => none }
def viewsWorkRow : OpenClaim := { program := "ytpbdohkbiklflaagreatdoor", sum := "a8aa33eadd014283818ad73814646ed131c2640ca0f8f4c20c53067a5bf169b7", func := "worldmint/worldmintlaw38.ViewsWork", spec := "viewsWork", inPlace := ["internal/bytealg.IndexByteString", "slices.overlaps[worldmint/views.Rank]", "slices.overlaps[[]worldmint/views.Rank]"], unfollowed := true, recurses := true, named := ["worldmint/lexer.kinds"], plainKeys := false, apart := false, laid := [("worldmint/lexer.kinds", laid_worldmint_lexer_kinds)] }
def ViewsWorkSaid : Prop := viewsWorkRow.holds Tryz.pinned (OpenSpec.ofChange viewsWorkSpec)

/-- ITS FALSE NEIGHBOUR: 'it returns false'. Refute it at one input. -/
def viewsWorkWrong : ChangeSpec := { name := "viewsWork", fn := fun _ => fun
  | [d1, d2, d3] => { results := [.lit (.bool false)], args := [d1, d2, d3] }
  | _ => none }
def ViewsWorkWrongFalsely : Prop := viewsWorkRow.holds Tryz.pinned (OpenSpec.ofChange viewsWorkWrong)

/-- 'worldmintlaw38.ViewsScratch': WHATEVER THE INPUT: true; the input reads as it did. -/
def viewsScratchSpec : ChangeSpec := { name := "viewsScratch", fn := fun _ => fun
  | [d1, d2, d3, d4] => { results := [.lit (.bool true)], args := [d1, d2, d3, d4] }
  | _ => none }
def viewsScratchRow : OpenClaim := { program := "ytpbdohkbiklflaagreatdoor", sum := "a8aa33eadd014283818ad73814646ed131c2640ca0f8f4c20c53067a5bf169b7", func := "worldmint/worldmintlaw38.ViewsScratch", spec := "viewsScratch", inPlace := ["internal/bytealg.IndexByteString", "slices.overlaps[worldmint/views.Rank]", "slices.overlaps[[]worldmint/views.Rank]"], unfollowed := true, recurses := true, named := ["worldmint/lexer.kinds"], plainKeys := false, apart := false, laid := [("worldmint/lexer.kinds", laid_worldmint_lexer_kinds)] }
def ViewsScratchSaid : Prop := viewsScratchRow.holds Tryz.pinned (OpenSpec.ofChange viewsScratchSpec)

/-- ITS FALSE NEIGHBOUR: 'it returns false'. Refute it at one input. -/
def viewsScratchWrong : ChangeSpec := { name := "viewsScratch", fn := fun _ => fun
  | [d1, d2, d3, d4] => { results := [.lit (.bool false)], args := [d1, d2, d3, d4] }
  | _ => none }
def ViewsScratchWrongFalsely : Prop := viewsScratchRow.holds Tryz.pinned (OpenSpec.ofChange viewsScratchWrong)

/-- 'worldmintlaw38.ViewsFeed': WHATEVER THE INPUT: true; the input reads as it did. -/
def viewsFeedSpec : ChangeSpec := { name := "viewsFeed", fn := fun _ => fun
  | [d1, d2, d3] => { results := [.lit (.bool true)], args := [d1, d2, d3] }
  | _ => none }
def viewsFeedRow : OpenClaim := { program := "ytpbdohkbiklflaagreatdoor", sum := "a8aa33eadd014283818ad73814646ed131c2640ca0f8f4c20c53067a5bf169b7", func := "worldmint/worldmintlaw38.ViewsFeed", spec := "viewsFeed", inPlace := ["internal/bytealg.IndexByteString", "slices.overlaps[worldmint/views.Rank]", "slices.overlaps[[]worldmint/views.Rank]"], unfollowed := true, recurses := true, named := ["worldmint/lexer.kinds"], plainKeys := false, apart := false, laid := [("worldmint/lexer.kinds", laid_worldmint_lexer_kinds)] }
def ViewsFeedSaid : Prop := viewsFeedRow.holds Tryz.pinned (OpenSpec.ofChange viewsFeedSpec)

/-- ITS FALSE NEIGHBOUR: 'it returns false'. Refute it at one input. -/
def viewsFeedWrong : ChangeSpec := { name := "viewsFeed", fn := fun _ => fun
  | [d1, d2, d3] => { results := [.lit (.bool false)], args := [d1, d2, d3] }
  | _ => none }
def ViewsFeedWrongFalsely : Prop := viewsFeedRow.holds Tryz.pinned (OpenSpec.ofChange viewsFeedWrong)

/-- 'worldmintlaw38.ViewsCopy': WHATEVER THE INPUT: true; the input reads as it did. -/
def viewsCopySpec : ChangeSpec := { name := "viewsCopy", fn := fun _ => fun
  | [d1, d2, d3, d4] => { results := [.lit (.bool true)], args := [d1, d2, d3, d4] }
  | _ => none }
def viewsCopyRow : OpenClaim := { program := "ytpbdohkbiklflaagreatdoor", sum := "a8aa33eadd014283818ad73814646ed131c2640ca0f8f4c20c53067a5bf169b7", func := "worldmint/worldmintlaw38.ViewsCopy", spec := "viewsCopy", inPlace := ["internal/bytealg.IndexByteString", "slices.overlaps[worldmint/views.Rank]", "slices.overlaps[[]worldmint/views.Rank]", "maps.clone"], unfollowed := true, recurses := true, named := ["worldmint/lexer.kinds"], plainKeys := false, apart := false, laid := [("worldmint/lexer.kinds", laid_worldmint_lexer_kinds)] }
def ViewsCopySaid : Prop := viewsCopyRow.holds Tryz.pinned (OpenSpec.ofChange viewsCopySpec)

/-- ITS FALSE NEIGHBOUR: 'it returns false'. Refute it at one input. -/
def viewsCopyWrong : ChangeSpec := { name := "viewsCopy", fn := fun _ => fun
  | [d1, d2, d3, d4] => { results := [.lit (.bool false)], args := [d1, d2, d3, d4] }
  | _ => none }
def ViewsCopyWrongFalsely : Prop := viewsCopyRow.holds Tryz.pinned (OpenSpec.ofChange viewsCopyWrong)

/- THE SECOND FORM. 'bulk': how many values and letters a reading holds, each counted each time it is reached (what is shared counts as often as it is met; a slice's spare places count too). A statement '..UptoSaid' is the law's where the arguments, and the package variables that the reading takes, are together of bulk at most 1048576: NARROWER than '..Said'. Prove '..Said' where nothing that the law and all that it calls make is longer than what came in: it says more and counts as full. Else prove '..UptoSaid'. A law counts once. -/
mutual
def uptoBulk {H : Type} : DataW H → Nat
  | .lit (.string bytes) => bytes.length + 1
  | .lit _ => 1
  | .nil => 1
  | .ptr d => uptoBulk d + 1
  | .slice elems spare => uptoBulkAll elems + uptoBulkAll spare + 1
  | .agg parts => uptoBulkAll parts + 1
  | .iface _ d => uptoBulk d + 1
  | .map entries => uptoBulkEntries entries + 1
  | .held _ => 1
def uptoBulkAll {H : Type} : List (DataW H) → Nat
  | [] => 0
  | d :: r => uptoBulk d + uptoBulkAll r
def uptoBulkEntries {H : Type} : List (Lit × DataW H) → Nat
  | [] => 0
  | x :: r => uptoBulkEntry x + uptoBulkEntries r
def uptoBulkEntry {H : Type} : Lit × DataW H → Nat
  | (.string bytes, d) => bytes.length + uptoBulk d + 1
  | (_, d) => uptoBulk d + 1
 end
def uptoSmall : (H : Type) → List (DataW H) → Bool := fun _ ds => decide (uptoBulkAll ds ≤ 1048576)
def OpenSpec.upto (s : _root_.Go.ChangeSpec) : _root_.Go.OpenSpec := { _root_.Go.OpenSpec.ofChange s with cond := some uptoSmall }

/-- 'worldmintlaw38.ViewsNew', WHERE WHAT IT READS IS OF BULK AT MOST 1048576: true; the input reads as it did. -/
def viewsNewUptoRow : OpenClaim := { program := "ytpbdohkbiklflaagreatdoor", sum := "a8aa33eadd014283818ad73814646ed131c2640ca0f8f4c20c53067a5bf169b7", func := "worldmint/worldmintlaw38.ViewsNew", spec := "viewsNew", inPlace := ["internal/bytealg.IndexByteString", "slices.overlaps[worldmint/views.Rank]", "slices.overlaps[[]worldmint/views.Rank]"], unfollowed := true, recurses := true, named := ["worldmint/lexer.kinds"], plainKeys := false, apart := false, laid := [("worldmint/lexer.kinds", laid_worldmint_lexer_kinds)], narrowed := true }
def ViewsNewUptoSaid : Prop := viewsNewUptoRow.holds Tryz.pinned (OpenSpec.upto viewsNewSpec)

/-- 'worldmintlaw38.ViewsPrice', WHERE WHAT IT READS IS OF BULK AT MOST 1048576: true; the input reads as it did. -/
def viewsPriceUptoRow : OpenClaim := { program := "ytpbdohkbiklflaagreatdoor", sum := "a8aa33eadd014283818ad73814646ed131c2640ca0f8f4c20c53067a5bf169b7", func := "worldmint/worldmintlaw38.ViewsPrice", spec := "viewsPrice", inPlace := ["internal/bytealg.IndexByteString", "slices.overlaps[worldmint/views.Rank]", "slices.overlaps[[]worldmint/views.Rank]"], unfollowed := true, recurses := true, named := ["worldmint/lexer.kinds"], plainKeys := false, apart := false, laid := [("worldmint/lexer.kinds", laid_worldmint_lexer_kinds)], narrowed := true }
def ViewsPriceUptoSaid : Prop := viewsPriceUptoRow.holds Tryz.pinned (OpenSpec.upto viewsPriceSpec)

/-- 'worldmintlaw38.ViewsWork', WHERE WHAT IT READS IS OF BULK AT MOST 1048576: true; the input reads as it did. -/
def viewsWorkUptoRow : OpenClaim := { program := "ytpbdohkbiklflaagreatdoor", sum := "a8aa33eadd014283818ad73814646ed131c2640ca0f8f4c20c53067a5bf169b7", func := "worldmint/worldmintlaw38.ViewsWork", spec := "viewsWork", inPlace := ["internal/bytealg.IndexByteString", "slices.overlaps[worldmint/views.Rank]", "slices.overlaps[[]worldmint/views.Rank]"], unfollowed := true, recurses := true, named := ["worldmint/lexer.kinds"], plainKeys := false, apart := false, laid := [("worldmint/lexer.kinds", laid_worldmint_lexer_kinds)], narrowed := true }
def ViewsWorkUptoSaid : Prop := viewsWorkUptoRow.holds Tryz.pinned (OpenSpec.upto viewsWorkSpec)

/-- 'worldmintlaw38.ViewsScratch', WHERE WHAT IT READS IS OF BULK AT MOST 1048576: true; the input reads as it did. -/
def viewsScratchUptoRow : OpenClaim := { program := "ytpbdohkbiklflaagreatdoor", sum := "a8aa33eadd014283818ad73814646ed131c2640ca0f8f4c20c53067a5bf169b7", func := "worldmint/worldmintlaw38.ViewsScratch", spec := "viewsScratch", inPlace := ["internal/bytealg.IndexByteString", "slices.overlaps[worldmint/views.Rank]", "slices.overlaps[[]worldmint/views.Rank]"], unfollowed := true, recurses := true, named := ["worldmint/lexer.kinds"], plainKeys := false, apart := false, laid := [("worldmint/lexer.kinds", laid_worldmint_lexer_kinds)], narrowed := true }
def ViewsScratchUptoSaid : Prop := viewsScratchUptoRow.holds Tryz.pinned (OpenSpec.upto viewsScratchSpec)

/-- 'worldmintlaw38.ViewsFeed', WHERE WHAT IT READS IS OF BULK AT MOST 1048576: true; the input reads as it did. -/
def viewsFeedUptoRow : OpenClaim := { program := "ytpbdohkbiklflaagreatdoor", sum := "a8aa33eadd014283818ad73814646ed131c2640ca0f8f4c20c53067a5bf169b7", func := "worldmint/worldmintlaw38.ViewsFeed", spec := "viewsFeed", inPlace := ["internal/bytealg.IndexByteString", "slices.overlaps[worldmint/views.Rank]", "slices.overlaps[[]worldmint/views.Rank]"], unfollowed := true, recurses := true, named := ["worldmint/lexer.kinds"], plainKeys := false, apart := false, laid := [("worldmint/lexer.kinds", laid_worldmint_lexer_kinds)], narrowed := true }
def ViewsFeedUptoSaid : Prop := viewsFeedUptoRow.holds Tryz.pinned (OpenSpec.upto viewsFeedSpec)

/-- 'worldmintlaw38.ViewsCopy', WHERE WHAT IT READS IS OF BULK AT MOST 1048576: true; the input reads as it did. -/
def viewsCopyUptoRow : OpenClaim := { program := "ytpbdohkbiklflaagreatdoor", sum := "a8aa33eadd014283818ad73814646ed131c2640ca0f8f4c20c53067a5bf169b7", func := "worldmint/worldmintlaw38.ViewsCopy", spec := "viewsCopy", inPlace := ["internal/bytealg.IndexByteString", "slices.overlaps[worldmint/views.Rank]", "slices.overlaps[[]worldmint/views.Rank]", "maps.clone"], unfollowed := true, recurses := true, named := ["worldmint/lexer.kinds"], plainKeys := false, apart := false, laid := [("worldmint/lexer.kinds", laid_worldmint_lexer_kinds)], narrowed := true }
def ViewsCopyUptoSaid : Prop := viewsCopyUptoRow.holds Tryz.pinned (OpenSpec.upto viewsCopySpec)

end Rows
end Go.Proofs.YtpbdohkbiklflaaGreatDoor
