/-
  NARROWER THAN 'FOR EVERY INPUT', by the rows' own cells (each row's printed sentence says how): ObjectBound: laid · ObjectArguments: laid · ObjectScripts: laid · ObjectCopies: laid · ObjectCodes: laid · ObjectConverts: laid.
  DERIVED. THE GIVEN ROWS OF THIS SEAT. 6 by the template 'for every input the law returns true; each argument reads behind the call as it read before'; 0 by the template 'total and deterministic' (their statements: YtpjpdomkcabfcaaGreatDoorTotals.lean).
  GIVEN WITH THE SEED: the statements are not yours to turn. If you find one false, say at which input.
  Laid BY PROGRAM, IN A SANDBOX (cutbox-rows.mjs): the forced cells as the released guide's own fill.sh prints them over the translation 50dc4da905571925… (all of the seat's roots in one cut). By AI agents, Wed Nov 11 2026. No macro, syntax, notation, axiom, sorry.
-/
import Derived.Test.YtpjpdomkcabfcaaGreatDoorChecked
import GoSem.Claim
import GoSem.ClaimJoined
import GoSem.ClaimMapViews
import Derived.JoinedTies
import Derived.KernelRfl
namespace Go.Proofs.YtpjpdomkcabfcaaGreatDoor
/- THE CELL 'sum', in the pinned program and in every row, IS THE sha256 OF THE DUMP (.gsa) THAT YtpjpdomkcabfcaaGreatDoorProg.lean LOADS. Nothing in Lean hashes anything: it is a label: what it is worth is what the hold of that sum in a sandbox is worth. -/
noncomputable def Tryz.pinned : Pinned := { name := "ytpjpdomkcabfcaagreatdoor", sum := "50dc4da9055719258248e319857e4f42ea7569e1d7b88a515675901ef5599dfd", checked := Tryz.checked }
namespace Rows
def none {H : Type} : Left H := { results := [], args := [] }

/- WHAT THE LISTED PACKAGE-LEVEL VARIABLES READ AS WHEN THE CALL BEGINS. Each datum BY PROGRAM (the guide's laid-datum.mjs) off the statement by which the dump's own 'gosem.cut.vars' lays the variable. In a bare row this is a premise. The card (YtpjpdomkcabfcaaGreatDoorCards.lean) ties it to the program's text. -/
def laid_worldmint_lexer_kinds {H : Type} : DataW H := .agg [.lit (.int .u8 0), .lit (.int .u8 0), .lit (.int .u8 0), .lit (.int .u8 0), .lit (.int .u8 0), .lit (.int .u8 0), .lit (.int .u8 0), .lit (.int .u8 0), .lit (.int .u8 0), .lit (.int .u8 1), .lit (.int .u8 1), .lit (.int .u8 0), .lit (.int .u8 0), .lit (.int .u8 0), .lit (.int .u8 0), .lit (.int .u8 0), .lit (.int .u8 0), .lit (.int .u8 0), .lit (.int .u8 0), .lit (.int .u8 0), .lit (.int .u8 0), .lit (.int .u8 0), .lit (.int .u8 0), .lit (.int .u8 0), .lit (.int .u8 0), .lit (.int .u8 0), .lit (.int .u8 0), .lit (.int .u8 0), .lit (.int .u8 0), .lit (.int .u8 0), .lit (.int .u8 0), .lit (.int .u8 0), .lit (.int .u8 1), .lit (.int .u8 0), .lit (.int .u8 0), .lit (.int .u8 2), .lit (.int .u8 0), .lit (.int .u8 0), .lit (.int .u8 0), .lit (.int .u8 0), .lit (.int .u8 7), .lit (.int .u8 7), .lit (.int .u8 0), .lit (.int .u8 7), .lit (.int .u8 7), .lit (.int .u8 6), .lit (.int .u8 7), .lit (.int .u8 0), .lit (.int .u8 4), .lit (.int .u8 4), .lit (.int .u8 4), .lit (.int .u8 4), .lit (.int .u8 4), .lit (.int .u8 4), .lit (.int .u8 4), .lit (.int .u8 4), .lit (.int .u8 4), .lit (.int .u8 4), .lit (.int .u8 7), .lit (.int .u8 7), .lit (.int .u8 7), .lit (.int .u8 7), .lit (.int .u8 7), .lit (.int .u8 0), .lit (.int .u8 0), .lit (.int .u8 0), .lit (.int .u8 0), .lit (.int .u8 0), .lit (.int .u8 0), .lit (.int .u8 0), .lit (.int .u8 0), .lit (.int .u8 0), .lit (.int .u8 0), .lit (.int .u8 0), .lit (.int .u8 0), .lit (.int .u8 0), .lit (.int .u8 0), .lit (.int .u8 0), .lit (.int .u8 0), .lit (.int .u8 0), .lit (.int .u8 0), .lit (.int .u8 0), .lit (.int .u8 0), .lit (.int .u8 0), .lit (.int .u8 0), .lit (.int .u8 0), .lit (.int .u8 0), .lit (.int .u8 0), .lit (.int .u8 0), .lit (.int .u8 0), .lit (.int .u8 0), .lit (.int .u8 0), .lit (.int .u8 0), .lit (.int .u8 0), .lit (.int .u8 0), .lit (.int .u8 5), .lit (.int .u8 0), .lit (.int .u8 3), .lit (.int .u8 3), .lit (.int .u8 3), .lit (.int .u8 3), .lit (.int .u8 3), .lit (.int .u8 3), .lit (.int .u8 3), .lit (.int .u8 3), .lit (.int .u8 3), .lit (.int .u8 3), .lit (.int .u8 3), .lit (.int .u8 3), .lit (.int .u8 3), .lit (.int .u8 3), .lit (.int .u8 3), .lit (.int .u8 3), .lit (.int .u8 3), .lit (.int .u8 3), .lit (.int .u8 3), .lit (.int .u8 3), .lit (.int .u8 3), .lit (.int .u8 3), .lit (.int .u8 3), .lit (.int .u8 3), .lit (.int .u8 3), .lit (.int .u8 3), .lit (.int .u8 7), .lit (.int .u8 0), .lit (.int .u8 7), .lit (.int .u8 0), .lit (.int .u8 0)]

/-- 'worldmintlaw17.ObjectBound': WHATEVER THE INPUT: true; the input reads as it did. -/
def objectBoundSpec : ChangeSpec := { name := "objectBound", fn := fun _ => fun
  | [d1, d2, d3] => { results := [.lit (.bool true)], args := [d1, d2, d3] }
  | _ => none }
def objectBoundRow : OpenClaim := { program := "ytpjpdomkcabfcaagreatdoor", sum := "50dc4da9055719258248e319857e4f42ea7569e1d7b88a515675901ef5599dfd", func := "worldmint/worldmintlaw17.ObjectBound", spec := "objectBound", inPlace := ["internal/bytealg.IndexByteString"], unfollowed := true, recurses := true, named := ["worldmint/lexer.kinds"], plainKeys := false, apart := false, laid := [("worldmint/lexer.kinds", laid_worldmint_lexer_kinds)] }
def ObjectBoundSaid : Prop := objectBoundRow.holds Tryz.pinned (OpenSpec.ofChange objectBoundSpec)

/-- ITS FALSE NEIGHBOUR: 'it returns false'. Refute it at one input. -/
def objectBoundWrong : ChangeSpec := { name := "objectBound", fn := fun _ => fun
  | [d1, d2, d3] => { results := [.lit (.bool false)], args := [d1, d2, d3] }
  | _ => none }
def ObjectBoundWrongFalsely : Prop := objectBoundRow.holds Tryz.pinned (OpenSpec.ofChange objectBoundWrong)

/-- 'worldmintlaw17.ObjectArguments': WHATEVER THE INPUT: true; the input reads as it did. -/
def objectArgumentsSpec : ChangeSpec := { name := "objectArguments", fn := fun _ => fun
  | [d1, d2, d3, d4] => { results := [.lit (.bool true)], args := [d1, d2, d3, d4] }
  | _ => none }
def objectArgumentsRow : OpenClaim := { program := "ytpjpdomkcabfcaagreatdoor", sum := "50dc4da9055719258248e319857e4f42ea7569e1d7b88a515675901ef5599dfd", func := "worldmint/worldmintlaw17.ObjectArguments", spec := "objectArguments", inPlace := ["internal/bytealg.IndexByteString"], unfollowed := true, recurses := true, named := ["worldmint/lexer.kinds"], plainKeys := false, apart := false, laid := [("worldmint/lexer.kinds", laid_worldmint_lexer_kinds)] }
def ObjectArgumentsSaid : Prop := objectArgumentsRow.holds Tryz.pinned (OpenSpec.ofChange objectArgumentsSpec)

/-- ITS FALSE NEIGHBOUR: 'it returns false'. Refute it at one input. -/
def objectArgumentsWrong : ChangeSpec := { name := "objectArguments", fn := fun _ => fun
  | [d1, d2, d3, d4] => { results := [.lit (.bool false)], args := [d1, d2, d3, d4] }
  | _ => none }
def ObjectArgumentsWrongFalsely : Prop := objectArgumentsRow.holds Tryz.pinned (OpenSpec.ofChange objectArgumentsWrong)

/-- 'worldmintlaw17.ObjectScripts': WHATEVER THE INPUT: true; the input reads as it did. -/
def objectScriptsSpec : ChangeSpec := { name := "objectScripts", fn := fun _ => fun
  | [d1, d2, d3] => { results := [.lit (.bool true)], args := [d1, d2, d3] }
  | _ => none }
def objectScriptsRow : OpenClaim := { program := "ytpjpdomkcabfcaagreatdoor", sum := "50dc4da9055719258248e319857e4f42ea7569e1d7b88a515675901ef5599dfd", func := "worldmint/worldmintlaw17.ObjectScripts", spec := "objectScripts", inPlace := ["internal/bytealg.IndexByteString"], unfollowed := true, recurses := true, named := ["worldmint/lexer.kinds"], plainKeys := false, apart := false, laid := [("worldmint/lexer.kinds", laid_worldmint_lexer_kinds)] }
def ObjectScriptsSaid : Prop := objectScriptsRow.holds Tryz.pinned (OpenSpec.ofChange objectScriptsSpec)

/-- ITS FALSE NEIGHBOUR: 'it returns false'. Refute it at one input. -/
def objectScriptsWrong : ChangeSpec := { name := "objectScripts", fn := fun _ => fun
  | [d1, d2, d3] => { results := [.lit (.bool false)], args := [d1, d2, d3] }
  | _ => none }
def ObjectScriptsWrongFalsely : Prop := objectScriptsRow.holds Tryz.pinned (OpenSpec.ofChange objectScriptsWrong)

/-- 'worldmintlaw17.ObjectCopies': WHATEVER THE INPUT: true; the input reads as it did. -/
def objectCopiesSpec : ChangeSpec := { name := "objectCopies", fn := fun _ => fun
  | [d1, d2, d3, d4] => { results := [.lit (.bool true)], args := [d1, d2, d3, d4] }
  | _ => none }
def objectCopiesRow : OpenClaim := { program := "ytpjpdomkcabfcaagreatdoor", sum := "50dc4da9055719258248e319857e4f42ea7569e1d7b88a515675901ef5599dfd", func := "worldmint/worldmintlaw17.ObjectCopies", spec := "objectCopies", inPlace := ["internal/bytealg.IndexByteString", "maps.clone"], unfollowed := true, recurses := true, named := ["worldmint/lexer.kinds"], plainKeys := false, apart := false, laid := [("worldmint/lexer.kinds", laid_worldmint_lexer_kinds)] }
def ObjectCopiesSaid : Prop := objectCopiesRow.holds Tryz.pinned (OpenSpec.ofChange objectCopiesSpec)

/-- ITS FALSE NEIGHBOUR: 'it returns false'. Refute it at one input. -/
def objectCopiesWrong : ChangeSpec := { name := "objectCopies", fn := fun _ => fun
  | [d1, d2, d3, d4] => { results := [.lit (.bool false)], args := [d1, d2, d3, d4] }
  | _ => none }
def ObjectCopiesWrongFalsely : Prop := objectCopiesRow.holds Tryz.pinned (OpenSpec.ofChange objectCopiesWrong)

/-- 'worldmintlaw17.ObjectCodes': WHATEVER THE INPUT: true; the input reads as it did. -/
def objectCodesSpec : ChangeSpec := { name := "objectCodes", fn := fun _ => fun
  | [d1, d2, d3, d4, d5, d6] => { results := [.lit (.bool true)], args := [d1, d2, d3, d4, d5, d6] }
  | _ => none }
def objectCodesRow : OpenClaim := { program := "ytpjpdomkcabfcaagreatdoor", sum := "50dc4da9055719258248e319857e4f42ea7569e1d7b88a515675901ef5599dfd", func := "worldmint/worldmintlaw17.ObjectCodes", spec := "objectCodes", inPlace := ["internal/bytealg.IndexByteString"], unfollowed := true, recurses := true, named := ["worldmint/lexer.kinds"], plainKeys := false, apart := false, laid := [("worldmint/lexer.kinds", laid_worldmint_lexer_kinds)] }
def ObjectCodesSaid : Prop := objectCodesRow.holds Tryz.pinned (OpenSpec.ofChange objectCodesSpec)

/-- ITS FALSE NEIGHBOUR: 'it returns false'. Refute it at one input. -/
def objectCodesWrong : ChangeSpec := { name := "objectCodes", fn := fun _ => fun
  | [d1, d2, d3, d4, d5, d6] => { results := [.lit (.bool false)], args := [d1, d2, d3, d4, d5, d6] }
  | _ => none }
def ObjectCodesWrongFalsely : Prop := objectCodesRow.holds Tryz.pinned (OpenSpec.ofChange objectCodesWrong)

/-- 'worldmintlaw17.ObjectConverts': WHATEVER THE INPUT: true; the input reads as it did. -/
def objectConvertsSpec : ChangeSpec := { name := "objectConverts", fn := fun _ => fun
  | [d1, d2, d3, d4, d5] => { results := [.lit (.bool true)], args := [d1, d2, d3, d4, d5] }
  | _ => none }
def objectConvertsRow : OpenClaim := { program := "ytpjpdomkcabfcaagreatdoor", sum := "50dc4da9055719258248e319857e4f42ea7569e1d7b88a515675901ef5599dfd", func := "worldmint/worldmintlaw17.ObjectConverts", spec := "objectConverts", inPlace := ["internal/bytealg.IndexByteString"], unfollowed := true, recurses := true, named := ["worldmint/lexer.kinds", "math/bits.divideError", "math/bits.overflowError"], plainKeys := false, apart := false, laid := [("worldmint/lexer.kinds", laid_worldmint_lexer_kinds)] }
def ObjectConvertsSaid : Prop := objectConvertsRow.holds Tryz.pinned (OpenSpec.ofChange objectConvertsSpec)

/-- ITS FALSE NEIGHBOUR: 'it returns false'. Refute it at one input. -/
def objectConvertsWrong : ChangeSpec := { name := "objectConverts", fn := fun _ => fun
  | [d1, d2, d3, d4, d5] => { results := [.lit (.bool false)], args := [d1, d2, d3, d4, d5] }
  | _ => none }
def ObjectConvertsWrongFalsely : Prop := objectConvertsRow.holds Tryz.pinned (OpenSpec.ofChange objectConvertsWrong)

/- THE SECOND FORM. 'bulk': how many values and letters a reading holds, each counted each time it is reached (what is shared counts as often as it is met; a slice's spare places count too). A statement '..UptoSaid' is the law's where the arguments, and the package variables that the reading takes, are together of bulk at most 1048576: NARROWER than '..Said'. Prove '..Said' where nothing that the law and all that it calls make is longer than what came in: it says more and counts as full. Else prove '..UptoSaid'. A law counts once. -/
mutual
def uptoBulk {H : Type} : DataW H → Nat
  | .lit (.string bytes) => bytes.length + 1
  | .lit _ => 1
  | .nil => 1
  | .ptr d => uptoBulk d + 1
  | .slice elems spare => uptoBulkAll elems + uptoBulkAll spare + 1
  | .agg parts => uptoBulkAll parts + 1
  | .iface _ d => uptoBulk d + 1
  | .map entries => uptoBulkEntries entries + 1
  | .held _ => 1
def uptoBulkAll {H : Type} : List (DataW H) → Nat
  | [] => 0
  | d :: r => uptoBulk d + uptoBulkAll r
def uptoBulkEntries {H : Type} : List (Lit × DataW H) → Nat
  | [] => 0
  | x :: r => uptoBulkEntry x + uptoBulkEntries r
def uptoBulkEntry {H : Type} : Lit × DataW H → Nat
  | (.string bytes, d) => bytes.length + uptoBulk d + 1
  | (_, d) => uptoBulk d + 1
 end
def uptoSmall : (H : Type) → List (DataW H) → Bool := fun _ ds => decide (uptoBulkAll ds ≤ 1048576)
def OpenSpec.upto (s : _root_.Go.ChangeSpec) : _root_.Go.OpenSpec := { _root_.Go.OpenSpec.ofChange s with cond := some uptoSmall }

/-- 'worldmintlaw17.ObjectBound', WHERE WHAT IT READS IS OF BULK AT MOST 1048576: true; the input reads as it did. -/
def objectBoundUptoRow : OpenClaim := { program := "ytpjpdomkcabfcaagreatdoor", sum := "50dc4da9055719258248e319857e4f42ea7569e1d7b88a515675901ef5599dfd", func := "worldmint/worldmintlaw17.ObjectBound", spec := "objectBound", inPlace := ["internal/bytealg.IndexByteString"], unfollowed := true, recurses := true, named := ["worldmint/lexer.kinds"], plainKeys := false, apart := false, laid := [("worldmint/lexer.kinds", laid_worldmint_lexer_kinds)], narrowed := true }
def ObjectBoundUptoSaid : Prop := objectBoundUptoRow.holds Tryz.pinned (OpenSpec.upto objectBoundSpec)

/-- 'worldmintlaw17.ObjectArguments', WHERE WHAT IT READS IS OF BULK AT MOST 1048576: true; the input reads as it did. -/
def objectArgumentsUptoRow : OpenClaim := { program := "ytpjpdomkcabfcaagreatdoor", sum := "50dc4da9055719258248e319857e4f42ea7569e1d7b88a515675901ef5599dfd", func := "worldmint/worldmintlaw17.ObjectArguments", spec := "objectArguments", inPlace := ["internal/bytealg.IndexByteString"], unfollowed := true, recurses := true, named := ["worldmint/lexer.kinds"], plainKeys := false, apart := false, laid := [("worldmint/lexer.kinds", laid_worldmint_lexer_kinds)], narrowed := true }
def ObjectArgumentsUptoSaid : Prop := objectArgumentsUptoRow.holds Tryz.pinned (OpenSpec.upto objectArgumentsSpec)

/-- 'worldmintlaw17.ObjectScripts', WHERE WHAT IT READS IS OF BULK AT MOST 1048576: true; the input reads as it did. -/
def objectScriptsUptoRow : OpenClaim := { program := "ytpjpdomkcabfcaagreatdoor", sum := "50dc4da9055719258248e319857e4f42ea7569e1d7b88a515675901ef5599dfd", func := "worldmint/worldmintlaw17.ObjectScripts", spec := "objectScripts", inPlace := ["internal/bytealg.IndexByteString"], unfollowed := true, recurses := true, named := ["worldmint/lexer.kinds"], plainKeys := false, apart := false, laid := [("worldmint/lexer.kinds", laid_worldmint_lexer_kinds)], narrowed := true }
def ObjectScriptsUptoSaid : Prop := objectScriptsUptoRow.holds Tryz.pinned (OpenSpec.upto objectScriptsSpec)

/-- 'worldmintlaw17.ObjectCopies', WHERE WHAT IT READS IS OF BULK AT MOST 1048576: true; the input reads as it did. -/
def objectCopiesUptoRow : OpenClaim := { program := "ytpjpdomkcabfcaagreatdoor", sum := "50dc4da9055719258248e319857e4f42ea7569e1d7b88a515675901ef5599dfd", func := "worldmint/worldmintlaw17.ObjectCopies", spec := "objectCopies", inPlace := ["internal/bytealg.IndexByteString", "maps.clone"], unfollowed := true, recurses := true, named := ["worldmint/lexer.kinds"], plainKeys := false, apart := false, laid := [("worldmint/lexer.kinds", laid_worldmint_lexer_kinds)], narrowed := true }
def ObjectCopiesUptoSaid : Prop := objectCopiesUptoRow.holds Tryz.pinned (OpenSpec.upto objectCopiesSpec)

/-- 'worldmintlaw17.ObjectCodes', WHERE WHAT IT READS IS OF BULK AT MOST 1048576: true; the input reads as it did. -/
def objectCodesUptoRow : OpenClaim := { program := "ytpjpdomkcabfcaagreatdoor", sum := "50dc4da9055719258248e319857e4f42ea7569e1d7b88a515675901ef5599dfd", func := "worldmint/worldmintlaw17.ObjectCodes", spec := "objectCodes", inPlace := ["internal/bytealg.IndexByteString"], unfollowed := true, recurses := true, named := ["worldmint/lexer.kinds"], plainKeys := false, apart := false, laid := [("worldmint/lexer.kinds", laid_worldmint_lexer_kinds)], narrowed := true }
def ObjectCodesUptoSaid : Prop := objectCodesUptoRow.holds Tryz.pinned (OpenSpec.upto objectCodesSpec)

/-- 'worldmintlaw17.ObjectConverts', WHERE WHAT IT READS IS OF BULK AT MOST 1048576: true; the input reads as it did. -/
def objectConvertsUptoRow : OpenClaim := { program := "ytpjpdomkcabfcaagreatdoor", sum := "50dc4da9055719258248e319857e4f42ea7569e1d7b88a515675901ef5599dfd", func := "worldmint/worldmintlaw17.ObjectConverts", spec := "objectConverts", inPlace := ["internal/bytealg.IndexByteString"], unfollowed := true, recurses := true, named := ["worldmint/lexer.kinds", "math/bits.divideError", "math/bits.overflowError"], plainKeys := false, apart := false, laid := [("worldmint/lexer.kinds", laid_worldmint_lexer_kinds)], narrowed := true }
def ObjectConvertsUptoSaid : Prop := objectConvertsUptoRow.holds Tryz.pinned (OpenSpec.upto objectConvertsSpec)

end Rows
end Go.Proofs.YtpjpdomkcabfcaaGreatDoor
