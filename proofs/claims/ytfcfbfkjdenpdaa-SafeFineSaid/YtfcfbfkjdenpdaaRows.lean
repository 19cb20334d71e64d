/-
  No cell of these rows narrows 'for every input' (looked for: loops, veiled, ifaces, maps, wideKeys, modest, calm, conditions, laid).
  DERIVED. THE GIVEN ROWS OF THIS SEAT. 5 by the template 'for every input the law returns true; each argument reads behind the call as it read before'; 0 by the template 'total and deterministic' (their statements: YtfcfbfkjdenpdaaTotals.lean).
  GIVEN WITH THE SEED: the statements are not yours to turn. If you find one false, say at which input.
  Laid BY PROGRAM, IN A SANDBOX (cutbox-rows.mjs): the forced cells as the released guide's own fill.sh prints them over the translation 4dcbc73dc5f2dfb8… (all of the seat's roots in one cut). By AI agents, Wed Nov 11 2026. No macro, syntax, notation, axiom, sorry.
-/
import Derived.Test.YtfcfbfkjdenpdaaChecked
import GoSem.Claim
import GoSem.ClaimJoined
import GoSem.ClaimMapViews
import Derived.JoinedTies
import Derived.KernelRfl
namespace Go.Proofs.Ytfcfbfkjdenpdaa
/- THE CELL 'sum', in the pinned program and in every row, IS THE sha256 OF THE DUMP (.gsa) THAT YtfcfbfkjdenpdaaProg.lean LOADS. Nothing in Lean hashes anything: it is a label: what it is worth is what the hold of that sum in a sandbox is worth. -/
noncomputable def Try.pinned : Pinned := { name := "ytfcfbfkjdenpdaa", sum := "4dcbc73dc5f2dfb82fcc4702c1ac851f2cb4481623975117c27a7472e6ba6daf", checked := Try.checked }
namespace Rows
def none {H : Type} : Left H := { results := [], args := [] }

/-- 'worldmintlaw21.SafePots': WHATEVER THE INPUT: true; the input reads as it did. -/
def safePotsSpec : ChangeSpec := { name := "safePots", fn := fun _ => fun
  | [d1, d2, d3, d4] => { results := [.lit (.bool true)], args := [d1, d2, d3, d4] }
  | _ => none }
def safePotsRow : OpenClaim := { program := "ytfcfbfkjdenpdaa", sum := "4dcbc73dc5f2dfb82fcc4702c1ac851f2cb4481623975117c27a7472e6ba6daf", func := "worldmint/worldmintlaw21.SafePots", spec := "safePots", unfollowed := true, recurses := true, apart := false }
def SafePotsSaid : Prop := safePotsRow.holds Try.pinned (OpenSpec.ofChange safePotsSpec)

/-- ITS FALSE NEIGHBOUR: 'it returns false'. Refute it at one input. -/
def safePotsWrong : ChangeSpec := { name := "safePots", fn := fun _ => fun
  | [d1, d2, d3, d4] => { results := [.lit (.bool false)], args := [d1, d2, d3, d4] }
  | _ => none }
def SafePotsWrongFalsely : Prop := safePotsRow.holds Try.pinned (OpenSpec.ofChange safePotsWrong)

/-- 'worldmintlaw21.SafeChecks': WHATEVER THE INPUT: true; the input reads as it did. -/
def safeChecksSpec : ChangeSpec := { name := "safeChecks", fn := fun _ => fun
  | [d1, d2, d3, d4] => { results := [.lit (.bool true)], args := [d1, d2, d3, d4] }
  | _ => none }
def safeChecksRow : OpenClaim := { program := "ytfcfbfkjdenpdaa", sum := "4dcbc73dc5f2dfb82fcc4702c1ac851f2cb4481623975117c27a7472e6ba6daf", func := "worldmint/worldmintlaw21.SafeChecks", spec := "safeChecks", unfollowed := true, recurses := true, apart := false }
def SafeChecksSaid : Prop := safeChecksRow.holds Try.pinned (OpenSpec.ofChange safeChecksSpec)

/-- ITS FALSE NEIGHBOUR: 'it returns false'. Refute it at one input. -/
def safeChecksWrong : ChangeSpec := { name := "safeChecks", fn := fun _ => fun
  | [d1, d2, d3, d4] => { results := [.lit (.bool false)], args := [d1, d2, d3, d4] }
  | _ => none }
def SafeChecksWrongFalsely : Prop := safeChecksRow.holds Try.pinned (OpenSpec.ofChange safeChecksWrong)

/-- 'worldmintlaw21.SafeReaches': WHATEVER THE INPUT: true; the input reads as it did. -/
def safeReachesSpec : ChangeSpec := { name := "safeReaches", fn := fun _ => fun
  | [d1, d2, d3, d4] => { results := [.lit (.bool true)], args := [d1, d2, d3, d4] }
  | _ => none }
def safeReachesRow : OpenClaim := { program := "ytfcfbfkjdenpdaa", sum := "4dcbc73dc5f2dfb82fcc4702c1ac851f2cb4481623975117c27a7472e6ba6daf", func := "worldmint/worldmintlaw21.SafeReaches", spec := "safeReaches", unfollowed := true, recurses := true, apart := false }
def SafeReachesSaid : Prop := safeReachesRow.holds Try.pinned (OpenSpec.ofChange safeReachesSpec)

/-- ITS FALSE NEIGHBOUR: 'it returns false'. Refute it at one input. -/
def safeReachesWrong : ChangeSpec := { name := "safeReaches", fn := fun _ => fun
  | [d1, d2, d3, d4] => { results := [.lit (.bool false)], args := [d1, d2, d3, d4] }
  | _ => none }
def SafeReachesWrongFalsely : Prop := safeReachesRow.holds Try.pinned (OpenSpec.ofChange safeReachesWrong)

/-- 'worldmintlaw21.SafeOutcomes': WHATEVER THE INPUT: true; the input reads as it did. -/
def safeOutcomesSpec : ChangeSpec := { name := "safeOutcomes", fn := fun _ => fun
  | [d1, d2, d3, d4] => { results := [.lit (.bool true)], args := [d1, d2, d3, d4] }
  | _ => none }
def safeOutcomesRow : OpenClaim := { program := "ytfcfbfkjdenpdaa", sum := "4dcbc73dc5f2dfb82fcc4702c1ac851f2cb4481623975117c27a7472e6ba6daf", func := "worldmint/worldmintlaw21.SafeOutcomes", spec := "safeOutcomes", unfollowed := true, recurses := true, apart := false }
def SafeOutcomesSaid : Prop := safeOutcomesRow.holds Try.pinned (OpenSpec.ofChange safeOutcomesSpec)

/-- ITS FALSE NEIGHBOUR: 'it returns false'. Refute it at one input. -/
def safeOutcomesWrong : ChangeSpec := { name := "safeOutcomes", fn := fun _ => fun
  | [d1, d2, d3, d4] => { results := [.lit (.bool false)], args := [d1, d2, d3, d4] }
  | _ => none }
def SafeOutcomesWrongFalsely : Prop := safeOutcomesRow.holds Try.pinned (OpenSpec.ofChange safeOutcomesWrong)

/-- 'worldmintlaw21.SafeFine': WHATEVER THE INPUT: true; the input reads as it did. -/
def safeFineSpec : ChangeSpec := { name := "safeFine", fn := fun _ => fun
  | [d] => { results := [.lit (.bool true)], args := [d] }
  | _ => none }
def safeFineRow : OpenClaim := { program := "ytfcfbfkjdenpdaa", sum := "4dcbc73dc5f2dfb82fcc4702c1ac851f2cb4481623975117c27a7472e6ba6daf", func := "worldmint/worldmintlaw21.SafeFine", spec := "safeFine", unfollowed := true, recurses := true, apart := false }
def SafeFineSaid : Prop := safeFineRow.holds Try.pinned (OpenSpec.ofChange safeFineSpec)

/-- ITS FALSE NEIGHBOUR: 'it returns false'. Refute it at one input. -/
def safeFineWrong : ChangeSpec := { name := "safeFine", fn := fun _ => fun
  | [d] => { results := [.lit (.bool false)], args := [d] }
  | _ => none }
def SafeFineWrongFalsely : Prop := safeFineRow.holds Try.pinned (OpenSpec.ofChange safeFineWrong)

/- THE SECOND FORM. 'bulk': how many values and letters a reading holds, each counted each time it is reached (what is shared counts as often as it is met; a slice's spare places count too). A statement '..UptoSaid' is the law's where the arguments, and the package variables that the reading takes, are together of bulk at most 1048576: NARROWER than '..Said'. Prove '..Said' where nothing that the law and all that it calls make is longer than what came in: it says more and counts as full. Else prove '..UptoSaid'. A law counts once. -/
mutual
def uptoBulk {H : Type} : DataW H → Nat
  | .lit (.string bytes) => bytes.length + 1
  | .lit _ => 1
  | .nil => 1
  | .ptr d => uptoBulk d + 1
  | .slice elems spare => uptoBulkAll elems + uptoBulkAll spare + 1
  | .agg parts => uptoBulkAll parts + 1
  | .iface _ d => uptoBulk d + 1
  | .map entries => uptoBulkEntries entries + 1
  | .held _ => 1
def uptoBulkAll {H : Type} : List (DataW H) → Nat
  | [] => 0
  | d :: r => uptoBulk d + uptoBulkAll r
def uptoBulkEntries {H : Type} : List (Lit × DataW H) → Nat
  | [] => 0
  | x :: r => uptoBulkEntry x + uptoBulkEntries r
def uptoBulkEntry {H : Type} : Lit × DataW H → Nat
  | (.string bytes, d) => bytes.length + uptoBulk d + 1
  | (_, d) => uptoBulk d + 1
 end
def uptoSmall : (H : Type) → List (DataW H) → Bool := fun _ ds => decide (uptoBulkAll ds ≤ 1048576)
def OpenSpec.upto (s : _root_.Go.ChangeSpec) : _root_.Go.OpenSpec := { _root_.Go.OpenSpec.ofChange s with cond := some uptoSmall }

/-- 'worldmintlaw21.SafePots', WHERE WHAT IT READS IS OF BULK AT MOST 1048576: true; the input reads as it did. -/
def safePotsUptoRow : OpenClaim := { program := "ytfcfbfkjdenpdaa", sum := "4dcbc73dc5f2dfb82fcc4702c1ac851f2cb4481623975117c27a7472e6ba6daf", func := "worldmint/worldmintlaw21.SafePots", spec := "safePots", unfollowed := true, recurses := true, apart := false, narrowed := true }
def SafePotsUptoSaid : Prop := safePotsUptoRow.holds Try.pinned (OpenSpec.upto safePotsSpec)

/-- 'worldmintlaw21.SafeChecks', WHERE WHAT IT READS IS OF BULK AT MOST 1048576: true; the input reads as it did. -/
def safeChecksUptoRow : OpenClaim := { program := "ytfcfbfkjdenpdaa", sum := "4dcbc73dc5f2dfb82fcc4702c1ac851f2cb4481623975117c27a7472e6ba6daf", func := "worldmint/worldmintlaw21.SafeChecks", spec := "safeChecks", unfollowed := true, recurses := true, apart := false, narrowed := true }
def SafeChecksUptoSaid : Prop := safeChecksUptoRow.holds Try.pinned (OpenSpec.upto safeChecksSpec)

/-- 'worldmintlaw21.SafeReaches', WHERE WHAT IT READS IS OF BULK AT MOST 1048576: true; the input reads as it did. -/
def safeReachesUptoRow : OpenClaim := { program := "ytfcfbfkjdenpdaa", sum := "4dcbc73dc5f2dfb82fcc4702c1ac851f2cb4481623975117c27a7472e6ba6daf", func := "worldmint/worldmintlaw21.SafeReaches", spec := "safeReaches", unfollowed := true, recurses := true, apart := false, narrowed := true }
def SafeReachesUptoSaid : Prop := safeReachesUptoRow.holds Try.pinned (OpenSpec.upto safeReachesSpec)

/-- 'worldmintlaw21.SafeOutcomes', WHERE WHAT IT READS IS OF BULK AT MOST 1048576: true; the input reads as it did. -/
def safeOutcomesUptoRow : OpenClaim := { program := "ytfcfbfkjdenpdaa", sum := "4dcbc73dc5f2dfb82fcc4702c1ac851f2cb4481623975117c27a7472e6ba6daf", func := "worldmint/worldmintlaw21.SafeOutcomes", spec := "safeOutcomes", unfollowed := true, recurses := true, apart := false, narrowed := true }
def SafeOutcomesUptoSaid : Prop := safeOutcomesUptoRow.holds Try.pinned (OpenSpec.upto safeOutcomesSpec)

/-- 'worldmintlaw21.SafeFine', WHERE WHAT IT READS IS OF BULK AT MOST 1048576: true; the input reads as it did. -/
def safeFineUptoRow : OpenClaim := { program := "ytfcfbfkjdenpdaa", sum := "4dcbc73dc5f2dfb82fcc4702c1ac851f2cb4481623975117c27a7472e6ba6daf", func := "worldmint/worldmintlaw21.SafeFine", spec := "safeFine", unfollowed := true, recurses := true, apart := false, narrowed := true }
def SafeFineUptoSaid : Prop := safeFineUptoRow.holds Try.pinned (OpenSpec.upto safeFineSpec)

end Rows
end Go.Proofs.Ytfcfbfkjdenpdaa
