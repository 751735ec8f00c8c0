/-
  No cell of these rows narrows 'for every input' (looked for: loops, veiled, ifaces, maps, wideKeys, modest, calm, conditions, laid).
  DERIVED. THE GIVEN ROWS OF THIS SEAT. 5 by the template 'for every input the law returns true; each argument reads behind the call as it read before'; 0 by the template 'total and deterministic' (their statements: YtegeelldcomnnaaTotals.lean).
  GIVEN WITH THE SEED: the statements are not yours to turn. If you find one false, say at which input.
  Laid BY PROGRAM, IN A SANDBOX (cutbox-rows.mjs): the forced cells as the released guide's own fill.sh prints them over the translation 6db7325d5723c11d… (all of the seat's roots in one cut). By AI agents, Wed Nov 11 2026. No macro, syntax, notation, axiom, sorry.
-/
import Derived.Test.YtegeelldcomnnaaChecked
import GoSem.Claim
import GoSem.ClaimJoined
import GoSem.ClaimMapViews
import Derived.JoinedTies
import Derived.KernelRfl
namespace Go.Proofs.Ytegeelldcomnnaa
/- THE CELL 'sum', in the pinned program and in every row, IS THE sha256 OF THE DUMP (.gsa) THAT YtegeelldcomnnaaProg.lean LOADS. Nothing in Lean hashes anything: it is a label: what it is worth is what the hold of that sum in a sandbox is worth. -/
noncomputable def Try.pinned : Pinned := { name := "ytegeelldcomnnaa", sum := "6db7325d5723c11dfb1502c5aa46de7980c2093a9b93cfad9b79d8e484bbf698", checked := Try.checked }
namespace Rows
def none {H : Type} : Left H := { results := [], args := [] }

/-- 'laws.FnExactTreeDifference': WHATEVER THE INPUT: true; the input reads as it did. -/
def fnExactTreeDifferenceSpec : ChangeSpec := { name := "fnExactTreeDifference", fn := fun _ => fun
  | [d1, d2] => { results := [.lit (.bool true)], args := [d1, d2] }
  | _ => none }
def fnExactTreeDifferenceRow : OpenClaim := { program := "ytegeelldcomnnaa", sum := "6db7325d5723c11dfb1502c5aa46de7980c2093a9b93cfad9b79d8e484bbf698", func := "loop.example/g01056/laws.FnExactTreeDifference", spec := "fnExactTreeDifference", unfollowed := true, recurses := true, apart := false }
def FnExactTreeDifferenceSaid : Prop := fnExactTreeDifferenceRow.holds Try.pinned (OpenSpec.ofChange fnExactTreeDifferenceSpec)

/-- ITS FALSE NEIGHBOUR: 'it returns false'. Refute it at one input. -/
def fnExactTreeDifferenceWrong : ChangeSpec := { name := "fnExactTreeDifference", fn := fun _ => fun
  | [d1, d2] => { results := [.lit (.bool false)], args := [d1, d2] }
  | _ => none }
def FnExactTreeDifferenceWrongFalsely : Prop := fnExactTreeDifferenceRow.holds Try.pinned (OpenSpec.ofChange fnExactTreeDifferenceWrong)

/-- 'laws.FnMetrics': WHATEVER THE INPUT: true; the input reads as it did. -/
def fnMetricsSpec : ChangeSpec := { name := "fnMetrics", fn := fun _ => fun
  | [d1, d2] => { results := [.lit (.bool true)], args := [d1, d2] }
  | _ => none }
def fnMetricsRow : OpenClaim := { program := "ytegeelldcomnnaa", sum := "6db7325d5723c11dfb1502c5aa46de7980c2093a9b93cfad9b79d8e484bbf698", func := "loop.example/g01056/laws.FnMetrics", spec := "fnMetrics", unfollowed := true, recurses := true, apart := false }
def FnMetricsSaid : Prop := fnMetricsRow.holds Try.pinned (OpenSpec.ofChange fnMetricsSpec)

/-- ITS FALSE NEIGHBOUR: 'it returns false'. Refute it at one input. -/
def fnMetricsWrong : ChangeSpec := { name := "fnMetrics", fn := fun _ => fun
  | [d1, d2] => { results := [.lit (.bool false)], args := [d1, d2] }
  | _ => none }
def FnMetricsWrongFalsely : Prop := fnMetricsRow.holds Try.pinned (OpenSpec.ofChange fnMetricsWrong)

/-- 'laws.FnTreeMetrics': WHATEVER THE INPUT: true; the input reads as it did. -/
def fnTreeMetricsSpec : ChangeSpec := { name := "fnTreeMetrics", fn := fun _ => fun
  | [d1, d2] => { results := [.lit (.bool true)], args := [d1, d2] }
  | _ => none }
def fnTreeMetricsRow : OpenClaim := { program := "ytegeelldcomnnaa", sum := "6db7325d5723c11dfb1502c5aa46de7980c2093a9b93cfad9b79d8e484bbf698", func := "loop.example/g01056/laws.FnTreeMetrics", spec := "fnTreeMetrics", unfollowed := true, recurses := true, apart := false }
def FnTreeMetricsSaid : Prop := fnTreeMetricsRow.holds Try.pinned (OpenSpec.ofChange fnTreeMetricsSpec)

/-- ITS FALSE NEIGHBOUR: 'it returns false'. Refute it at one input. -/
def fnTreeMetricsWrong : ChangeSpec := { name := "fnTreeMetrics", fn := fun _ => fun
  | [d1, d2] => { results := [.lit (.bool false)], args := [d1, d2] }
  | _ => none }
def FnTreeMetricsWrongFalsely : Prop := fnTreeMetricsRow.holds Try.pinned (OpenSpec.ofChange fnTreeMetricsWrong)

/-- 'laws.FnProjects': WHATEVER THE INPUT: true; the input reads as it did. -/
def fnProjectsSpec : ChangeSpec := { name := "fnProjects", fn := fun _ => fun
  | [d1, d2] => { results := [.lit (.bool true)], args := [d1, d2] }
  | _ => none }
def fnProjectsRow : OpenClaim := { program := "ytegeelldcomnnaa", sum := "6db7325d5723c11dfb1502c5aa46de7980c2093a9b93cfad9b79d8e484bbf698", func := "loop.example/g01056/laws.FnProjects", spec := "fnProjects", unfollowed := true, recurses := true, apart := false }
def FnProjectsSaid : Prop := fnProjectsRow.holds Try.pinned (OpenSpec.ofChange fnProjectsSpec)

/-- ITS FALSE NEIGHBOUR: 'it returns false'. Refute it at one input. -/
def fnProjectsWrong : ChangeSpec := { name := "fnProjects", fn := fun _ => fun
  | [d1, d2] => { results := [.lit (.bool false)], args := [d1, d2] }
  | _ => none }
def FnProjectsWrongFalsely : Prop := fnProjectsRow.holds Try.pinned (OpenSpec.ofChange fnProjectsWrong)

/-- 'laws.FnFloats': WHATEVER THE INPUT: true; the input reads as it did. -/
def fnFloatsSpec : ChangeSpec := { name := "fnFloats", fn := fun _ => fun
  | [d1, d2] => { results := [.lit (.bool true)], args := [d1, d2] }
  | _ => none }
def fnFloatsRow : OpenClaim := { program := "ytegeelldcomnnaa", sum := "6db7325d5723c11dfb1502c5aa46de7980c2093a9b93cfad9b79d8e484bbf698", func := "loop.example/g01056/laws.FnFloats", spec := "fnFloats", unfollowed := true, recurses := true, apart := false }
def FnFloatsSaid : Prop := fnFloatsRow.holds Try.pinned (OpenSpec.ofChange fnFloatsSpec)

/-- ITS FALSE NEIGHBOUR: 'it returns false'. Refute it at one input. -/
def fnFloatsWrong : ChangeSpec := { name := "fnFloats", fn := fun _ => fun
  | [d1, d2] => { results := [.lit (.bool false)], args := [d1, d2] }
  | _ => none }
def FnFloatsWrongFalsely : Prop := fnFloatsRow.holds Try.pinned (OpenSpec.ofChange fnFloatsWrong)

/- THE SECOND FORM. 'bulk': how many values and letters a reading holds, each counted each time it is reached (what is shared counts as often as it is met; a slice's spare places count too). A statement '..UptoSaid' is the law's where the arguments, and the package variables that the reading takes, are together of bulk at most 1048576: NARROWER than '..Said'. Prove '..Said' where nothing that the law and all that it calls make is longer than what came in: it says more and counts as full. Else prove '..UptoSaid'. A law counts once. -/
mutual
def uptoBulk {H : Type} : DataW H → Nat
  | .lit (.string bytes) => bytes.length + 1
  | .lit _ => 1
  | .nil => 1
  | .ptr d => uptoBulk d + 1
  | .slice elems spare => uptoBulkAll elems + uptoBulkAll spare + 1
  | .agg parts => uptoBulkAll parts + 1
  | .iface _ d => uptoBulk d + 1
  | .map entries => uptoBulkEntries entries + 1
  | .held _ => 1
def uptoBulkAll {H : Type} : List (DataW H) → Nat
  | [] => 0
  | d :: r => uptoBulk d + uptoBulkAll r
def uptoBulkEntries {H : Type} : List (Lit × DataW H) → Nat
  | [] => 0
  | x :: r => uptoBulkEntry x + uptoBulkEntries r
def uptoBulkEntry {H : Type} : Lit × DataW H → Nat
  | (.string bytes, d) => bytes.length + uptoBulk d + 1
  | (_, d) => uptoBulk d + 1
 end
def uptoSmall : (H : Type) → List (DataW H) → Bool := fun _ ds => decide (uptoBulkAll ds ≤ 1048576)
def OpenSpec.upto (s : _root_.Go.ChangeSpec) : _root_.Go.OpenSpec := { _root_.Go.OpenSpec.ofChange s with cond := some uptoSmall }

/-- 'laws.FnExactTreeDifference', WHERE WHAT IT READS IS OF BULK AT MOST 1048576: true; the input reads as it did. -/
def fnExactTreeDifferenceUptoRow : OpenClaim := { program := "ytegeelldcomnnaa", sum := "6db7325d5723c11dfb1502c5aa46de7980c2093a9b93cfad9b79d8e484bbf698", func := "loop.example/g01056/laws.FnExactTreeDifference", spec := "fnExactTreeDifference", unfollowed := true, recurses := true, apart := false, narrowed := true }
def FnExactTreeDifferenceUptoSaid : Prop := fnExactTreeDifferenceUptoRow.holds Try.pinned (OpenSpec.upto fnExactTreeDifferenceSpec)

/-- 'laws.FnMetrics', WHERE WHAT IT READS IS OF BULK AT MOST 1048576: true; the input reads as it did. -/
def fnMetricsUptoRow : OpenClaim := { program := "ytegeelldcomnnaa", sum := "6db7325d5723c11dfb1502c5aa46de7980c2093a9b93cfad9b79d8e484bbf698", func := "loop.example/g01056/laws.FnMetrics", spec := "fnMetrics", unfollowed := true, recurses := true, apart := false, narrowed := true }
def FnMetricsUptoSaid : Prop := fnMetricsUptoRow.holds Try.pinned (OpenSpec.upto fnMetricsSpec)

/-- 'laws.FnTreeMetrics', WHERE WHAT IT READS IS OF BULK AT MOST 1048576: true; the input reads as it did. -/
def fnTreeMetricsUptoRow : OpenClaim := { program := "ytegeelldcomnnaa", sum := "6db7325d5723c11dfb1502c5aa46de7980c2093a9b93cfad9b79d8e484bbf698", func := "loop.example/g01056/laws.FnTreeMetrics", spec := "fnTreeMetrics", unfollowed := true, recurses := true, apart := false, narrowed := true }
def FnTreeMetricsUptoSaid : Prop := fnTreeMetricsUptoRow.holds Try.pinned (OpenSpec.upto fnTreeMetricsSpec)

/-- 'laws.FnProjects', WHERE WHAT IT READS IS OF BULK AT MOST 1048576: true; the input reads as it did. -/
def fnProjectsUptoRow : OpenClaim := { program := "ytegeelldcomnnaa", sum := "6db7325d5723c11dfb1502c5aa46de7980c2093a9b93cfad9b79d8e484bbf698", func := "loop.example/g01056/laws.FnProjects", spec := "fnProjects", unfollowed := true, recurses := true, apart := false, narrowed := true }
def FnProjectsUptoSaid : Prop := fnProjectsUptoRow.holds Try.pinned (OpenSpec.upto fnProjectsSpec)

/-- 'laws.FnFloats', WHERE WHAT IT READS IS OF BULK AT MOST 1048576: true; the input reads as it did. -/
def fnFloatsUptoRow : OpenClaim := { program := "ytegeelldcomnnaa", sum := "6db7325d5723c11dfb1502c5aa46de7980c2093a9b93cfad9b79d8e484bbf698", func := "loop.example/g01056/laws.FnFloats", spec := "fnFloats", unfollowed := true, recurses := true, apart := false, narrowed := true }
def FnFloatsUptoSaid : Prop := fnFloatsUptoRow.holds Try.pinned (OpenSpec.upto fnFloatsSpec)

end Rows
end Go.Proofs.Ytegeelldcomnnaa
