/-
  No cell of these rows narrows 'for every input' (looked for: loops, veiled, ifaces, maps, wideKeys, modest, calm, conditions, laid).
  DERIVED. THE GIVEN ROWS OF THIS SEAT. 9 by the template 'for every input the law returns true; each argument reads behind the call as it read before'; 0 by the template 'total and deterministic' (their statements: YtjgnmpoccmmpjaaTotals.lean).
  GIVEN WITH THE SEED: the statements are not yours to turn. If you find one false, say at which input.
  Laid BY PROGRAM, IN A SANDBOX (cutbox-rows.mjs): the forced cells as the released guide's own fill.sh prints them over the translation 649067906566f148… (all of the seat's roots in one cut). By AI agents, Wed Nov 11 2026. No macro, syntax, notation, axiom, sorry.
-/
import Derived.Test.YtjgnmpoccmmpjaaChecked
import GoSem.Claim
import GoSem.ClaimJoined
import GoSem.ClaimMapViews
import Derived.JoinedTies
import Derived.KernelRfl
namespace Go.Proofs.Ytjgnmpoccmmpjaa
/- THE CELL 'sum', in the pinned program and in every row, IS THE sha256 OF THE DUMP (.gsa) THAT YtjgnmpoccmmpjaaProg.lean LOADS. Nothing in Lean hashes anything: it is a label: what it is worth is what the hold of that sum in a sandbox is worth. -/
noncomputable def Try.pinned : Pinned := { name := "ytjgnmpoccmmpjaa", sum := "649067906566f148f997b674d1b34782403cf7fee9722176779b27ac435f3ade", checked := Try.checked }
namespace Rows
def none {H : Type} : Left H := { results := [], args := [] }

/-- 'laws.FnExactIsSplit': WHATEVER THE INPUT: true; the input reads as it did. -/
def fnExactIsSplitSpec : ChangeSpec := { name := "fnExactIsSplit", fn := fun _ => fun
  | [d1, d2] => { results := [.lit (.bool true)], args := [d1, d2] }
  | _ => none }
def fnExactIsSplitRow : OpenClaim := { program := "ytjgnmpoccmmpjaa", sum := "649067906566f148f997b674d1b34782403cf7fee9722176779b27ac435f3ade", func := "loop.example/g01056/laws.FnExactIsSplit", spec := "fnExactIsSplit", apart := false }
def FnExactIsSplitSaid : Prop := fnExactIsSplitRow.holds Try.pinned (OpenSpec.ofChange fnExactIsSplitSpec)

/-- ITS FALSE NEIGHBOUR: 'it returns false'. Refute it at one input. -/
def fnExactIsSplitWrong : ChangeSpec := { name := "fnExactIsSplit", fn := fun _ => fun
  | [d1, d2] => { results := [.lit (.bool false)], args := [d1, d2] }
  | _ => none }
def FnExactIsSplitWrongFalsely : Prop := fnExactIsSplitRow.holds Try.pinned (OpenSpec.ofChange fnExactIsSplitWrong)

/-- 'laws.FnExactAreCompatible': WHATEVER THE INPUT: true; the input reads as it did. -/
def fnExactAreCompatibleSpec : ChangeSpec := { name := "fnExactAreCompatible", fn := fun _ => fun
  | [d1, d2, d3] => { results := [.lit (.bool true)], args := [d1, d2, d3] }
  | _ => none }
def fnExactAreCompatibleRow : OpenClaim := { program := "ytjgnmpoccmmpjaa", sum := "649067906566f148f997b674d1b34782403cf7fee9722176779b27ac435f3ade", func := "loop.example/g01056/laws.FnExactAreCompatible", spec := "fnExactAreCompatible", apart := false }
def FnExactAreCompatibleSaid : Prop := fnExactAreCompatibleRow.holds Try.pinned (OpenSpec.ofChange fnExactAreCompatibleSpec)

/-- ITS FALSE NEIGHBOUR: 'it returns false'. Refute it at one input. -/
def fnExactAreCompatibleWrong : ChangeSpec := { name := "fnExactAreCompatible", fn := fun _ => fun
  | [d1, d2, d3] => { results := [.lit (.bool false)], args := [d1, d2, d3] }
  | _ => none }
def FnExactAreCompatibleWrongFalsely : Prop := fnExactAreCompatibleRow.holds Try.pinned (OpenSpec.ofChange fnExactAreCompatibleWrong)

/-- 'laws.FnExactIsMetric': WHATEVER THE INPUT: true; the input reads as it did. -/
def fnExactIsMetricSpec : ChangeSpec := { name := "fnExactIsMetric", fn := fun _ => fun
  | [d] => { results := [.lit (.bool true)], args := [d] }
  | _ => none }
def fnExactIsMetricRow : OpenClaim := { program := "ytjgnmpoccmmpjaa", sum := "649067906566f148f997b674d1b34782403cf7fee9722176779b27ac435f3ade", func := "loop.example/g01056/laws.FnExactIsMetric", spec := "fnExactIsMetric", unfollowed := true, recurses := true, apart := false }
def FnExactIsMetricSaid : Prop := fnExactIsMetricRow.holds Try.pinned (OpenSpec.ofChange fnExactIsMetricSpec)

/-- ITS FALSE NEIGHBOUR: 'it returns false'. Refute it at one input. -/
def fnExactIsMetricWrong : ChangeSpec := { name := "fnExactIsMetric", fn := fun _ => fun
  | [d] => { results := [.lit (.bool false)], args := [d] }
  | _ => none }
def FnExactIsMetricWrongFalsely : Prop := fnExactIsMetricRow.holds Try.pinned (OpenSpec.ofChange fnExactIsMetricWrong)

/-- 'laws.FnExactNearestTaxon': WHATEVER THE INPUT: true; the input reads as it did. -/
def fnExactNearestTaxonSpec : ChangeSpec := { name := "fnExactNearestTaxon", fn := fun _ => fun
  | [d1, d2] => { results := [.lit (.bool true)], args := [d1, d2] }
  | _ => none }
def fnExactNearestTaxonRow : OpenClaim := { program := "ytjgnmpoccmmpjaa", sum := "649067906566f148f997b674d1b34782403cf7fee9722176779b27ac435f3ade", func := "loop.example/g01056/laws.FnExactNearestTaxon", spec := "fnExactNearestTaxon", unfollowed := true, recurses := true, apart := false }
def FnExactNearestTaxonSaid : Prop := fnExactNearestTaxonRow.holds Try.pinned (OpenSpec.ofChange fnExactNearestTaxonSpec)

/-- ITS FALSE NEIGHBOUR: 'it returns false'. Refute it at one input. -/
def fnExactNearestTaxonWrong : ChangeSpec := { name := "fnExactNearestTaxon", fn := fun _ => fun
  | [d1, d2] => { results := [.lit (.bool false)], args := [d1, d2] }
  | _ => none }
def FnExactNearestTaxonWrongFalsely : Prop := fnExactNearestTaxonRow.holds Try.pinned (OpenSpec.ofChange fnExactNearestTaxonWrong)

/-- 'laws.FnExactFirstClash': WHATEVER THE INPUT: true; the input reads as it did. -/
def fnExactFirstClashSpec : ChangeSpec := { name := "fnExactFirstClash", fn := fun _ => fun
  | [d1, d2] => { results := [.lit (.bool true)], args := [d1, d2] }
  | _ => none }
def fnExactFirstClashRow : OpenClaim := { program := "ytjgnmpoccmmpjaa", sum := "649067906566f148f997b674d1b34782403cf7fee9722176779b27ac435f3ade", func := "loop.example/g01056/laws.FnExactFirstClash", spec := "fnExactFirstClash", unfollowed := true, recurses := true, apart := false }
def FnExactFirstClashSaid : Prop := fnExactFirstClashRow.holds Try.pinned (OpenSpec.ofChange fnExactFirstClashSpec)

/-- ITS FALSE NEIGHBOUR: 'it returns false'. Refute it at one input. -/
def fnExactFirstClashWrong : ChangeSpec := { name := "fnExactFirstClash", fn := fun _ => fun
  | [d1, d2] => { results := [.lit (.bool false)], args := [d1, d2] }
  | _ => none }
def FnExactFirstClashWrongFalsely : Prop := fnExactFirstClashRow.holds Try.pinned (OpenSpec.ofChange fnExactFirstClashWrong)

/-- 'laws.FnExactWithoutTaxon': WHATEVER THE INPUT: true; the input reads as it did. -/
def fnExactWithoutTaxonSpec : ChangeSpec := { name := "fnExactWithoutTaxon", fn := fun _ => fun
  | [d1, d2] => { results := [.lit (.bool true)], args := [d1, d2] }
  | _ => none }
def fnExactWithoutTaxonRow : OpenClaim := { program := "ytjgnmpoccmmpjaa", sum := "649067906566f148f997b674d1b34782403cf7fee9722176779b27ac435f3ade", func := "loop.example/g01056/laws.FnExactWithoutTaxon", spec := "fnExactWithoutTaxon", unfollowed := true, recurses := true, apart := false }
def FnExactWithoutTaxonSaid : Prop := fnExactWithoutTaxonRow.holds Try.pinned (OpenSpec.ofChange fnExactWithoutTaxonSpec)

/-- ITS FALSE NEIGHBOUR: 'it returns false'. Refute it at one input. -/
def fnExactWithoutTaxonWrong : ChangeSpec := { name := "fnExactWithoutTaxon", fn := fun _ => fun
  | [d1, d2] => { results := [.lit (.bool false)], args := [d1, d2] }
  | _ => none }
def FnExactWithoutTaxonWrongFalsely : Prop := fnExactWithoutTaxonRow.holds Try.pinned (OpenSpec.ofChange fnExactWithoutTaxonWrong)

/-- 'laws.FnExactUltraBelow': WHATEVER THE INPUT: true; the input reads as it did. -/
def fnExactUltraBelowSpec : ChangeSpec := { name := "fnExactUltraBelow", fn := fun _ => fun
  | [d] => { results := [.lit (.bool true)], args := [d] }
  | _ => none }
def fnExactUltraBelowRow : OpenClaim := { program := "ytjgnmpoccmmpjaa", sum := "649067906566f148f997b674d1b34782403cf7fee9722176779b27ac435f3ade", func := "loop.example/g01056/laws.FnExactUltraBelow", spec := "fnExactUltraBelow", unfollowed := true, recurses := true, apart := false }
def FnExactUltraBelowSaid : Prop := fnExactUltraBelowRow.holds Try.pinned (OpenSpec.ofChange fnExactUltraBelowSpec)

/-- ITS FALSE NEIGHBOUR: 'it returns false'. Refute it at one input. -/
def fnExactUltraBelowWrong : ChangeSpec := { name := "fnExactUltraBelow", fn := fun _ => fun
  | [d] => { results := [.lit (.bool false)], args := [d] }
  | _ => none }
def FnExactUltraBelowWrongFalsely : Prop := fnExactUltraBelowRow.holds Try.pinned (OpenSpec.ofChange fnExactUltraBelowWrong)

/-- 'laws.FnExactAddPendants': WHATEVER THE INPUT: true; the input reads as it did. -/
def fnExactAddPendantsSpec : ChangeSpec := { name := "fnExactAddPendants", fn := fun _ => fun
  | [d1, d2] => { results := [.lit (.bool true)], args := [d1, d2] }
  | _ => none }
def fnExactAddPendantsRow : OpenClaim := { program := "ytjgnmpoccmmpjaa", sum := "649067906566f148f997b674d1b34782403cf7fee9722176779b27ac435f3ade", func := "loop.example/g01056/laws.FnExactAddPendants", spec := "fnExactAddPendants", unfollowed := true, recurses := true, apart := false }
def FnExactAddPendantsSaid : Prop := fnExactAddPendantsRow.holds Try.pinned (OpenSpec.ofChange fnExactAddPendantsSpec)

/-- ITS FALSE NEIGHBOUR: 'it returns false'. Refute it at one input. -/
def fnExactAddPendantsWrong : ChangeSpec := { name := "fnExactAddPendants", fn := fun _ => fun
  | [d1, d2] => { results := [.lit (.bool false)], args := [d1, d2] }
  | _ => none }
def FnExactAddPendantsWrongFalsely : Prop := fnExactAddPendantsRow.holds Try.pinned (OpenSpec.ofChange fnExactAddPendantsWrong)

/-- 'laws.FnExactMetricOfSplits': WHATEVER THE INPUT: true; the input reads as it did. -/
def fnExactMetricOfSplitsSpec : ChangeSpec := { name := "fnExactMetricOfSplits", fn := fun _ => fun
  | [d1, d2, d3] => { results := [.lit (.bool true)], args := [d1, d2, d3] }
  | _ => none }
def fnExactMetricOfSplitsRow : OpenClaim := { program := "ytjgnmpoccmmpjaa", sum := "649067906566f148f997b674d1b34782403cf7fee9722176779b27ac435f3ade", func := "loop.example/g01056/laws.FnExactMetricOfSplits", spec := "fnExactMetricOfSplits", unfollowed := true, recurses := true, apart := false }
def FnExactMetricOfSplitsSaid : Prop := fnExactMetricOfSplitsRow.holds Try.pinned (OpenSpec.ofChange fnExactMetricOfSplitsSpec)

/-- ITS FALSE NEIGHBOUR: 'it returns false'. Refute it at one input. -/
def fnExactMetricOfSplitsWrong : ChangeSpec := { name := "fnExactMetricOfSplits", fn := fun _ => fun
  | [d1, d2, d3] => { results := [.lit (.bool false)], args := [d1, d2, d3] }
  | _ => none }
def FnExactMetricOfSplitsWrongFalsely : Prop := fnExactMetricOfSplitsRow.holds Try.pinned (OpenSpec.ofChange fnExactMetricOfSplitsWrong)

/- THE SECOND FORM. 'bulk': how many values and letters a reading holds, each counted each time it is reached (what is shared counts as often as it is met; a slice's spare places count too). A statement '..UptoSaid' is the law's where the arguments, and the package variables that the reading takes, are together of bulk at most 1048576: NARROWER than '..Said'. Prove '..Said' where nothing that the law and all that it calls make is longer than what came in: it says more and counts as full. Else prove '..UptoSaid'. A law counts once. -/
mutual
def uptoBulk {H : Type} : DataW H → Nat
  | .lit (.string bytes) => bytes.length + 1
  | .lit _ => 1
  | .nil => 1
  | .ptr d => uptoBulk d + 1
  | .slice elems spare => uptoBulkAll elems + uptoBulkAll spare + 1
  | .agg parts => uptoBulkAll parts + 1
  | .iface _ d => uptoBulk d + 1
  | .map entries => uptoBulkEntries entries + 1
  | .held _ => 1
def uptoBulkAll {H : Type} : List (DataW H) → Nat
  | [] => 0
  | d :: r => uptoBulk d + uptoBulkAll r
def uptoBulkEntries {H : Type} : List (Lit × DataW H) → Nat
  | [] => 0
  | x :: r => uptoBulkEntry x + uptoBulkEntries r
def uptoBulkEntry {H : Type} : Lit × DataW H → Nat
  | (.string bytes, d) => bytes.length + uptoBulk d + 1
  | (_, d) => uptoBulk d + 1
 end
def uptoSmall : (H : Type) → List (DataW H) → Bool := fun _ ds => decide (uptoBulkAll ds ≤ 1048576)
def OpenSpec.upto (s : _root_.Go.ChangeSpec) : _root_.Go.OpenSpec := { _root_.Go.OpenSpec.ofChange s with cond := some uptoSmall }

/-- 'laws.FnExactIsSplit', WHERE WHAT IT READS IS OF BULK AT MOST 1048576: true; the input reads as it did. -/
def fnExactIsSplitUptoRow : OpenClaim := { program := "ytjgnmpoccmmpjaa", sum := "649067906566f148f997b674d1b34782403cf7fee9722176779b27ac435f3ade", func := "loop.example/g01056/laws.FnExactIsSplit", spec := "fnExactIsSplit", apart := false, narrowed := true }
def FnExactIsSplitUptoSaid : Prop := fnExactIsSplitUptoRow.holds Try.pinned (OpenSpec.upto fnExactIsSplitSpec)

/-- 'laws.FnExactAreCompatible', WHERE WHAT IT READS IS OF BULK AT MOST 1048576: true; the input reads as it did. -/
def fnExactAreCompatibleUptoRow : OpenClaim := { program := "ytjgnmpoccmmpjaa", sum := "649067906566f148f997b674d1b34782403cf7fee9722176779b27ac435f3ade", func := "loop.example/g01056/laws.FnExactAreCompatible", spec := "fnExactAreCompatible", apart := false, narrowed := true }
def FnExactAreCompatibleUptoSaid : Prop := fnExactAreCompatibleUptoRow.holds Try.pinned (OpenSpec.upto fnExactAreCompatibleSpec)

/-- 'laws.FnExactIsMetric', WHERE WHAT IT READS IS OF BULK AT MOST 1048576: true; the input reads as it did. -/
def fnExactIsMetricUptoRow : OpenClaim := { program := "ytjgnmpoccmmpjaa", sum := "649067906566f148f997b674d1b34782403cf7fee9722176779b27ac435f3ade", func := "loop.example/g01056/laws.FnExactIsMetric", spec := "fnExactIsMetric", unfollowed := true, recurses := true, apart := false, narrowed := true }
def FnExactIsMetricUptoSaid : Prop := fnExactIsMetricUptoRow.holds Try.pinned (OpenSpec.upto fnExactIsMetricSpec)

/-- 'laws.FnExactNearestTaxon', WHERE WHAT IT READS IS OF BULK AT MOST 1048576: true; the input reads as it did. -/
def fnExactNearestTaxonUptoRow : OpenClaim := { program := "ytjgnmpoccmmpjaa", sum := "649067906566f148f997b674d1b34782403cf7fee9722176779b27ac435f3ade", func := "loop.example/g01056/laws.FnExactNearestTaxon", spec := "fnExactNearestTaxon", unfollowed := true, recurses := true, apart := false, narrowed := true }
def FnExactNearestTaxonUptoSaid : Prop := fnExactNearestTaxonUptoRow.holds Try.pinned (OpenSpec.upto fnExactNearestTaxonSpec)

/-- 'laws.FnExactFirstClash', WHERE WHAT IT READS IS OF BULK AT MOST 1048576: true; the input reads as it did. -/
def fnExactFirstClashUptoRow : OpenClaim := { program := "ytjgnmpoccmmpjaa", sum := "649067906566f148f997b674d1b34782403cf7fee9722176779b27ac435f3ade", func := "loop.example/g01056/laws.FnExactFirstClash", spec := "fnExactFirstClash", unfollowed := true, recurses := true, apart := false, narrowed := true }
def FnExactFirstClashUptoSaid : Prop := fnExactFirstClashUptoRow.holds Try.pinned (OpenSpec.upto fnExactFirstClashSpec)

/-- 'laws.FnExactWithoutTaxon', WHERE WHAT IT READS IS OF BULK AT MOST 1048576: true; the input reads as it did. -/
def fnExactWithoutTaxonUptoRow : OpenClaim := { program := "ytjgnmpoccmmpjaa", sum := "649067906566f148f997b674d1b34782403cf7fee9722176779b27ac435f3ade", func := "loop.example/g01056/laws.FnExactWithoutTaxon", spec := "fnExactWithoutTaxon", unfollowed := true, recurses := true, apart := false, narrowed := true }
def FnExactWithoutTaxonUptoSaid : Prop := fnExactWithoutTaxonUptoRow.holds Try.pinned (OpenSpec.upto fnExactWithoutTaxonSpec)

/-- 'laws.FnExactUltraBelow', WHERE WHAT IT READS IS OF BULK AT MOST 1048576: true; the input reads as it did. -/
def fnExactUltraBelowUptoRow : OpenClaim := { program := "ytjgnmpoccmmpjaa", sum := "649067906566f148f997b674d1b34782403cf7fee9722176779b27ac435f3ade", func := "loop.example/g01056/laws.FnExactUltraBelow", spec := "fnExactUltraBelow", unfollowed := true, recurses := true, apart := false, narrowed := true }
def FnExactUltraBelowUptoSaid : Prop := fnExactUltraBelowUptoRow.holds Try.pinned (OpenSpec.upto fnExactUltraBelowSpec)

/-- 'laws.FnExactAddPendants', WHERE WHAT IT READS IS OF BULK AT MOST 1048576: true; the input reads as it did. -/
def fnExactAddPendantsUptoRow : OpenClaim := { program := "ytjgnmpoccmmpjaa", sum := "649067906566f148f997b674d1b34782403cf7fee9722176779b27ac435f3ade", func := "loop.example/g01056/laws.FnExactAddPendants", spec := "fnExactAddPendants", unfollowed := true, recurses := true, apart := false, narrowed := true }
def FnExactAddPendantsUptoSaid : Prop := fnExactAddPendantsUptoRow.holds Try.pinned (OpenSpec.upto fnExactAddPendantsSpec)

/-- 'laws.FnExactMetricOfSplits', WHERE WHAT IT READS IS OF BULK AT MOST 1048576: true; the input reads as it did. -/
def fnExactMetricOfSplitsUptoRow : OpenClaim := { program := "ytjgnmpoccmmpjaa", sum := "649067906566f148f997b674d1b34782403cf7fee9722176779b27ac435f3ade", func := "loop.example/g01056/laws.FnExactMetricOfSplits", spec := "fnExactMetricOfSplits", unfollowed := true, recurses := true, apart := false, narrowed := true }
def FnExactMetricOfSplitsUptoSaid : Prop := fnExactMetricOfSplitsUptoRow.holds Try.pinned (OpenSpec.upto fnExactMetricOfSplitsSpec)

end Rows
end Go.Proofs.Ytjgnmpoccmmpjaa
