/-
  No cell of these rows narrows 'for every input' (looked for: loops, veiled, ifaces, maps, wideKeys, modest, calm, conditions, laid).
  DERIVED. THE GIVEN ROWS OF THIS SEAT. 12 by the template 'for every input the law returns true; each argument reads behind the call as it read before'; 0 by the template 'total and deterministic' (their statements: YtagjmakcooppoaaTotals.lean).
  GIVEN WITH THE SEED: the statements are not yours to turn. If you find one false, say at which input.
  Laid BY PROGRAM, IN A SANDBOX (cutbox-rows.mjs): the forced cells as the released guide's own fill.sh prints them over the translation f95c05ca6ff505a0… (all of the seat's roots in one cut). By AI agents, Wed Nov 11 2026. No macro, syntax, notation, axiom, sorry.
-/
import Derived.Test.YtagjmakcooppoaaChecked
import GoSem.Claim
import GoSem.ClaimJoined
import GoSem.ClaimMapViews
import Derived.JoinedTies
import Derived.KernelRfl
namespace Go.Proofs.Ytagjmakcooppoaa
/- THE CELL 'sum', in the pinned program and in every row, IS THE sha256 OF THE DUMP (.gsa) THAT YtagjmakcooppoaaProg.lean LOADS. Nothing in Lean hashes anything: it is a label: what it is worth is what the hold of that sum in a sandbox is worth. -/
noncomputable def Try.pinned : Pinned := { name := "ytagjmakcooppoaa", sum := "f95c05ca6ff505a024e4ef4aea482bd6cd2658d82f817ffd046ab154ee614469", checked := Try.checked }
namespace Rows
def none {H : Type} : Left H := { results := [], args := [] }

/-- 'laws.FnExactTwiceEnd': WHATEVER THE INPUT: true; the input reads as it did. -/
def fnExactTwiceEndSpec : ChangeSpec := { name := "fnExactTwiceEnd", fn := fun _ => fun
  | [d1, d2] => { results := [.lit (.bool true)], args := [d1, d2] }
  | _ => none }
def fnExactTwiceEndRow : OpenClaim := { program := "ytagjmakcooppoaa", sum := "f95c05ca6ff505a024e4ef4aea482bd6cd2658d82f817ffd046ab154ee614469", func := "loop.example/g01056/laws.FnExactTwiceEnd", spec := "fnExactTwiceEnd", unfollowed := true, recurses := true, apart := false }
def FnExactTwiceEndSaid : Prop := fnExactTwiceEndRow.holds Try.pinned (OpenSpec.ofChange fnExactTwiceEndSpec)

/-- ITS FALSE NEIGHBOUR: 'it returns false'. Refute it at one input. -/
def fnExactTwiceEndWrong : ChangeSpec := { name := "fnExactTwiceEnd", fn := fun _ => fun
  | [d1, d2] => { results := [.lit (.bool false)], args := [d1, d2] }
  | _ => none }
def FnExactTwiceEndWrongFalsely : Prop := fnExactTwiceEndRow.holds Try.pinned (OpenSpec.ofChange fnExactTwiceEndWrong)

/-- 'laws.FnExactIsUltrametric': WHATEVER THE INPUT: true; the input reads as it did. -/
def fnExactIsUltrametricSpec : ChangeSpec := { name := "fnExactIsUltrametric", fn := fun _ => fun
  | [d] => { results := [.lit (.bool true)], args := [d] }
  | _ => none }
def fnExactIsUltrametricRow : OpenClaim := { program := "ytagjmakcooppoaa", sum := "f95c05ca6ff505a024e4ef4aea482bd6cd2658d82f817ffd046ab154ee614469", func := "loop.example/g01056/laws.FnExactIsUltrametric", spec := "fnExactIsUltrametric", unfollowed := true, recurses := true, apart := false }
def FnExactIsUltrametricSaid : Prop := fnExactIsUltrametricRow.holds Try.pinned (OpenSpec.ofChange fnExactIsUltrametricSpec)

/-- ITS FALSE NEIGHBOUR: 'it returns false'. Refute it at one input. -/
def fnExactIsUltrametricWrong : ChangeSpec := { name := "fnExactIsUltrametric", fn := fun _ => fun
  | [d] => { results := [.lit (.bool false)], args := [d] }
  | _ => none }
def FnExactIsUltrametricWrongFalsely : Prop := fnExactIsUltrametricRow.holds Try.pinned (OpenSpec.ofChange fnExactIsUltrametricWrong)

/-- 'laws.FnExactFourSums': WHATEVER THE INPUT: true; the input reads as it did. -/
def fnExactFourSumsSpec : ChangeSpec := { name := "fnExactFourSums", fn := fun _ => fun
  | [d1, d2, d3, d4, d5] => { results := [.lit (.bool true)], args := [d1, d2, d3, d4, d5] }
  | _ => none }
def fnExactFourSumsRow : OpenClaim := { program := "ytagjmakcooppoaa", sum := "f95c05ca6ff505a024e4ef4aea482bd6cd2658d82f817ffd046ab154ee614469", func := "loop.example/g01056/laws.FnExactFourSums", spec := "fnExactFourSums", unfollowed := true, recurses := true, apart := false }
def FnExactFourSumsSaid : Prop := fnExactFourSumsRow.holds Try.pinned (OpenSpec.ofChange fnExactFourSumsSpec)

/-- ITS FALSE NEIGHBOUR: 'it returns false'. Refute it at one input. -/
def fnExactFourSumsWrong : ChangeSpec := { name := "fnExactFourSums", fn := fun _ => fun
  | [d1, d2, d3, d4, d5] => { results := [.lit (.bool false)], args := [d1, d2, d3, d4, d5] }
  | _ => none }
def FnExactFourSumsWrongFalsely : Prop := fnExactFourSumsRow.holds Try.pinned (OpenSpec.ofChange fnExactFourSumsWrong)

/-- 'laws.FnExactIsTreeMetric': WHATEVER THE INPUT: true; the input reads as it did. -/
def fnExactIsTreeMetricSpec : ChangeSpec := { name := "fnExactIsTreeMetric", fn := fun _ => fun
  | [d] => { results := [.lit (.bool true)], args := [d] }
  | _ => none }
def fnExactIsTreeMetricRow : OpenClaim := { program := "ytagjmakcooppoaa", sum := "f95c05ca6ff505a024e4ef4aea482bd6cd2658d82f817ffd046ab154ee614469", func := "loop.example/g01056/laws.FnExactIsTreeMetric", spec := "fnExactIsTreeMetric", unfollowed := true, recurses := true, apart := false }
def FnExactIsTreeMetricSaid : Prop := fnExactIsTreeMetricRow.holds Try.pinned (OpenSpec.ofChange fnExactIsTreeMetricSpec)

/-- ITS FALSE NEIGHBOUR: 'it returns false'. Refute it at one input. -/
def fnExactIsTreeMetricWrong : ChangeSpec := { name := "fnExactIsTreeMetric", fn := fun _ => fun
  | [d] => { results := [.lit (.bool false)], args := [d] }
  | _ => none }
def FnExactIsTreeMetricWrongFalsely : Prop := fnExactIsTreeMetricRow.holds Try.pinned (OpenSpec.ofChange fnExactIsTreeMetricWrong)

/-- 'laws.FnExactFirstBadFour': WHATEVER THE INPUT: true; the input reads as it did. -/
def fnExactFirstBadFourSpec : ChangeSpec := { name := "fnExactFirstBadFour", fn := fun _ => fun
  | [d] => { results := [.lit (.bool true)], args := [d] }
  | _ => none }
def fnExactFirstBadFourRow : OpenClaim := { program := "ytagjmakcooppoaa", sum := "f95c05ca6ff505a024e4ef4aea482bd6cd2658d82f817ffd046ab154ee614469", func := "loop.example/g01056/laws.FnExactFirstBadFour", spec := "fnExactFirstBadFour", unfollowed := true, recurses := true, apart := false }
def FnExactFirstBadFourSaid : Prop := fnExactFirstBadFourRow.holds Try.pinned (OpenSpec.ofChange fnExactFirstBadFourSpec)

/-- ITS FALSE NEIGHBOUR: 'it returns false'. Refute it at one input. -/
def fnExactFirstBadFourWrong : ChangeSpec := { name := "fnExactFirstBadFour", fn := fun _ => fun
  | [d] => { results := [.lit (.bool false)], args := [d] }
  | _ => none }
def FnExactFirstBadFourWrongFalsely : Prop := fnExactFirstBadFourRow.holds Try.pinned (OpenSpec.ofChange fnExactFirstBadFourWrong)

/-- 'laws.FnExactCherriesOf': WHATEVER THE INPUT: true; the input reads as it did. -/
def fnExactCherriesOfSpec : ChangeSpec := { name := "fnExactCherriesOf", fn := fun _ => fun
  | [d] => { results := [.lit (.bool true)], args := [d] }
  | _ => none }
def fnExactCherriesOfRow : OpenClaim := { program := "ytagjmakcooppoaa", sum := "f95c05ca6ff505a024e4ef4aea482bd6cd2658d82f817ffd046ab154ee614469", func := "loop.example/g01056/laws.FnExactCherriesOf", spec := "fnExactCherriesOf", unfollowed := true, recurses := true, apart := false }
def FnExactCherriesOfSaid : Prop := fnExactCherriesOfRow.holds Try.pinned (OpenSpec.ofChange fnExactCherriesOfSpec)

/-- ITS FALSE NEIGHBOUR: 'it returns false'. Refute it at one input. -/
def fnExactCherriesOfWrong : ChangeSpec := { name := "fnExactCherriesOf", fn := fun _ => fun
  | [d] => { results := [.lit (.bool false)], args := [d] }
  | _ => none }
def FnExactCherriesOfWrongFalsely : Prop := fnExactCherriesOfRow.holds Try.pinned (OpenSpec.ofChange fnExactCherriesOfWrong)

/-- 'laws.FnExactTwiceLengthOf': WHATEVER THE INPUT: true; the input reads as it did. -/
def fnExactTwiceLengthOfSpec : ChangeSpec := { name := "fnExactTwiceLengthOf", fn := fun _ => fun
  | [d1, d2] => { results := [.lit (.bool true)], args := [d1, d2] }
  | _ => none }
def fnExactTwiceLengthOfRow : OpenClaim := { program := "ytagjmakcooppoaa", sum := "f95c05ca6ff505a024e4ef4aea482bd6cd2658d82f817ffd046ab154ee614469", func := "loop.example/g01056/laws.FnExactTwiceLengthOf", spec := "fnExactTwiceLengthOf", unfollowed := true, recurses := true, apart := false }
def FnExactTwiceLengthOfSaid : Prop := fnExactTwiceLengthOfRow.holds Try.pinned (OpenSpec.ofChange fnExactTwiceLengthOfSpec)

/-- ITS FALSE NEIGHBOUR: 'it returns false'. Refute it at one input. -/
def fnExactTwiceLengthOfWrong : ChangeSpec := { name := "fnExactTwiceLengthOf", fn := fun _ => fun
  | [d1, d2] => { results := [.lit (.bool false)], args := [d1, d2] }
  | _ => none }
def FnExactTwiceLengthOfWrongFalsely : Prop := fnExactTwiceLengthOfRow.holds Try.pinned (OpenSpec.ofChange fnExactTwiceLengthOfWrong)

/-- 'laws.FnExactTwiceTreeLength': WHATEVER THE INPUT: true; the input reads as it did. -/
def fnExactTwiceTreeLengthSpec : ChangeSpec := { name := "fnExactTwiceTreeLength", fn := fun _ => fun
  | [d] => { results := [.lit (.bool true)], args := [d] }
  | _ => none }
def fnExactTwiceTreeLengthRow : OpenClaim := { program := "ytagjmakcooppoaa", sum := "f95c05ca6ff505a024e4ef4aea482bd6cd2658d82f817ffd046ab154ee614469", func := "loop.example/g01056/laws.FnExactTwiceTreeLength", spec := "fnExactTwiceTreeLength", unfollowed := true, recurses := true, apart := false }
def FnExactTwiceTreeLengthSaid : Prop := fnExactTwiceTreeLengthRow.holds Try.pinned (OpenSpec.ofChange fnExactTwiceTreeLengthSpec)

/-- ITS FALSE NEIGHBOUR: 'it returns false'. Refute it at one input. -/
def fnExactTwiceTreeLengthWrong : ChangeSpec := { name := "fnExactTwiceTreeLength", fn := fun _ => fun
  | [d] => { results := [.lit (.bool false)], args := [d] }
  | _ => none }
def FnExactTwiceTreeLengthWrongFalsely : Prop := fnExactTwiceTreeLengthRow.holds Try.pinned (OpenSpec.ofChange fnExactTwiceTreeLengthWrong)

/-- 'laws.FnExactIsBinaryTree': WHATEVER THE INPUT: true; the input reads as it did. -/
def fnExactIsBinaryTreeSpec : ChangeSpec := { name := "fnExactIsBinaryTree", fn := fun _ => fun
  | [d] => { results := [.lit (.bool true)], args := [d] }
  | _ => none }
def fnExactIsBinaryTreeRow : OpenClaim := { program := "ytagjmakcooppoaa", sum := "f95c05ca6ff505a024e4ef4aea482bd6cd2658d82f817ffd046ab154ee614469", func := "loop.example/g01056/laws.FnExactIsBinaryTree", spec := "fnExactIsBinaryTree", unfollowed := true, recurses := true, apart := false }
def FnExactIsBinaryTreeSaid : Prop := fnExactIsBinaryTreeRow.holds Try.pinned (OpenSpec.ofChange fnExactIsBinaryTreeSpec)

/-- ITS FALSE NEIGHBOUR: 'it returns false'. Refute it at one input. -/
def fnExactIsBinaryTreeWrong : ChangeSpec := { name := "fnExactIsBinaryTree", fn := fun _ => fun
  | [d] => { results := [.lit (.bool false)], args := [d] }
  | _ => none }
def FnExactIsBinaryTreeWrongFalsely : Prop := fnExactIsBinaryTreeRow.holds Try.pinned (OpenSpec.ofChange fnExactIsBinaryTreeWrong)

/-- 'laws.FnExactSplitLengths': WHATEVER THE INPUT: true; the input reads as it did. -/
def fnExactSplitLengthsSpec : ChangeSpec := { name := "fnExactSplitLengths", fn := fun _ => fun
  | [d] => { results := [.lit (.bool true)], args := [d] }
  | _ => none }
def fnExactSplitLengthsRow : OpenClaim := { program := "ytagjmakcooppoaa", sum := "f95c05ca6ff505a024e4ef4aea482bd6cd2658d82f817ffd046ab154ee614469", func := "loop.example/g01056/laws.FnExactSplitLengths", spec := "fnExactSplitLengths", unfollowed := true, recurses := true, apart := false }
def FnExactSplitLengthsSaid : Prop := fnExactSplitLengthsRow.holds Try.pinned (OpenSpec.ofChange fnExactSplitLengthsSpec)

/-- ITS FALSE NEIGHBOUR: 'it returns false'. Refute it at one input. -/
def fnExactSplitLengthsWrong : ChangeSpec := { name := "fnExactSplitLengths", fn := fun _ => fun
  | [d] => { results := [.lit (.bool false)], args := [d] }
  | _ => none }
def FnExactSplitLengthsWrongFalsely : Prop := fnExactSplitLengthsRow.holds Try.pinned (OpenSpec.ofChange fnExactSplitLengthsWrong)

/-- 'laws.FnExactSplitsOf': WHATEVER THE INPUT: true; the input reads as it did. -/
def fnExactSplitsOfSpec : ChangeSpec := { name := "fnExactSplitsOf", fn := fun _ => fun
  | [d] => { results := [.lit (.bool true)], args := [d] }
  | _ => none }
def fnExactSplitsOfRow : OpenClaim := { program := "ytagjmakcooppoaa", sum := "f95c05ca6ff505a024e4ef4aea482bd6cd2658d82f817ffd046ab154ee614469", func := "loop.example/g01056/laws.FnExactSplitsOf", spec := "fnExactSplitsOf", unfollowed := true, recurses := true, apart := false }
def FnExactSplitsOfSaid : Prop := fnExactSplitsOfRow.holds Try.pinned (OpenSpec.ofChange fnExactSplitsOfSpec)

/-- ITS FALSE NEIGHBOUR: 'it returns false'. Refute it at one input. -/
def fnExactSplitsOfWrong : ChangeSpec := { name := "fnExactSplitsOf", fn := fun _ => fun
  | [d] => { results := [.lit (.bool false)], args := [d] }
  | _ => none }
def FnExactSplitsOfWrongFalsely : Prop := fnExactSplitsOfRow.holds Try.pinned (OpenSpec.ofChange fnExactSplitsOfWrong)

/-- 'laws.FnExactInnerSplits': WHATEVER THE INPUT: true; the input reads as it did. -/
def fnExactInnerSplitsSpec : ChangeSpec := { name := "fnExactInnerSplits", fn := fun _ => fun
  | [d] => { results := [.lit (.bool true)], args := [d] }
  | _ => none }
def fnExactInnerSplitsRow : OpenClaim := { program := "ytagjmakcooppoaa", sum := "f95c05ca6ff505a024e4ef4aea482bd6cd2658d82f817ffd046ab154ee614469", func := "loop.example/g01056/laws.FnExactInnerSplits", spec := "fnExactInnerSplits", unfollowed := true, recurses := true, apart := false }
def FnExactInnerSplitsSaid : Prop := fnExactInnerSplitsRow.holds Try.pinned (OpenSpec.ofChange fnExactInnerSplitsSpec)

/-- ITS FALSE NEIGHBOUR: 'it returns false'. Refute it at one input. -/
def fnExactInnerSplitsWrong : ChangeSpec := { name := "fnExactInnerSplits", fn := fun _ => fun
  | [d] => { results := [.lit (.bool false)], args := [d] }
  | _ => none }
def FnExactInnerSplitsWrongFalsely : Prop := fnExactInnerSplitsRow.holds Try.pinned (OpenSpec.ofChange fnExactInnerSplitsWrong)

/- THE SECOND FORM. 'bulk': how many values and letters a reading holds, each counted each time it is reached (what is shared counts as often as it is met; a slice's spare places count too). A statement '..UptoSaid' is the law's where the arguments, and the package variables that the reading takes, are together of bulk at most 1048576: NARROWER than '..Said'. Prove '..Said' where nothing that the law and all that it calls make is longer than what came in: it says more and counts as full. Else prove '..UptoSaid'. A law counts once. -/
mutual
def uptoBulk {H : Type} : DataW H → Nat
  | .lit (.string bytes) => bytes.length + 1
  | .lit _ => 1
  | .nil => 1
  | .ptr d => uptoBulk d + 1
  | .slice elems spare => uptoBulkAll elems + uptoBulkAll spare + 1
  | .agg parts => uptoBulkAll parts + 1
  | .iface _ d => uptoBulk d + 1
  | .map entries => uptoBulkEntries entries + 1
  | .held _ => 1
def uptoBulkAll {H : Type} : List (DataW H) → Nat
  | [] => 0
  | d :: r => uptoBulk d + uptoBulkAll r
def uptoBulkEntries {H : Type} : List (Lit × DataW H) → Nat
  | [] => 0
  | x :: r => uptoBulkEntry x + uptoBulkEntries r
def uptoBulkEntry {H : Type} : Lit × DataW H → Nat
  | (.string bytes, d) => bytes.length + uptoBulk d + 1
  | (_, d) => uptoBulk d + 1
 end
def uptoSmall : (H : Type) → List (DataW H) → Bool := fun _ ds => decide (uptoBulkAll ds ≤ 1048576)
def OpenSpec.upto (s : _root_.Go.ChangeSpec) : _root_.Go.OpenSpec := { _root_.Go.OpenSpec.ofChange s with cond := some uptoSmall }

/-- 'laws.FnExactTwiceEnd', WHERE WHAT IT READS IS OF BULK AT MOST 1048576: true; the input reads as it did. -/
def fnExactTwiceEndUptoRow : OpenClaim := { program := "ytagjmakcooppoaa", sum := "f95c05ca6ff505a024e4ef4aea482bd6cd2658d82f817ffd046ab154ee614469", func := "loop.example/g01056/laws.FnExactTwiceEnd", spec := "fnExactTwiceEnd", unfollowed := true, recurses := true, apart := false, narrowed := true }
def FnExactTwiceEndUptoSaid : Prop := fnExactTwiceEndUptoRow.holds Try.pinned (OpenSpec.upto fnExactTwiceEndSpec)

/-- 'laws.FnExactIsUltrametric', WHERE WHAT IT READS IS OF BULK AT MOST 1048576: true; the input reads as it did. -/
def fnExactIsUltrametricUptoRow : OpenClaim := { program := "ytagjmakcooppoaa", sum := "f95c05ca6ff505a024e4ef4aea482bd6cd2658d82f817ffd046ab154ee614469", func := "loop.example/g01056/laws.FnExactIsUltrametric", spec := "fnExactIsUltrametric", unfollowed := true, recurses := true, apart := false, narrowed := true }
def FnExactIsUltrametricUptoSaid : Prop := fnExactIsUltrametricUptoRow.holds Try.pinned (OpenSpec.upto fnExactIsUltrametricSpec)

/-- 'laws.FnExactFourSums', WHERE WHAT IT READS IS OF BULK AT MOST 1048576: true; the input reads as it did. -/
def fnExactFourSumsUptoRow : OpenClaim := { program := "ytagjmakcooppoaa", sum := "f95c05ca6ff505a024e4ef4aea482bd6cd2658d82f817ffd046ab154ee614469", func := "loop.example/g01056/laws.FnExactFourSums", spec := "fnExactFourSums", unfollowed := true, recurses := true, apart := false, narrowed := true }
def FnExactFourSumsUptoSaid : Prop := fnExactFourSumsUptoRow.holds Try.pinned (OpenSpec.upto fnExactFourSumsSpec)

/-- 'laws.FnExactIsTreeMetric', WHERE WHAT IT READS IS OF BULK AT MOST 1048576: true; the input reads as it did. -/
def fnExactIsTreeMetricUptoRow : OpenClaim := { program := "ytagjmakcooppoaa", sum := "f95c05ca6ff505a024e4ef4aea482bd6cd2658d82f817ffd046ab154ee614469", func := "loop.example/g01056/laws.FnExactIsTreeMetric", spec := "fnExactIsTreeMetric", unfollowed := true, recurses := true, apart := false, narrowed := true }
def FnExactIsTreeMetricUptoSaid : Prop := fnExactIsTreeMetricUptoRow.holds Try.pinned (OpenSpec.upto fnExactIsTreeMetricSpec)

/-- 'laws.FnExactFirstBadFour', WHERE WHAT IT READS IS OF BULK AT MOST 1048576: true; the input reads as it did. -/
def fnExactFirstBadFourUptoRow : OpenClaim := { program := "ytagjmakcooppoaa", sum := "f95c05ca6ff505a024e4ef4aea482bd6cd2658d82f817ffd046ab154ee614469", func := "loop.example/g01056/laws.FnExactFirstBadFour", spec := "fnExactFirstBadFour", unfollowed := true, recurses := true, apart := false, narrowed := true }
def FnExactFirstBadFourUptoSaid : Prop := fnExactFirstBadFourUptoRow.holds Try.pinned (OpenSpec.upto fnExactFirstBadFourSpec)

/-- 'laws.FnExactCherriesOf', WHERE WHAT IT READS IS OF BULK AT MOST 1048576: true; the input reads as it did. -/
def fnExactCherriesOfUptoRow : OpenClaim := { program := "ytagjmakcooppoaa", sum := "f95c05ca6ff505a024e4ef4aea482bd6cd2658d82f817ffd046ab154ee614469", func := "loop.example/g01056/laws.FnExactCherriesOf", spec := "fnExactCherriesOf", unfollowed := true, recurses := true, apart := false, narrowed := true }
def FnExactCherriesOfUptoSaid : Prop := fnExactCherriesOfUptoRow.holds Try.pinned (OpenSpec.upto fnExactCherriesOfSpec)

/-- 'laws.FnExactTwiceLengthOf', WHERE WHAT IT READS IS OF BULK AT MOST 1048576: true; the input reads as it did. -/
def fnExactTwiceLengthOfUptoRow : OpenClaim := { program := "ytagjmakcooppoaa", sum := "f95c05ca6ff505a024e4ef4aea482bd6cd2658d82f817ffd046ab154ee614469", func := "loop.example/g01056/laws.FnExactTwiceLengthOf", spec := "fnExactTwiceLengthOf", unfollowed := true, recurses := true, apart := false, narrowed := true }
def FnExactTwiceLengthOfUptoSaid : Prop := fnExactTwiceLengthOfUptoRow.holds Try.pinned (OpenSpec.upto fnExactTwiceLengthOfSpec)

/-- 'laws.FnExactTwiceTreeLength', WHERE WHAT IT READS IS OF BULK AT MOST 1048576: true; the input reads as it did. -/
def fnExactTwiceTreeLengthUptoRow : OpenClaim := { program := "ytagjmakcooppoaa", sum := "f95c05ca6ff505a024e4ef4aea482bd6cd2658d82f817ffd046ab154ee614469", func := "loop.example/g01056/laws.FnExactTwiceTreeLength", spec := "fnExactTwiceTreeLength", unfollowed := true, recurses := true, apart := false, narrowed := true }
def FnExactTwiceTreeLengthUptoSaid : Prop := fnExactTwiceTreeLengthUptoRow.holds Try.pinned (OpenSpec.upto fnExactTwiceTreeLengthSpec)

/-- 'laws.FnExactIsBinaryTree', WHERE WHAT IT READS IS OF BULK AT MOST 1048576: true; the input reads as it did. -/
def fnExactIsBinaryTreeUptoRow : OpenClaim := { program := "ytagjmakcooppoaa", sum := "f95c05ca6ff505a024e4ef4aea482bd6cd2658d82f817ffd046ab154ee614469", func := "loop.example/g01056/laws.FnExactIsBinaryTree", spec := "fnExactIsBinaryTree", unfollowed := true, recurses := true, apart := false, narrowed := true }
def FnExactIsBinaryTreeUptoSaid : Prop := fnExactIsBinaryTreeUptoRow.holds Try.pinned (OpenSpec.upto fnExactIsBinaryTreeSpec)

/-- 'laws.FnExactSplitLengths', WHERE WHAT IT READS IS OF BULK AT MOST 1048576: true; the input reads as it did. -/
def fnExactSplitLengthsUptoRow : OpenClaim := { program := "ytagjmakcooppoaa", sum := "f95c05ca6ff505a024e4ef4aea482bd6cd2658d82f817ffd046ab154ee614469", func := "loop.example/g01056/laws.FnExactSplitLengths", spec := "fnExactSplitLengths", unfollowed := true, recurses := true, apart := false, narrowed := true }
def FnExactSplitLengthsUptoSaid : Prop := fnExactSplitLengthsUptoRow.holds Try.pinned (OpenSpec.upto fnExactSplitLengthsSpec)

/-- 'laws.FnExactSplitsOf', WHERE WHAT IT READS IS OF BULK AT MOST 1048576: true; the input reads as it did. -/
def fnExactSplitsOfUptoRow : OpenClaim := { program := "ytagjmakcooppoaa", sum := "f95c05ca6ff505a024e4ef4aea482bd6cd2658d82f817ffd046ab154ee614469", func := "loop.example/g01056/laws.FnExactSplitsOf", spec := "fnExactSplitsOf", unfollowed := true, recurses := true, apart := false, narrowed := true }
def FnExactSplitsOfUptoSaid : Prop := fnExactSplitsOfUptoRow.holds Try.pinned (OpenSpec.upto fnExactSplitsOfSpec)

/-- 'laws.FnExactInnerSplits', WHERE WHAT IT READS IS OF BULK AT MOST 1048576: true; the input reads as it did. -/
def fnExactInnerSplitsUptoRow : OpenClaim := { program := "ytagjmakcooppoaa", sum := "f95c05ca6ff505a024e4ef4aea482bd6cd2658d82f817ffd046ab154ee614469", func := "loop.example/g01056/laws.FnExactInnerSplits", spec := "fnExactInnerSplits", unfollowed := true, recurses := true, apart := false, narrowed := true }
def FnExactInnerSplitsUptoSaid : Prop := fnExactInnerSplitsUptoRow.holds Try.pinned (OpenSpec.upto fnExactInnerSplitsSpec)

end Rows
end Go.Proofs.Ytagjmakcooppoaa
