/-
  No cell of these rows narrows 'for every input' (looked for: loops, veiled, ifaces, maps, wideKeys, modest, calm, conditions, laid).
  DERIVED. THE GIVEN ROWS OF THIS SEAT. 6 by the template 'for every input the law returns true; each argument reads behind the call as it read before'; 0 by the template 'total and deterministic' (their statements: YtlehhfmbdcmpoaaTotals.lean).
  GIVEN WITH THE SEED: the statements are not yours to turn. If you find one false, say at which input.
  Laid BY PROGRAM, IN A SANDBOX (cutbox-rows.mjs): the forced cells as the released guide's own fill.sh prints them over the translation e85aa637a8136fed… (all of the seat's roots in one cut). By AI agents, Wed Nov 11 2026. No macro, syntax, notation, axiom, sorry.
-/
import Derived.Test.YtlehhfmbdcmpoaaChecked
import GoSem.Claim
import GoSem.ClaimJoined
import GoSem.ClaimMapViews
import Derived.JoinedTies
import Derived.KernelRfl
namespace Go.Proofs.Ytlehhfmbdcmpoaa
/- THE CELL 'sum', in the pinned program and in every row, IS THE sha256 OF THE DUMP (.gsa) THAT YtlehhfmbdcmpoaaProg.lean LOADS. Nothing in Lean hashes anything: it is a label: what it is worth is what the hold of that sum in a sandbox is worth. -/
noncomputable def Try.pinned : Pinned := { name := "ytlehhfmbdcmpoaa", sum := "e85aa637a8136fed9b79e7e71ac67c26d168b5a8d3579c56bed8cfb4bdb07d73", checked := Try.checked }
namespace Rows
def none {H : Type} : Left H := { results := [], args := [] }

/-- 'laws.FnExactBaseVertices': WHATEVER THE INPUT: true; the input reads as it did. -/
def fnExactBaseVerticesSpec : ChangeSpec := { name := "fnExactBaseVertices", fn := fun _ => fun
  | [d1, d2, d3] => { results := [.lit (.bool true)], args := [d1, d2, d3] }
  | _ => none }
def fnExactBaseVerticesRow : OpenClaim := { program := "ytlehhfmbdcmpoaa", sum := "e85aa637a8136fed9b79e7e71ac67c26d168b5a8d3579c56bed8cfb4bdb07d73", func := "loop.example/g01056/laws.FnExactBaseVertices", spec := "fnExactBaseVertices", unfollowed := true, recurses := true, apart := false }
def FnExactBaseVerticesSaid : Prop := fnExactBaseVerticesRow.holds Try.pinned (OpenSpec.ofChange fnExactBaseVerticesSpec)

/-- ITS FALSE NEIGHBOUR: 'it returns false'. Refute it at one input. -/
def fnExactBaseVerticesWrong : ChangeSpec := { name := "fnExactBaseVertices", fn := fun _ => fun
  | [d1, d2, d3] => { results := [.lit (.bool false)], args := [d1, d2, d3] }
  | _ => none }
def FnExactBaseVerticesWrongFalsely : Prop := fnExactBaseVerticesRow.holds Try.pinned (OpenSpec.ofChange fnExactBaseVerticesWrong)

/-- 'laws.FnFirings': WHATEVER THE INPUT: true; the input reads as it did. -/
def fnFiringsSpec : ChangeSpec := { name := "fnFirings", fn := fun _ => fun
  | [d1, d2] => { results := [.lit (.bool true)], args := [d1, d2] }
  | _ => none }
def fnFiringsRow : OpenClaim := { program := "ytlehhfmbdcmpoaa", sum := "e85aa637a8136fed9b79e7e71ac67c26d168b5a8d3579c56bed8cfb4bdb07d73", func := "loop.example/g01056/laws.FnFirings", spec := "fnFirings", unfollowed := true, recurses := true, apart := false }
def FnFiringsSaid : Prop := fnFiringsRow.holds Try.pinned (OpenSpec.ofChange fnFiringsSpec)

/-- ITS FALSE NEIGHBOUR: 'it returns false'. Refute it at one input. -/
def fnFiringsWrong : ChangeSpec := { name := "fnFirings", fn := fun _ => fun
  | [d1, d2] => { results := [.lit (.bool false)], args := [d1, d2] }
  | _ => none }
def FnFiringsWrongFalsely : Prop := fnFiringsRow.holds Try.pinned (OpenSpec.ofChange fnFiringsWrong)

/-- 'laws.FnPiles': WHATEVER THE INPUT: true; the input reads as it did. -/
def fnPilesSpec : ChangeSpec := { name := "fnPiles", fn := fun _ => fun
  | [d1, d2] => { results := [.lit (.bool true)], args := [d1, d2] }
  | _ => none }
def fnPilesRow : OpenClaim := { program := "ytlehhfmbdcmpoaa", sum := "e85aa637a8136fed9b79e7e71ac67c26d168b5a8d3579c56bed8cfb4bdb07d73", func := "loop.example/g01056/laws.FnPiles", spec := "fnPiles", unfollowed := true, recurses := true, apart := false }
def FnPilesSaid : Prop := fnPilesRow.holds Try.pinned (OpenSpec.ofChange fnPilesSpec)

/-- ITS FALSE NEIGHBOUR: 'it returns false'. Refute it at one input. -/
def fnPilesWrong : ChangeSpec := { name := "fnPiles", fn := fun _ => fun
  | [d1, d2] => { results := [.lit (.bool false)], args := [d1, d2] }
  | _ => none }
def FnPilesWrongFalsely : Prop := fnPilesRow.holds Try.pinned (OpenSpec.ofChange fnPilesWrong)

/-- 'laws.FnPileCounts': WHATEVER THE INPUT: true; the input reads as it did. -/
def fnPileCountsSpec : ChangeSpec := { name := "fnPileCounts", fn := fun _ => fun
  | [d1, d2] => { results := [.lit (.bool true)], args := [d1, d2] }
  | _ => none }
def fnPileCountsRow : OpenClaim := { program := "ytlehhfmbdcmpoaa", sum := "e85aa637a8136fed9b79e7e71ac67c26d168b5a8d3579c56bed8cfb4bdb07d73", func := "loop.example/g01056/laws.FnPileCounts", spec := "fnPileCounts", unfollowed := true, recurses := true, apart := false }
def FnPileCountsSaid : Prop := fnPileCountsRow.holds Try.pinned (OpenSpec.ofChange fnPileCountsSpec)

/-- ITS FALSE NEIGHBOUR: 'it returns false'. Refute it at one input. -/
def fnPileCountsWrong : ChangeSpec := { name := "fnPileCounts", fn := fun _ => fun
  | [d1, d2] => { results := [.lit (.bool false)], args := [d1, d2] }
  | _ => none }
def FnPileCountsWrongFalsely : Prop := fnPileCountsRow.holds Try.pinned (OpenSpec.ofChange fnPileCountsWrong)

/-- 'laws.FnRanks': WHATEVER THE INPUT: true; the input reads as it did. -/
def fnRanksSpec : ChangeSpec := { name := "fnRanks", fn := fun _ => fun
  | [d1, d2] => { results := [.lit (.bool true)], args := [d1, d2] }
  | _ => none }
def fnRanksRow : OpenClaim := { program := "ytlehhfmbdcmpoaa", sum := "e85aa637a8136fed9b79e7e71ac67c26d168b5a8d3579c56bed8cfb4bdb07d73", func := "loop.example/g01056/laws.FnRanks", spec := "fnRanks", unfollowed := true, recurses := true, apart := false }
def FnRanksSaid : Prop := fnRanksRow.holds Try.pinned (OpenSpec.ofChange fnRanksSpec)

/-- ITS FALSE NEIGHBOUR: 'it returns false'. Refute it at one input. -/
def fnRanksWrong : ChangeSpec := { name := "fnRanks", fn := fun _ => fun
  | [d1, d2] => { results := [.lit (.bool false)], args := [d1, d2] }
  | _ => none }
def FnRanksWrongFalsely : Prop := fnRanksRow.holds Try.pinned (OpenSpec.ofChange fnRanksWrong)

/-- 'laws.FnPencils': WHATEVER THE INPUT: true; the input reads as it did. -/
def fnPencilsSpec : ChangeSpec := { name := "fnPencils", fn := fun _ => fun
  | [d1, d2] => { results := [.lit (.bool true)], args := [d1, d2] }
  | _ => none }
def fnPencilsRow : OpenClaim := { program := "ytlehhfmbdcmpoaa", sum := "e85aa637a8136fed9b79e7e71ac67c26d168b5a8d3579c56bed8cfb4bdb07d73", func := "loop.example/g01056/laws.FnPencils", spec := "fnPencils", unfollowed := true, recurses := true, apart := false }
def FnPencilsSaid : Prop := fnPencilsRow.holds Try.pinned (OpenSpec.ofChange fnPencilsSpec)

/-- ITS FALSE NEIGHBOUR: 'it returns false'. Refute it at one input. -/
def fnPencilsWrong : ChangeSpec := { name := "fnPencils", fn := fun _ => fun
  | [d1, d2] => { results := [.lit (.bool false)], args := [d1, d2] }
  | _ => none }
def FnPencilsWrongFalsely : Prop := fnPencilsRow.holds Try.pinned (OpenSpec.ofChange fnPencilsWrong)

/- THE SECOND FORM. 'bulk': how many values and letters a reading holds, each counted each time it is reached (what is shared counts as often as it is met; a slice's spare places count too). A statement '..UptoSaid' is the law's where the arguments, and the package variables that the reading takes, are together of bulk at most 1048576: NARROWER than '..Said'. Prove '..Said' where nothing that the law and all that it calls make is longer than what came in: it says more and counts as full. Else prove '..UptoSaid'. A law counts once. -/
mutual
def uptoBulk {H : Type} : DataW H → Nat
  | .lit (.string bytes) => bytes.length + 1
  | .lit _ => 1
  | .nil => 1
  | .ptr d => uptoBulk d + 1
  | .slice elems spare => uptoBulkAll elems + uptoBulkAll spare + 1
  | .agg parts => uptoBulkAll parts + 1
  | .iface _ d => uptoBulk d + 1
  | .map entries => uptoBulkEntries entries + 1
  | .held _ => 1
def uptoBulkAll {H : Type} : List (DataW H) → Nat
  | [] => 0
  | d :: r => uptoBulk d + uptoBulkAll r
def uptoBulkEntries {H : Type} : List (Lit × DataW H) → Nat
  | [] => 0
  | x :: r => uptoBulkEntry x + uptoBulkEntries r
def uptoBulkEntry {H : Type} : Lit × DataW H → Nat
  | (.string bytes, d) => bytes.length + uptoBulk d + 1
  | (_, d) => uptoBulk d + 1
 end
def uptoSmall : (H : Type) → List (DataW H) → Bool := fun _ ds => decide (uptoBulkAll ds ≤ 1048576)
def OpenSpec.upto (s : _root_.Go.ChangeSpec) : _root_.Go.OpenSpec := { _root_.Go.OpenSpec.ofChange s with cond := some uptoSmall }

/-- 'laws.FnExactBaseVertices', WHERE WHAT IT READS IS OF BULK AT MOST 1048576: true; the input reads as it did. -/
def fnExactBaseVerticesUptoRow : OpenClaim := { program := "ytlehhfmbdcmpoaa", sum := "e85aa637a8136fed9b79e7e71ac67c26d168b5a8d3579c56bed8cfb4bdb07d73", func := "loop.example/g01056/laws.FnExactBaseVertices", spec := "fnExactBaseVertices", unfollowed := true, recurses := true, apart := false, narrowed := true }
def FnExactBaseVerticesUptoSaid : Prop := fnExactBaseVerticesUptoRow.holds Try.pinned (OpenSpec.upto fnExactBaseVerticesSpec)

/-- 'laws.FnFirings', WHERE WHAT IT READS IS OF BULK AT MOST 1048576: true; the input reads as it did. -/
def fnFiringsUptoRow : OpenClaim := { program := "ytlehhfmbdcmpoaa", sum := "e85aa637a8136fed9b79e7e71ac67c26d168b5a8d3579c56bed8cfb4bdb07d73", func := "loop.example/g01056/laws.FnFirings", spec := "fnFirings", unfollowed := true, recurses := true, apart := false, narrowed := true }
def FnFiringsUptoSaid : Prop := fnFiringsUptoRow.holds Try.pinned (OpenSpec.upto fnFiringsSpec)

/-- 'laws.FnPiles', WHERE WHAT IT READS IS OF BULK AT MOST 1048576: true; the input reads as it did. -/
def fnPilesUptoRow : OpenClaim := { program := "ytlehhfmbdcmpoaa", sum := "e85aa637a8136fed9b79e7e71ac67c26d168b5a8d3579c56bed8cfb4bdb07d73", func := "loop.example/g01056/laws.FnPiles", spec := "fnPiles", unfollowed := true, recurses := true, apart := false, narrowed := true }
def FnPilesUptoSaid : Prop := fnPilesUptoRow.holds Try.pinned (OpenSpec.upto fnPilesSpec)

/-- 'laws.FnPileCounts', WHERE WHAT IT READS IS OF BULK AT MOST 1048576: true; the input reads as it did. -/
def fnPileCountsUptoRow : OpenClaim := { program := "ytlehhfmbdcmpoaa", sum := "e85aa637a8136fed9b79e7e71ac67c26d168b5a8d3579c56bed8cfb4bdb07d73", func := "loop.example/g01056/laws.FnPileCounts", spec := "fnPileCounts", unfollowed := true, recurses := true, apart := false, narrowed := true }
def FnPileCountsUptoSaid : Prop := fnPileCountsUptoRow.holds Try.pinned (OpenSpec.upto fnPileCountsSpec)

/-- 'laws.FnRanks', WHERE WHAT IT READS IS OF BULK AT MOST 1048576: true; the input reads as it did. -/
def fnRanksUptoRow : OpenClaim := { program := "ytlehhfmbdcmpoaa", sum := "e85aa637a8136fed9b79e7e71ac67c26d168b5a8d3579c56bed8cfb4bdb07d73", func := "loop.example/g01056/laws.FnRanks", spec := "fnRanks", unfollowed := true, recurses := true, apart := false, narrowed := true }
def FnRanksUptoSaid : Prop := fnRanksUptoRow.holds Try.pinned (OpenSpec.upto fnRanksSpec)

/-- 'laws.FnPencils', WHERE WHAT IT READS IS OF BULK AT MOST 1048576: true; the input reads as it did. -/
def fnPencilsUptoRow : OpenClaim := { program := "ytlehhfmbdcmpoaa", sum := "e85aa637a8136fed9b79e7e71ac67c26d168b5a8d3579c56bed8cfb4bdb07d73", func := "loop.example/g01056/laws.FnPencils", spec := "fnPencils", unfollowed := true, recurses := true, apart := false, narrowed := true }
def FnPencilsUptoSaid : Prop := fnPencilsUptoRow.holds Try.pinned (OpenSpec.upto fnPencilsSpec)

end Rows
end Go.Proofs.Ytlehhfmbdcmpoaa
