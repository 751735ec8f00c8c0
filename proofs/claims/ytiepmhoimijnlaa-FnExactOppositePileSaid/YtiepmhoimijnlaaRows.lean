/-
  No cell of these rows narrows 'for every input' (looked for: loops, veiled, ifaces, maps, wideKeys, modest, calm, conditions, laid).
  DERIVED. THE GIVEN ROWS OF THIS SEAT. 12 by the template 'for every input the law returns true; each argument reads behind the call as it read before'; 0 by the template 'total and deterministic' (their statements: YtiepmhoimijnlaaTotals.lean).
  GIVEN WITH THE SEED: the statements are not yours to turn. If you find one false, say at which input.
  Laid BY PROGRAM, IN A SANDBOX (cutbox-rows.mjs): the forced cells as the released guide's own fill.sh prints them over the translation 116d3f95c57478ef… (all of the seat's roots in one cut). By AI agents, Wed Nov 11 2026. No macro, syntax, notation, axiom, sorry.
-/
import Derived.Test.YtiepmhoimijnlaaChecked
import GoSem.Claim
import GoSem.ClaimJoined
import GoSem.ClaimMapViews
import Derived.JoinedTies
import Derived.KernelRfl
namespace Go.Proofs.Ytiepmhoimijnlaa
/- THE CELL 'sum', in the pinned program and in every row, IS THE sha256 OF THE DUMP (.gsa) THAT YtiepmhoimijnlaaProg.lean LOADS. Nothing in Lean hashes anything: it is a label: what it is worth is what the hold of that sum in a sandbox is worth. -/
noncomputable def Try.pinned : Pinned := { name := "ytiepmhoimijnlaa", sum := "116d3f95c57478ef8e24a6ae410d01c71a738206d06c374d99dc22c90aa1234f", checked := Try.checked }
namespace Rows
def none {H : Type} : Left H := { results := [], args := [] }

/-- 'laws.FnExactDualChips': WHATEVER THE INPUT: true; the input reads as it did. -/
def fnExactDualChipsSpec : ChangeSpec := { name := "fnExactDualChips", fn := fun _ => fun
  | [d1, d2, d3] => { results := [.lit (.bool true)], args := [d1, d2, d3] }
  | _ => none }
def fnExactDualChipsRow : OpenClaim := { program := "ytiepmhoimijnlaa", sum := "116d3f95c57478ef8e24a6ae410d01c71a738206d06c374d99dc22c90aa1234f", func := "loop.example/g01056/laws.FnExactDualChips", spec := "fnExactDualChips", unfollowed := true, recurses := true, apart := false }
def FnExactDualChipsSaid : Prop := fnExactDualChipsRow.holds Try.pinned (OpenSpec.ofChange fnExactDualChipsSpec)

/-- ITS FALSE NEIGHBOUR: 'it returns false'. Refute it at one input. -/
def fnExactDualChipsWrong : ChangeSpec := { name := "fnExactDualChips", fn := fun _ => fun
  | [d1, d2, d3] => { results := [.lit (.bool false)], args := [d1, d2, d3] }
  | _ => none }
def FnExactDualChipsWrongFalsely : Prop := fnExactDualChipsRow.holds Try.pinned (OpenSpec.ofChange fnExactDualChipsWrong)

/-- 'laws.FnExactIsRecurrent': WHATEVER THE INPUT: true; the input reads as it did. -/
def fnExactIsRecurrentSpec : ChangeSpec := { name := "fnExactIsRecurrent", fn := fun _ => fun
  | [d1, d2, d3, d4] => { results := [.lit (.bool true)], args := [d1, d2, d3, d4] }
  | _ => none }
def fnExactIsRecurrentRow : OpenClaim := { program := "ytiepmhoimijnlaa", sum := "116d3f95c57478ef8e24a6ae410d01c71a738206d06c374d99dc22c90aa1234f", func := "loop.example/g01056/laws.FnExactIsRecurrent", spec := "fnExactIsRecurrent", unfollowed := true, recurses := true, apart := false }
def FnExactIsRecurrentSaid : Prop := fnExactIsRecurrentRow.holds Try.pinned (OpenSpec.ofChange fnExactIsRecurrentSpec)

/-- ITS FALSE NEIGHBOUR: 'it returns false'. Refute it at one input. -/
def fnExactIsRecurrentWrong : ChangeSpec := { name := "fnExactIsRecurrent", fn := fun _ => fun
  | [d1, d2, d3, d4] => { results := [.lit (.bool false)], args := [d1, d2, d3, d4] }
  | _ => none }
def FnExactIsRecurrentWrongFalsely : Prop := fnExactIsRecurrentRow.holds Try.pinned (OpenSpec.ofChange fnExactIsRecurrentWrong)

/-- 'laws.FnExactIdentityPile': WHATEVER THE INPUT: true; the input reads as it did. -/
def fnExactIdentityPileSpec : ChangeSpec := { name := "fnExactIdentityPile", fn := fun _ => fun
  | [d1, d2, d3] => { results := [.lit (.bool true)], args := [d1, d2, d3] }
  | _ => none }
def fnExactIdentityPileRow : OpenClaim := { program := "ytiepmhoimijnlaa", sum := "116d3f95c57478ef8e24a6ae410d01c71a738206d06c374d99dc22c90aa1234f", func := "loop.example/g01056/laws.FnExactIdentityPile", spec := "fnExactIdentityPile", unfollowed := true, recurses := true, apart := false }
def FnExactIdentityPileSaid : Prop := fnExactIdentityPileRow.holds Try.pinned (OpenSpec.ofChange fnExactIdentityPileSpec)

/-- ITS FALSE NEIGHBOUR: 'it returns false'. Refute it at one input. -/
def fnExactIdentityPileWrong : ChangeSpec := { name := "fnExactIdentityPile", fn := fun _ => fun
  | [d1, d2, d3] => { results := [.lit (.bool false)], args := [d1, d2, d3] }
  | _ => none }
def FnExactIdentityPileWrongFalsely : Prop := fnExactIdentityPileRow.holds Try.pinned (OpenSpec.ofChange fnExactIdentityPileWrong)

/-- 'laws.FnExactRecurrentPiles': WHATEVER THE INPUT: true; the input reads as it did. -/
def fnExactRecurrentPilesSpec : ChangeSpec := { name := "fnExactRecurrentPiles", fn := fun _ => fun
  | [d1, d2, d3] => { results := [.lit (.bool true)], args := [d1, d2, d3] }
  | _ => none }
def fnExactRecurrentPilesRow : OpenClaim := { program := "ytiepmhoimijnlaa", sum := "116d3f95c57478ef8e24a6ae410d01c71a738206d06c374d99dc22c90aa1234f", func := "loop.example/g01056/laws.FnExactRecurrentPiles", spec := "fnExactRecurrentPiles", unfollowed := true, recurses := true, apart := false }
def FnExactRecurrentPilesSaid : Prop := fnExactRecurrentPilesRow.holds Try.pinned (OpenSpec.ofChange fnExactRecurrentPilesSpec)

/-- ITS FALSE NEIGHBOUR: 'it returns false'. Refute it at one input. -/
def fnExactRecurrentPilesWrong : ChangeSpec := { name := "fnExactRecurrentPiles", fn := fun _ => fun
  | [d1, d2, d3] => { results := [.lit (.bool false)], args := [d1, d2, d3] }
  | _ => none }
def FnExactRecurrentPilesWrongFalsely : Prop := fnExactRecurrentPilesRow.holds Try.pinned (OpenSpec.ofChange fnExactRecurrentPilesWrong)

/-- 'laws.FnExactGonalityOf': WHATEVER THE INPUT: true; the input reads as it did. -/
def fnExactGonalityOfSpec : ChangeSpec := { name := "fnExactGonalityOf", fn := fun _ => fun
  | [d1, d2] => { results := [.lit (.bool true)], args := [d1, d2] }
  | _ => none }
def fnExactGonalityOfRow : OpenClaim := { program := "ytiepmhoimijnlaa", sum := "116d3f95c57478ef8e24a6ae410d01c71a738206d06c374d99dc22c90aa1234f", func := "loop.example/g01056/laws.FnExactGonalityOf", spec := "fnExactGonalityOf", unfollowed := true, recurses := true, apart := false }
def FnExactGonalityOfSaid : Prop := fnExactGonalityOfRow.holds Try.pinned (OpenSpec.ofChange fnExactGonalityOfSpec)

/-- ITS FALSE NEIGHBOUR: 'it returns false'. Refute it at one input. -/
def fnExactGonalityOfWrong : ChangeSpec := { name := "fnExactGonalityOf", fn := fun _ => fun
  | [d1, d2] => { results := [.lit (.bool false)], args := [d1, d2] }
  | _ => none }
def FnExactGonalityOfWrongFalsely : Prop := fnExactGonalityOfRow.holds Try.pinned (OpenSpec.ofChange fnExactGonalityOfWrong)

/-- 'laws.FnExactOrderOfPile': WHATEVER THE INPUT: true; the input reads as it did. -/
def fnExactOrderOfPileSpec : ChangeSpec := { name := "fnExactOrderOfPile", fn := fun _ => fun
  | [d1, d2, d3, d4] => { results := [.lit (.bool true)], args := [d1, d2, d3, d4] }
  | _ => none }
def fnExactOrderOfPileRow : OpenClaim := { program := "ytiepmhoimijnlaa", sum := "116d3f95c57478ef8e24a6ae410d01c71a738206d06c374d99dc22c90aa1234f", func := "loop.example/g01056/laws.FnExactOrderOfPile", spec := "fnExactOrderOfPile", unfollowed := true, recurses := true, apart := false }
def FnExactOrderOfPileSaid : Prop := fnExactOrderOfPileRow.holds Try.pinned (OpenSpec.ofChange fnExactOrderOfPileSpec)

/-- ITS FALSE NEIGHBOUR: 'it returns false'. Refute it at one input. -/
def fnExactOrderOfPileWrong : ChangeSpec := { name := "fnExactOrderOfPile", fn := fun _ => fun
  | [d1, d2, d3, d4] => { results := [.lit (.bool false)], args := [d1, d2, d3, d4] }
  | _ => none }
def FnExactOrderOfPileWrongFalsely : Prop := fnExactOrderOfPileRow.holds Try.pinned (OpenSpec.ofChange fnExactOrderOfPileWrong)

/-- 'laws.FnExactIsSpecialChips': WHATEVER THE INPUT: true; the input reads as it did. -/
def fnExactIsSpecialChipsSpec : ChangeSpec := { name := "fnExactIsSpecialChips", fn := fun _ => fun
  | [d1, d2, d3] => { results := [.lit (.bool true)], args := [d1, d2, d3] }
  | _ => none }
def fnExactIsSpecialChipsRow : OpenClaim := { program := "ytiepmhoimijnlaa", sum := "116d3f95c57478ef8e24a6ae410d01c71a738206d06c374d99dc22c90aa1234f", func := "loop.example/g01056/laws.FnExactIsSpecialChips", spec := "fnExactIsSpecialChips", unfollowed := true, recurses := true, apart := false }
def FnExactIsSpecialChipsSaid : Prop := fnExactIsSpecialChipsRow.holds Try.pinned (OpenSpec.ofChange fnExactIsSpecialChipsSpec)

/-- ITS FALSE NEIGHBOUR: 'it returns false'. Refute it at one input. -/
def fnExactIsSpecialChipsWrong : ChangeSpec := { name := "fnExactIsSpecialChips", fn := fun _ => fun
  | [d1, d2, d3] => { results := [.lit (.bool false)], args := [d1, d2, d3] }
  | _ => none }
def FnExactIsSpecialChipsWrongFalsely : Prop := fnExactIsSpecialChipsRow.holds Try.pinned (OpenSpec.ofChange fnExactIsSpecialChipsWrong)

/-- 'laws.FnExactOppositePile': WHATEVER THE INPUT: true; the input reads as it did. -/
def fnExactOppositePileSpec : ChangeSpec := { name := "fnExactOppositePile", fn := fun _ => fun
  | [d1, d2, d3, d4] => { results := [.lit (.bool true)], args := [d1, d2, d3, d4] }
  | _ => none }
def fnExactOppositePileRow : OpenClaim := { program := "ytiepmhoimijnlaa", sum := "116d3f95c57478ef8e24a6ae410d01c71a738206d06c374d99dc22c90aa1234f", func := "loop.example/g01056/laws.FnExactOppositePile", spec := "fnExactOppositePile", unfollowed := true, recurses := true, apart := false }
def FnExactOppositePileSaid : Prop := fnExactOppositePileRow.holds Try.pinned (OpenSpec.ofChange fnExactOppositePileSpec)

/-- ITS FALSE NEIGHBOUR: 'it returns false'. Refute it at one input. -/
def fnExactOppositePileWrong : ChangeSpec := { name := "fnExactOppositePile", fn := fun _ => fun
  | [d1, d2, d3, d4] => { results := [.lit (.bool false)], args := [d1, d2, d3, d4] }
  | _ => none }
def FnExactOppositePileWrongFalsely : Prop := fnExactOppositePileRow.holds Try.pinned (OpenSpec.ofChange fnExactOppositePileWrong)

/-- 'laws.FnExactFirstPencil': WHATEVER THE INPUT: true; the input reads as it did. -/
def fnExactFirstPencilSpec : ChangeSpec := { name := "fnExactFirstPencil", fn := fun _ => fun
  | [d1, d2] => { results := [.lit (.bool true)], args := [d1, d2] }
  | _ => none }
def fnExactFirstPencilRow : OpenClaim := { program := "ytiepmhoimijnlaa", sum := "116d3f95c57478ef8e24a6ae410d01c71a738206d06c374d99dc22c90aa1234f", func := "loop.example/g01056/laws.FnExactFirstPencil", spec := "fnExactFirstPencil", unfollowed := true, recurses := true, apart := false }
def FnExactFirstPencilSaid : Prop := fnExactFirstPencilRow.holds Try.pinned (OpenSpec.ofChange fnExactFirstPencilSpec)

/-- ITS FALSE NEIGHBOUR: 'it returns false'. Refute it at one input. -/
def fnExactFirstPencilWrong : ChangeSpec := { name := "fnExactFirstPencil", fn := fun _ => fun
  | [d1, d2] => { results := [.lit (.bool false)], args := [d1, d2] }
  | _ => none }
def FnExactFirstPencilWrongFalsely : Prop := fnExactFirstPencilRow.holds Try.pinned (OpenSpec.ofChange fnExactFirstPencilWrong)

/-- 'laws.FnExactRankOfChips': WHATEVER THE INPUT: true; the input reads as it did. -/
def fnExactRankOfChipsSpec : ChangeSpec := { name := "fnExactRankOfChips", fn := fun _ => fun
  | [d1, d2, d3] => { results := [.lit (.bool true)], args := [d1, d2, d3] }
  | _ => none }
def fnExactRankOfChipsRow : OpenClaim := { program := "ytiepmhoimijnlaa", sum := "116d3f95c57478ef8e24a6ae410d01c71a738206d06c374d99dc22c90aa1234f", func := "loop.example/g01056/laws.FnExactRankOfChips", spec := "fnExactRankOfChips", unfollowed := true, recurses := true, apart := false }
def FnExactRankOfChipsSaid : Prop := fnExactRankOfChipsRow.holds Try.pinned (OpenSpec.ofChange fnExactRankOfChipsSpec)

/-- ITS FALSE NEIGHBOUR: 'it returns false'. Refute it at one input. -/
def fnExactRankOfChipsWrong : ChangeSpec := { name := "fnExactRankOfChips", fn := fun _ => fun
  | [d1, d2, d3] => { results := [.lit (.bool false)], args := [d1, d2, d3] }
  | _ => none }
def FnExactRankOfChipsWrongFalsely : Prop := fnExactRankOfChipsRow.holds Try.pinned (OpenSpec.ofChange fnExactRankOfChipsWrong)

/-- 'laws.FnExactBreakingChips': WHATEVER THE INPUT: true; the input reads as it did. -/
def fnExactBreakingChipsSpec : ChangeSpec := { name := "fnExactBreakingChips", fn := fun _ => fun
  | [d1, d2, d3, d4] => { results := [.lit (.bool true)], args := [d1, d2, d3, d4] }
  | _ => none }
def fnExactBreakingChipsRow : OpenClaim := { program := "ytiepmhoimijnlaa", sum := "116d3f95c57478ef8e24a6ae410d01c71a738206d06c374d99dc22c90aa1234f", func := "loop.example/g01056/laws.FnExactBreakingChips", spec := "fnExactBreakingChips", unfollowed := true, recurses := true, apart := false }
def FnExactBreakingChipsSaid : Prop := fnExactBreakingChipsRow.holds Try.pinned (OpenSpec.ofChange fnExactBreakingChipsSpec)

/-- ITS FALSE NEIGHBOUR: 'it returns false'. Refute it at one input. -/
def fnExactBreakingChipsWrong : ChangeSpec := { name := "fnExactBreakingChips", fn := fun _ => fun
  | [d1, d2, d3, d4] => { results := [.lit (.bool false)], args := [d1, d2, d3, d4] }
  | _ => none }
def FnExactBreakingChipsWrongFalsely : Prop := fnExactBreakingChipsRow.holds Try.pinned (OpenSpec.ofChange fnExactBreakingChipsWrong)

/-- 'laws.FnExactRankBalance': WHATEVER THE INPUT: true; the input reads as it did. -/
def fnExactRankBalanceSpec : ChangeSpec := { name := "fnExactRankBalance", fn := fun _ => fun
  | [d1, d2, d3] => { results := [.lit (.bool true)], args := [d1, d2, d3] }
  | _ => none }
def fnExactRankBalanceRow : OpenClaim := { program := "ytiepmhoimijnlaa", sum := "116d3f95c57478ef8e24a6ae410d01c71a738206d06c374d99dc22c90aa1234f", func := "loop.example/g01056/laws.FnExactRankBalance", spec := "fnExactRankBalance", unfollowed := true, recurses := true, apart := false }
def FnExactRankBalanceSaid : Prop := fnExactRankBalanceRow.holds Try.pinned (OpenSpec.ofChange fnExactRankBalanceSpec)

/-- ITS FALSE NEIGHBOUR: 'it returns false'. Refute it at one input. -/
def fnExactRankBalanceWrong : ChangeSpec := { name := "fnExactRankBalance", fn := fun _ => fun
  | [d1, d2, d3] => { results := [.lit (.bool false)], args := [d1, d2, d3] }
  | _ => none }
def FnExactRankBalanceWrongFalsely : Prop := fnExactRankBalanceRow.holds Try.pinned (OpenSpec.ofChange fnExactRankBalanceWrong)

/- THE SECOND FORM. 'bulk': how many values and letters a reading holds, each counted each time it is reached (what is shared counts as often as it is met; a slice's spare places count too). A statement '..UptoSaid' is the law's where the arguments, and the package variables that the reading takes, are together of bulk at most 1048576: NARROWER than '..Said'. Prove '..Said' where nothing that the law and all that it calls make is longer than what came in: it says more and counts as full. Else prove '..UptoSaid'. A law counts once. -/
mutual
def uptoBulk {H : Type} : DataW H → Nat
  | .lit (.string bytes) => bytes.length + 1
  | .lit _ => 1
  | .nil => 1
  | .ptr d => uptoBulk d + 1
  | .slice elems spare => uptoBulkAll elems + uptoBulkAll spare + 1
  | .agg parts => uptoBulkAll parts + 1
  | .iface _ d => uptoBulk d + 1
  | .map entries => uptoBulkEntries entries + 1
  | .held _ => 1
def uptoBulkAll {H : Type} : List (DataW H) → Nat
  | [] => 0
  | d :: r => uptoBulk d + uptoBulkAll r
def uptoBulkEntries {H : Type} : List (Lit × DataW H) → Nat
  | [] => 0
  | x :: r => uptoBulkEntry x + uptoBulkEntries r
def uptoBulkEntry {H : Type} : Lit × DataW H → Nat
  | (.string bytes, d) => bytes.length + uptoBulk d + 1
  | (_, d) => uptoBulk d + 1
 end
def uptoSmall : (H : Type) → List (DataW H) → Bool := fun _ ds => decide (uptoBulkAll ds ≤ 1048576)
def OpenSpec.upto (s : _root_.Go.ChangeSpec) : _root_.Go.OpenSpec := { _root_.Go.OpenSpec.ofChange s with cond := some uptoSmall }

/-- 'laws.FnExactDualChips', WHERE WHAT IT READS IS OF BULK AT MOST 1048576: true; the input reads as it did. -/
def fnExactDualChipsUptoRow : OpenClaim := { program := "ytiepmhoimijnlaa", sum := "116d3f95c57478ef8e24a6ae410d01c71a738206d06c374d99dc22c90aa1234f", func := "loop.example/g01056/laws.FnExactDualChips", spec := "fnExactDualChips", unfollowed := true, recurses := true, apart := false, narrowed := true }
def FnExactDualChipsUptoSaid : Prop := fnExactDualChipsUptoRow.holds Try.pinned (OpenSpec.upto fnExactDualChipsSpec)

/-- 'laws.FnExactIsRecurrent', WHERE WHAT IT READS IS OF BULK AT MOST 1048576: true; the input reads as it did. -/
def fnExactIsRecurrentUptoRow : OpenClaim := { program := "ytiepmhoimijnlaa", sum := "116d3f95c57478ef8e24a6ae410d01c71a738206d06c374d99dc22c90aa1234f", func := "loop.example/g01056/laws.FnExactIsRecurrent", spec := "fnExactIsRecurrent", unfollowed := true, recurses := true, apart := false, narrowed := true }
def FnExactIsRecurrentUptoSaid : Prop := fnExactIsRecurrentUptoRow.holds Try.pinned (OpenSpec.upto fnExactIsRecurrentSpec)

/-- 'laws.FnExactIdentityPile', WHERE WHAT IT READS IS OF BULK AT MOST 1048576: true; the input reads as it did. -/
def fnExactIdentityPileUptoRow : OpenClaim := { program := "ytiepmhoimijnlaa", sum := "116d3f95c57478ef8e24a6ae410d01c71a738206d06c374d99dc22c90aa1234f", func := "loop.example/g01056/laws.FnExactIdentityPile", spec := "fnExactIdentityPile", unfollowed := true, recurses := true, apart := false, narrowed := true }
def FnExactIdentityPileUptoSaid : Prop := fnExactIdentityPileUptoRow.holds Try.pinned (OpenSpec.upto fnExactIdentityPileSpec)

/-- 'laws.FnExactRecurrentPiles', WHERE WHAT IT READS IS OF BULK AT MOST 1048576: true; the input reads as it did. -/
def fnExactRecurrentPilesUptoRow : OpenClaim := { program := "ytiepmhoimijnlaa", sum := "116d3f95c57478ef8e24a6ae410d01c71a738206d06c374d99dc22c90aa1234f", func := "loop.example/g01056/laws.FnExactRecurrentPiles", spec := "fnExactRecurrentPiles", unfollowed := true, recurses := true, apart := false, narrowed := true }
def FnExactRecurrentPilesUptoSaid : Prop := fnExactRecurrentPilesUptoRow.holds Try.pinned (OpenSpec.upto fnExactRecurrentPilesSpec)

/-- 'laws.FnExactGonalityOf', WHERE WHAT IT READS IS OF BULK AT MOST 1048576: true; the input reads as it did. -/
def fnExactGonalityOfUptoRow : OpenClaim := { program := "ytiepmhoimijnlaa", sum := "116d3f95c57478ef8e24a6ae410d01c71a738206d06c374d99dc22c90aa1234f", func := "loop.example/g01056/laws.FnExactGonalityOf", spec := "fnExactGonalityOf", unfollowed := true, recurses := true, apart := false, narrowed := true }
def FnExactGonalityOfUptoSaid : Prop := fnExactGonalityOfUptoRow.holds Try.pinned (OpenSpec.upto fnExactGonalityOfSpec)

/-- 'laws.FnExactOrderOfPile', WHERE WHAT IT READS IS OF BULK AT MOST 1048576: true; the input reads as it did. -/
def fnExactOrderOfPileUptoRow : OpenClaim := { program := "ytiepmhoimijnlaa", sum := "116d3f95c57478ef8e24a6ae410d01c71a738206d06c374d99dc22c90aa1234f", func := "loop.example/g01056/laws.FnExactOrderOfPile", spec := "fnExactOrderOfPile", unfollowed := true, recurses := true, apart := false, narrowed := true }
def FnExactOrderOfPileUptoSaid : Prop := fnExactOrderOfPileUptoRow.holds Try.pinned (OpenSpec.upto fnExactOrderOfPileSpec)

/-- 'laws.FnExactIsSpecialChips', WHERE WHAT IT READS IS OF BULK AT MOST 1048576: true; the input reads as it did. -/
def fnExactIsSpecialChipsUptoRow : OpenClaim := { program := "ytiepmhoimijnlaa", sum := "116d3f95c57478ef8e24a6ae410d01c71a738206d06c374d99dc22c90aa1234f", func := "loop.example/g01056/laws.FnExactIsSpecialChips", spec := "fnExactIsSpecialChips", unfollowed := true, recurses := true, apart := false, narrowed := true }
def FnExactIsSpecialChipsUptoSaid : Prop := fnExactIsSpecialChipsUptoRow.holds Try.pinned (OpenSpec.upto fnExactIsSpecialChipsSpec)

/-- 'laws.FnExactOppositePile', WHERE WHAT IT READS IS OF BULK AT MOST 1048576: true; the input reads as it did. -/
def fnExactOppositePileUptoRow : OpenClaim := { program := "ytiepmhoimijnlaa", sum := "116d3f95c57478ef8e24a6ae410d01c71a738206d06c374d99dc22c90aa1234f", func := "loop.example/g01056/laws.FnExactOppositePile", spec := "fnExactOppositePile", unfollowed := true, recurses := true, apart := false, narrowed := true }
def FnExactOppositePileUptoSaid : Prop := fnExactOppositePileUptoRow.holds Try.pinned (OpenSpec.upto fnExactOppositePileSpec)

/-- 'laws.FnExactFirstPencil', WHERE WHAT IT READS IS OF BULK AT MOST 1048576: true; the input reads as it did. -/
def fnExactFirstPencilUptoRow : OpenClaim := { program := "ytiepmhoimijnlaa", sum := "116d3f95c57478ef8e24a6ae410d01c71a738206d06c374d99dc22c90aa1234f", func := "loop.example/g01056/laws.FnExactFirstPencil", spec := "fnExactFirstPencil", unfollowed := true, recurses := true, apart := false, narrowed := true }
def FnExactFirstPencilUptoSaid : Prop := fnExactFirstPencilUptoRow.holds Try.pinned (OpenSpec.upto fnExactFirstPencilSpec)

/-- 'laws.FnExactRankOfChips', WHERE WHAT IT READS IS OF BULK AT MOST 1048576: true; the input reads as it did. -/
def fnExactRankOfChipsUptoRow : OpenClaim := { program := "ytiepmhoimijnlaa", sum := "116d3f95c57478ef8e24a6ae410d01c71a738206d06c374d99dc22c90aa1234f", func := "loop.example/g01056/laws.FnExactRankOfChips", spec := "fnExactRankOfChips", unfollowed := true, recurses := true, apart := false, narrowed := true }
def FnExactRankOfChipsUptoSaid : Prop := fnExactRankOfChipsUptoRow.holds Try.pinned (OpenSpec.upto fnExactRankOfChipsSpec)

/-- 'laws.FnExactBreakingChips', WHERE WHAT IT READS IS OF BULK AT MOST 1048576: true; the input reads as it did. -/
def fnExactBreakingChipsUptoRow : OpenClaim := { program := "ytiepmhoimijnlaa", sum := "116d3f95c57478ef8e24a6ae410d01c71a738206d06c374d99dc22c90aa1234f", func := "loop.example/g01056/laws.FnExactBreakingChips", spec := "fnExactBreakingChips", unfollowed := true, recurses := true, apart := false, narrowed := true }
def FnExactBreakingChipsUptoSaid : Prop := fnExactBreakingChipsUptoRow.holds Try.pinned (OpenSpec.upto fnExactBreakingChipsSpec)

/-- 'laws.FnExactRankBalance', WHERE WHAT IT READS IS OF BULK AT MOST 1048576: true; the input reads as it did. -/
def fnExactRankBalanceUptoRow : OpenClaim := { program := "ytiepmhoimijnlaa", sum := "116d3f95c57478ef8e24a6ae410d01c71a738206d06c374d99dc22c90aa1234f", func := "loop.example/g01056/laws.FnExactRankBalance", spec := "fnExactRankBalance", unfollowed := true, recurses := true, apart := false, narrowed := true }
def FnExactRankBalanceUptoSaid : Prop := fnExactRankBalanceUptoRow.holds Try.pinned (OpenSpec.upto fnExactRankBalanceSpec)

end Rows
end Go.Proofs.Ytiepmhoimijnlaa
