/-
  No cell of these rows narrows 'for every input' (looked for: loops, veiled, ifaces, maps, wideKeys, modest, calm, conditions, laid).
  DERIVED. THE GIVEN ROWS OF THIS SEAT. 4 by the template 'for every input the law returns true; each argument reads behind the call as it read before'; 0 by the template 'total and deterministic' (their statements: YtcgcgmlonhganaaTotals.lean).
  GIVEN WITH THE SEED: the statements are not yours to turn. If you find one false, say at which input.
  Laid BY PROGRAM, IN A SANDBOX (cutbox-rows.mjs): the forced cells as the released guide's own fill.sh prints them over the translation 26810d94646f59b0… (all of the seat's roots in one cut). By AI agents, Wed Nov 11 2026. No macro, syntax, notation, axiom, sorry.
-/
import Derived.Test.YtcgcgmlonhganaaChecked
import GoSem.Claim
import GoSem.ClaimJoined
import GoSem.ClaimMapViews
import Derived.JoinedTies
import Derived.KernelRfl
namespace Go.Proofs.Ytcgcgmlonhganaa
/- THE CELL 'sum', in the pinned program and in every row, IS THE sha256 OF THE DUMP (.gsa) THAT YtcgcgmlonhganaaProg.lean LOADS. Nothing in Lean hashes anything: it is a label: what it is worth is what the hold of that sum in a sandbox is worth. -/
noncomputable def Try.pinned : Pinned := { name := "ytcgcgmlonhganaa", sum := "26810d94646f59b0a436dad37059fe919254a8da6754b4d666ae6b684c0b8394", checked := Try.checked }
namespace Rows
def none {H : Type} : Left H := { results := [], args := [] }

/-- 'laws.FnExactFourSums': WHATEVER THE INPUT: true; the input reads as it did. -/
def fnExactFourSumsSpec : ChangeSpec := { name := "fnExactFourSums", fn := fun _ => fun
  | [d1, d2, d3, d4, d5] => { results := [.lit (.bool true)], args := [d1, d2, d3, d4, d5] }
  | _ => none }
def fnExactFourSumsRow : OpenClaim := { program := "ytcgcgmlonhganaa", sum := "26810d94646f59b0a436dad37059fe919254a8da6754b4d666ae6b684c0b8394", func := "loop.example/g01056/laws.FnExactFourSums", spec := "fnExactFourSums", unfollowed := true, recurses := true, apart := false }
def FnExactFourSumsSaid : Prop := fnExactFourSumsRow.holds Try.pinned (OpenSpec.ofChange fnExactFourSumsSpec)

/-- ITS FALSE NEIGHBOUR: 'it returns false'. Refute it at one input. -/
def fnExactFourSumsWrong : ChangeSpec := { name := "fnExactFourSums", fn := fun _ => fun
  | [d1, d2, d3, d4, d5] => { results := [.lit (.bool false)], args := [d1, d2, d3, d4, d5] }
  | _ => none }
def FnExactFourSumsWrongFalsely : Prop := fnExactFourSumsRow.holds Try.pinned (OpenSpec.ofChange fnExactFourSumsWrong)

/-- 'laws.FnExactCherriesOf': WHATEVER THE INPUT: true; the input reads as it did. -/
def fnExactCherriesOfSpec : ChangeSpec := { name := "fnExactCherriesOf", fn := fun _ => fun
  | [d] => { results := [.lit (.bool true)], args := [d] }
  | _ => none }
def fnExactCherriesOfRow : OpenClaim := { program := "ytcgcgmlonhganaa", sum := "26810d94646f59b0a436dad37059fe919254a8da6754b4d666ae6b684c0b8394", func := "loop.example/g01056/laws.FnExactCherriesOf", spec := "fnExactCherriesOf", unfollowed := true, recurses := true, apart := false }
def FnExactCherriesOfSaid : Prop := fnExactCherriesOfRow.holds Try.pinned (OpenSpec.ofChange fnExactCherriesOfSpec)

/-- ITS FALSE NEIGHBOUR: 'it returns false'. Refute it at one input. -/
def fnExactCherriesOfWrong : ChangeSpec := { name := "fnExactCherriesOf", fn := fun _ => fun
  | [d] => { results := [.lit (.bool false)], args := [d] }
  | _ => none }
def FnExactCherriesOfWrongFalsely : Prop := fnExactCherriesOfRow.holds Try.pinned (OpenSpec.ofChange fnExactCherriesOfWrong)

/-- 'laws.FnMetrics': WHATEVER THE INPUT: true; the input reads as it did. -/
def fnMetricsSpec : ChangeSpec := { name := "fnMetrics", fn := fun _ => fun
  | [d1, d2] => { results := [.lit (.bool true)], args := [d1, d2] }
  | _ => none }
def fnMetricsRow : OpenClaim := { program := "ytcgcgmlonhganaa", sum := "26810d94646f59b0a436dad37059fe919254a8da6754b4d666ae6b684c0b8394", func := "loop.example/g01056/laws.FnMetrics", spec := "fnMetrics", unfollowed := true, recurses := true, apart := false }
def FnMetricsSaid : Prop := fnMetricsRow.holds Try.pinned (OpenSpec.ofChange fnMetricsSpec)

/-- ITS FALSE NEIGHBOUR: 'it returns false'. Refute it at one input. -/
def fnMetricsWrong : ChangeSpec := { name := "fnMetrics", fn := fun _ => fun
  | [d1, d2] => { results := [.lit (.bool false)], args := [d1, d2] }
  | _ => none }
def FnMetricsWrongFalsely : Prop := fnMetricsRow.holds Try.pinned (OpenSpec.ofChange fnMetricsWrong)

/-- 'laws.FnTreeMetrics': WHATEVER THE INPUT: true; the input reads as it did. -/
def fnTreeMetricsSpec : ChangeSpec := { name := "fnTreeMetrics", fn := fun _ => fun
  | [d1, d2] => { results := [.lit (.bool true)], args := [d1, d2] }
  | _ => none }
def fnTreeMetricsRow : OpenClaim := { program := "ytcgcgmlonhganaa", sum := "26810d94646f59b0a436dad37059fe919254a8da6754b4d666ae6b684c0b8394", func := "loop.example/g01056/laws.FnTreeMetrics", spec := "fnTreeMetrics", unfollowed := true, recurses := true, apart := false }
def FnTreeMetricsSaid : Prop := fnTreeMetricsRow.holds Try.pinned (OpenSpec.ofChange fnTreeMetricsSpec)

/-- ITS FALSE NEIGHBOUR: 'it returns false'. Refute it at one input. -/
def fnTreeMetricsWrong : ChangeSpec := { name := "fnTreeMetrics", fn := fun _ => fun
  | [d1, d2] => { results := [.lit (.bool false)], args := [d1, d2] }
  | _ => none }
def FnTreeMetricsWrongFalsely : Prop := fnTreeMetricsRow.holds Try.pinned (OpenSpec.ofChange fnTreeMetricsWrong)

/- THE SECOND FORM. 'bulk': how many values and letters a reading holds, each counted each time it is reached (what is shared counts as often as it is met; a slice's spare places count too). A statement '..UptoSaid' is the law's where the arguments, and the package variables that the reading takes, are together of bulk at most 1048576: NARROWER than '..Said'. Prove '..Said' where nothing that the law and all that it calls make is longer than what came in: it says more and counts as full. Else prove '..UptoSaid'. A law counts once. -/
mutual
def uptoBulk {H : Type} : DataW H → Nat
  | .lit (.string bytes) => bytes.length + 1
  | .lit _ => 1
  | .nil => 1
  | .ptr d => uptoBulk d + 1
  | .slice elems spare => uptoBulkAll elems + uptoBulkAll spare + 1
  | .agg parts => uptoBulkAll parts + 1
  | .iface _ d => uptoBulk d + 1
  | .map entries => uptoBulkEntries entries + 1
  | .held _ => 1
def uptoBulkAll {H : Type} : List (DataW H) → Nat
  | [] => 0
  | d :: r => uptoBulk d + uptoBulkAll r
def uptoBulkEntries {H : Type} : List (Lit × DataW H) → Nat
  | [] => 0
  | x :: r => uptoBulkEntry x + uptoBulkEntries r
def uptoBulkEntry {H : Type} : Lit × DataW H → Nat
  | (.string bytes, d) => bytes.length + uptoBulk d + 1
  | (_, d) => uptoBulk d + 1
 end
def uptoSmall : (H : Type) → List (DataW H) → Bool := fun _ ds => decide (uptoBulkAll ds ≤ 1048576)
def OpenSpec.upto (s : _root_.Go.ChangeSpec) : _root_.Go.OpenSpec := { _root_.Go.OpenSpec.ofChange s with cond := some uptoSmall }

/-- 'laws.FnExactFourSums', WHERE WHAT IT READS IS OF BULK AT MOST 1048576: true; the input reads as it did. -/
def fnExactFourSumsUptoRow : OpenClaim := { program := "ytcgcgmlonhganaa", sum := "26810d94646f59b0a436dad37059fe919254a8da6754b4d666ae6b684c0b8394", func := "loop.example/g01056/laws.FnExactFourSums", spec := "fnExactFourSums", unfollowed := true, recurses := true, apart := false, narrowed := true }
def FnExactFourSumsUptoSaid : Prop := fnExactFourSumsUptoRow.holds Try.pinned (OpenSpec.upto fnExactFourSumsSpec)

/-- 'laws.FnExactCherriesOf', WHERE WHAT IT READS IS OF BULK AT MOST 1048576: true; the input reads as it did. -/
def fnExactCherriesOfUptoRow : OpenClaim := { program := "ytcgcgmlonhganaa", sum := "26810d94646f59b0a436dad37059fe919254a8da6754b4d666ae6b684c0b8394", func := "loop.example/g01056/laws.FnExactCherriesOf", spec := "fnExactCherriesOf", unfollowed := true, recurses := true, apart := false, narrowed := true }
def FnExactCherriesOfUptoSaid : Prop := fnExactCherriesOfUptoRow.holds Try.pinned (OpenSpec.upto fnExactCherriesOfSpec)

/-- 'laws.FnMetrics', WHERE WHAT IT READS IS OF BULK AT MOST 1048576: true; the input reads as it did. -/
def fnMetricsUptoRow : OpenClaim := { program := "ytcgcgmlonhganaa", sum := "26810d94646f59b0a436dad37059fe919254a8da6754b4d666ae6b684c0b8394", func := "loop.example/g01056/laws.FnMetrics", spec := "fnMetrics", unfollowed := true, recurses := true, apart := false, narrowed := true }
def FnMetricsUptoSaid : Prop := fnMetricsUptoRow.holds Try.pinned (OpenSpec.upto fnMetricsSpec)

/-- 'laws.FnTreeMetrics', WHERE WHAT IT READS IS OF BULK AT MOST 1048576: true; the input reads as it did. -/
def fnTreeMetricsUptoRow : OpenClaim := { program := "ytcgcgmlonhganaa", sum := "26810d94646f59b0a436dad37059fe919254a8da6754b4d666ae6b684c0b8394", func := "loop.example/g01056/laws.FnTreeMetrics", spec := "fnTreeMetrics", unfollowed := true, recurses := true, apart := false, narrowed := true }
def FnTreeMetricsUptoSaid : Prop := fnTreeMetricsUptoRow.holds Try.pinned (OpenSpec.upto fnTreeMetricsSpec)

end Rows
end Go.Proofs.Ytcgcgmlonhganaa
