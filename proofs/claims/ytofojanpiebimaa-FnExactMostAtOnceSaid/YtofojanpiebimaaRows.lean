/-
  No cell of these rows narrows 'for every input' (looked for: loops, veiled, ifaces, maps, wideKeys, modest, calm, conditions, laid).
  DERIVED. THE GIVEN ROWS OF THIS SEAT. 12 by the template 'for every input the law returns true; each argument reads behind the call as it read before'; 0 by the template 'total and deterministic' (their statements: YtofojanpiebimaaTotals.lean).
  GIVEN WITH THE SEED: the statements are not yours to turn. If you find one false, say at which input.
  Laid BY PROGRAM, IN A SANDBOX (cutbox-rows.mjs): the forced cells as the released guide's own fill.sh prints them over the translation 8814aa9a2c00563e… (all of the seat's roots in one cut). By AI agents, Wed Nov 11 2026. No macro, syntax, notation, axiom, sorry.
-/
import Derived.Test.YtofojanpiebimaaChecked
import GoSem.Claim
import GoSem.ClaimJoined
import GoSem.ClaimMapViews
import Derived.JoinedTies
import Derived.KernelRfl
namespace Go.Proofs.Ytofojanpiebimaa
/- THE CELL 'sum', in the pinned program and in every row, IS THE sha256 OF THE DUMP (.gsa) THAT YtofojanpiebimaaProg.lean LOADS. Nothing in Lean hashes anything: it is a label: what it is worth is what the hold of that sum in a sandbox is worth. -/
noncomputable def Try.pinned : Pinned := { name := "ytofojanpiebimaa", sum := "8814aa9a2c00563eca2b5c2dc14dafce5afc32f7d7017b7b8f49f1aed136bf51", checked := Try.checked }
namespace Rows
def none {H : Type} : Left H := { results := [], args := [] }

/-- 'laws.FnExactAreTasks': WHATEVER THE INPUT: true; the input reads as it did. -/
def fnExactAreTasksSpec : ChangeSpec := { name := "fnExactAreTasks", fn := fun _ => fun
  | [d] => { results := [.lit (.bool true)], args := [d] }
  | _ => none }
def fnExactAreTasksRow : OpenClaim := { program := "ytofojanpiebimaa", sum := "8814aa9a2c00563eca2b5c2dc14dafce5afc32f7d7017b7b8f49f1aed136bf51", func := "loop.example/g01056/laws.FnExactAreTasks", spec := "fnExactAreTasks", apart := false }
def FnExactAreTasksSaid : Prop := fnExactAreTasksRow.holds Try.pinned (OpenSpec.ofChange fnExactAreTasksSpec)

/-- ITS FALSE NEIGHBOUR: 'it returns false'. Refute it at one input. -/
def fnExactAreTasksWrong : ChangeSpec := { name := "fnExactAreTasks", fn := fun _ => fun
  | [d] => { results := [.lit (.bool false)], args := [d] }
  | _ => none }
def FnExactAreTasksWrongFalsely : Prop := fnExactAreTasksRow.holds Try.pinned (OpenSpec.ofChange fnExactAreTasksWrong)

/-- 'laws.FnExactProjectEnd': WHATEVER THE INPUT: true; the input reads as it did. -/
def fnExactProjectEndSpec : ChangeSpec := { name := "fnExactProjectEnd", fn := fun _ => fun
  | [d] => { results := [.lit (.bool true)], args := [d] }
  | _ => none }
def fnExactProjectEndRow : OpenClaim := { program := "ytofojanpiebimaa", sum := "8814aa9a2c00563eca2b5c2dc14dafce5afc32f7d7017b7b8f49f1aed136bf51", func := "loop.example/g01056/laws.FnExactProjectEnd", spec := "fnExactProjectEnd", apart := false }
def FnExactProjectEndSaid : Prop := fnExactProjectEndRow.holds Try.pinned (OpenSpec.ofChange fnExactProjectEndSpec)

/-- ITS FALSE NEIGHBOUR: 'it returns false'. Refute it at one input. -/
def fnExactProjectEndWrong : ChangeSpec := { name := "fnExactProjectEnd", fn := fun _ => fun
  | [d] => { results := [.lit (.bool false)], args := [d] }
  | _ => none }
def FnExactProjectEndWrongFalsely : Prop := fnExactProjectEndRow.holds Try.pinned (OpenSpec.ofChange fnExactProjectEndWrong)

/-- 'laws.FnExactAreStarts': WHATEVER THE INPUT: true; the input reads as it did. -/
def fnExactAreStartsSpec : ChangeSpec := { name := "fnExactAreStarts", fn := fun _ => fun
  | [d1, d2] => { results := [.lit (.bool true)], args := [d1, d2] }
  | _ => none }
def fnExactAreStartsRow : OpenClaim := { program := "ytofojanpiebimaa", sum := "8814aa9a2c00563eca2b5c2dc14dafce5afc32f7d7017b7b8f49f1aed136bf51", func := "loop.example/g01056/laws.FnExactAreStarts", spec := "fnExactAreStarts", unfollowed := true, recurses := true, apart := false }
def FnExactAreStartsSaid : Prop := fnExactAreStartsRow.holds Try.pinned (OpenSpec.ofChange fnExactAreStartsSpec)

/-- ITS FALSE NEIGHBOUR: 'it returns false'. Refute it at one input. -/
def fnExactAreStartsWrong : ChangeSpec := { name := "fnExactAreStarts", fn := fun _ => fun
  | [d1, d2] => { results := [.lit (.bool false)], args := [d1, d2] }
  | _ => none }
def FnExactAreStartsWrongFalsely : Prop := fnExactAreStartsRow.holds Try.pinned (OpenSpec.ofChange fnExactAreStartsWrong)

/-- 'laws.FnExactEarliestStarts': WHATEVER THE INPUT: true; the input reads as it did. -/
def fnExactEarliestStartsSpec : ChangeSpec := { name := "fnExactEarliestStarts", fn := fun _ => fun
  | [d] => { results := [.lit (.bool true)], args := [d] }
  | _ => none }
def fnExactEarliestStartsRow : OpenClaim := { program := "ytofojanpiebimaa", sum := "8814aa9a2c00563eca2b5c2dc14dafce5afc32f7d7017b7b8f49f1aed136bf51", func := "loop.example/g01056/laws.FnExactEarliestStarts", spec := "fnExactEarliestStarts", apart := false }
def FnExactEarliestStartsSaid : Prop := fnExactEarliestStartsRow.holds Try.pinned (OpenSpec.ofChange fnExactEarliestStartsSpec)

/-- ITS FALSE NEIGHBOUR: 'it returns false'. Refute it at one input. -/
def fnExactEarliestStartsWrong : ChangeSpec := { name := "fnExactEarliestStarts", fn := fun _ => fun
  | [d] => { results := [.lit (.bool false)], args := [d] }
  | _ => none }
def FnExactEarliestStartsWrongFalsely : Prop := fnExactEarliestStartsRow.holds Try.pinned (OpenSpec.ofChange fnExactEarliestStartsWrong)

/-- 'laws.FnExactEndWithDelay': WHATEVER THE INPUT: true; the input reads as it did. -/
def fnExactEndWithDelaySpec : ChangeSpec := { name := "fnExactEndWithDelay", fn := fun _ => fun
  | [d1, d2, d3] => { results := [.lit (.bool true)], args := [d1, d2, d3] }
  | _ => none }
def fnExactEndWithDelayRow : OpenClaim := { program := "ytofojanpiebimaa", sum := "8814aa9a2c00563eca2b5c2dc14dafce5afc32f7d7017b7b8f49f1aed136bf51", func := "loop.example/g01056/laws.FnExactEndWithDelay", spec := "fnExactEndWithDelay", apart := false }
def FnExactEndWithDelaySaid : Prop := fnExactEndWithDelayRow.holds Try.pinned (OpenSpec.ofChange fnExactEndWithDelaySpec)

/-- ITS FALSE NEIGHBOUR: 'it returns false'. Refute it at one input. -/
def fnExactEndWithDelayWrong : ChangeSpec := { name := "fnExactEndWithDelay", fn := fun _ => fun
  | [d1, d2, d3] => { results := [.lit (.bool false)], args := [d1, d2, d3] }
  | _ => none }
def FnExactEndWithDelayWrongFalsely : Prop := fnExactEndWithDelayRow.holds Try.pinned (OpenSpec.ofChange fnExactEndWithDelayWrong)

/-- 'laws.FnExactLatestStarts': WHATEVER THE INPUT: true; the input reads as it did. -/
def fnExactLatestStartsSpec : ChangeSpec := { name := "fnExactLatestStarts", fn := fun _ => fun
  | [d1, d2] => { results := [.lit (.bool true)], args := [d1, d2] }
  | _ => none }
def fnExactLatestStartsRow : OpenClaim := { program := "ytofojanpiebimaa", sum := "8814aa9a2c00563eca2b5c2dc14dafce5afc32f7d7017b7b8f49f1aed136bf51", func := "loop.example/g01056/laws.FnExactLatestStarts", spec := "fnExactLatestStarts", unfollowed := true, recurses := true, apart := false }
def FnExactLatestStartsSaid : Prop := fnExactLatestStartsRow.holds Try.pinned (OpenSpec.ofChange fnExactLatestStartsSpec)

/-- ITS FALSE NEIGHBOUR: 'it returns false'. Refute it at one input. -/
def fnExactLatestStartsWrong : ChangeSpec := { name := "fnExactLatestStarts", fn := fun _ => fun
  | [d1, d2] => { results := [.lit (.bool false)], args := [d1, d2] }
  | _ => none }
def FnExactLatestStartsWrongFalsely : Prop := fnExactLatestStartsRow.holds Try.pinned (OpenSpec.ofChange fnExactLatestStartsWrong)

/-- 'laws.FnExactIsProvedEnd': WHATEVER THE INPUT: true; the input reads as it did. -/
def fnExactIsProvedEndSpec : ChangeSpec := { name := "fnExactIsProvedEnd", fn := fun _ => fun
  | [d1, d2, d3] => { results := [.lit (.bool true)], args := [d1, d2, d3] }
  | _ => none }
def fnExactIsProvedEndRow : OpenClaim := { program := "ytofojanpiebimaa", sum := "8814aa9a2c00563eca2b5c2dc14dafce5afc32f7d7017b7b8f49f1aed136bf51", func := "loop.example/g01056/laws.FnExactIsProvedEnd", spec := "fnExactIsProvedEnd", unfollowed := true, recurses := true, apart := false }
def FnExactIsProvedEndSaid : Prop := fnExactIsProvedEndRow.holds Try.pinned (OpenSpec.ofChange fnExactIsProvedEndSpec)

/-- ITS FALSE NEIGHBOUR: 'it returns false'. Refute it at one input. -/
def fnExactIsProvedEndWrong : ChangeSpec := { name := "fnExactIsProvedEnd", fn := fun _ => fun
  | [d1, d2, d3] => { results := [.lit (.bool false)], args := [d1, d2, d3] }
  | _ => none }
def FnExactIsProvedEndWrongFalsely : Prop := fnExactIsProvedEndRow.holds Try.pinned (OpenSpec.ofChange fnExactIsProvedEndWrong)

/-- 'laws.FnExactFreeFloats': WHATEVER THE INPUT: true; the input reads as it did. -/
def fnExactFreeFloatsSpec : ChangeSpec := { name := "fnExactFreeFloats", fn := fun _ => fun
  | [d] => { results := [.lit (.bool true)], args := [d] }
  | _ => none }
def fnExactFreeFloatsRow : OpenClaim := { program := "ytofojanpiebimaa", sum := "8814aa9a2c00563eca2b5c2dc14dafce5afc32f7d7017b7b8f49f1aed136bf51", func := "loop.example/g01056/laws.FnExactFreeFloats", spec := "fnExactFreeFloats", apart := false }
def FnExactFreeFloatsSaid : Prop := fnExactFreeFloatsRow.holds Try.pinned (OpenSpec.ofChange fnExactFreeFloatsSpec)

/-- ITS FALSE NEIGHBOUR: 'it returns false'. Refute it at one input. -/
def fnExactFreeFloatsWrong : ChangeSpec := { name := "fnExactFreeFloats", fn := fun _ => fun
  | [d] => { results := [.lit (.bool false)], args := [d] }
  | _ => none }
def FnExactFreeFloatsWrongFalsely : Prop := fnExactFreeFloatsRow.holds Try.pinned (OpenSpec.ofChange fnExactFreeFloatsWrong)

/-- 'laws.FnExactFloatsOf': WHATEVER THE INPUT: true; the input reads as it did. -/
def fnExactFloatsOfSpec : ChangeSpec := { name := "fnExactFloatsOf", fn := fun _ => fun
  | [d] => { results := [.lit (.bool true)], args := [d] }
  | _ => none }
def fnExactFloatsOfRow : OpenClaim := { program := "ytofojanpiebimaa", sum := "8814aa9a2c00563eca2b5c2dc14dafce5afc32f7d7017b7b8f49f1aed136bf51", func := "loop.example/g01056/laws.FnExactFloatsOf", spec := "fnExactFloatsOf", apart := false }
def FnExactFloatsOfSaid : Prop := fnExactFloatsOfRow.holds Try.pinned (OpenSpec.ofChange fnExactFloatsOfSpec)

/-- ITS FALSE NEIGHBOUR: 'it returns false'. Refute it at one input. -/
def fnExactFloatsOfWrong : ChangeSpec := { name := "fnExactFloatsOf", fn := fun _ => fun
  | [d] => { results := [.lit (.bool false)], args := [d] }
  | _ => none }
def FnExactFloatsOfWrongFalsely : Prop := fnExactFloatsOfRow.holds Try.pinned (OpenSpec.ofChange fnExactFloatsOfWrong)

/-- 'laws.FnExactCriticalTasks': WHATEVER THE INPUT: true; the input reads as it did. -/
def fnExactCriticalTasksSpec : ChangeSpec := { name := "fnExactCriticalTasks", fn := fun _ => fun
  | [d] => { results := [.lit (.bool true)], args := [d] }
  | _ => none }
def fnExactCriticalTasksRow : OpenClaim := { program := "ytofojanpiebimaa", sum := "8814aa9a2c00563eca2b5c2dc14dafce5afc32f7d7017b7b8f49f1aed136bf51", func := "loop.example/g01056/laws.FnExactCriticalTasks", spec := "fnExactCriticalTasks", apart := false }
def FnExactCriticalTasksSaid : Prop := fnExactCriticalTasksRow.holds Try.pinned (OpenSpec.ofChange fnExactCriticalTasksSpec)

/-- ITS FALSE NEIGHBOUR: 'it returns false'. Refute it at one input. -/
def fnExactCriticalTasksWrong : ChangeSpec := { name := "fnExactCriticalTasks", fn := fun _ => fun
  | [d] => { results := [.lit (.bool false)], args := [d] }
  | _ => none }
def FnExactCriticalTasksWrongFalsely : Prop := fnExactCriticalTasksRow.holds Try.pinned (OpenSpec.ofChange fnExactCriticalTasksWrong)

/-- 'laws.FnExactCriticalChain': WHATEVER THE INPUT: true; the input reads as it did. -/
def fnExactCriticalChainSpec : ChangeSpec := { name := "fnExactCriticalChain", fn := fun _ => fun
  | [d] => { results := [.lit (.bool true)], args := [d] }
  | _ => none }
def fnExactCriticalChainRow : OpenClaim := { program := "ytofojanpiebimaa", sum := "8814aa9a2c00563eca2b5c2dc14dafce5afc32f7d7017b7b8f49f1aed136bf51", func := "loop.example/g01056/laws.FnExactCriticalChain", spec := "fnExactCriticalChain", recurses := true, apart := false }
def FnExactCriticalChainSaid : Prop := fnExactCriticalChainRow.holds Try.pinned (OpenSpec.ofChange fnExactCriticalChainSpec)

/-- ITS FALSE NEIGHBOUR: 'it returns false'. Refute it at one input. -/
def fnExactCriticalChainWrong : ChangeSpec := { name := "fnExactCriticalChain", fn := fun _ => fun
  | [d] => { results := [.lit (.bool false)], args := [d] }
  | _ => none }
def FnExactCriticalChainWrongFalsely : Prop := fnExactCriticalChainRow.holds Try.pinned (OpenSpec.ofChange fnExactCriticalChainWrong)

/-- 'laws.FnExactMostAtOnce': WHATEVER THE INPUT: true; the input reads as it did. -/
def fnExactMostAtOnceSpec : ChangeSpec := { name := "fnExactMostAtOnce", fn := fun _ => fun
  | [d1, d2] => { results := [.lit (.bool true)], args := [d1, d2] }
  | _ => none }
def fnExactMostAtOnceRow : OpenClaim := { program := "ytofojanpiebimaa", sum := "8814aa9a2c00563eca2b5c2dc14dafce5afc32f7d7017b7b8f49f1aed136bf51", func := "loop.example/g01056/laws.FnExactMostAtOnce", spec := "fnExactMostAtOnce", unfollowed := true, recurses := true, apart := false }
def FnExactMostAtOnceSaid : Prop := fnExactMostAtOnceRow.holds Try.pinned (OpenSpec.ofChange fnExactMostAtOnceSpec)

/-- ITS FALSE NEIGHBOUR: 'it returns false'. Refute it at one input. -/
def fnExactMostAtOnceWrong : ChangeSpec := { name := "fnExactMostAtOnce", fn := fun _ => fun
  | [d1, d2] => { results := [.lit (.bool false)], args := [d1, d2] }
  | _ => none }
def FnExactMostAtOnceWrongFalsely : Prop := fnExactMostAtOnceRow.holds Try.pinned (OpenSpec.ofChange fnExactMostAtOnceWrong)

/- THE SECOND FORM. 'bulk': how many values and letters a reading holds, each counted each time it is reached (what is shared counts as often as it is met; a slice's spare places count too). A statement '..UptoSaid' is the law's where the arguments, and the package variables that the reading takes, are together of bulk at most 1048576: NARROWER than '..Said'. Prove '..Said' where nothing that the law and all that it calls make is longer than what came in: it says more and counts as full. Else prove '..UptoSaid'. A law counts once. -/
mutual
def uptoBulk {H : Type} : DataW H → Nat
  | .lit (.string bytes) => bytes.length + 1
  | .lit _ => 1
  | .nil => 1
  | .ptr d => uptoBulk d + 1
  | .slice elems spare => uptoBulkAll elems + uptoBulkAll spare + 1
  | .agg parts => uptoBulkAll parts + 1
  | .iface _ d => uptoBulk d + 1
  | .map entries => uptoBulkEntries entries + 1
  | .held _ => 1
def uptoBulkAll {H : Type} : List (DataW H) → Nat
  | [] => 0
  | d :: r => uptoBulk d + uptoBulkAll r
def uptoBulkEntries {H : Type} : List (Lit × DataW H) → Nat
  | [] => 0
  | x :: r => uptoBulkEntry x + uptoBulkEntries r
def uptoBulkEntry {H : Type} : Lit × DataW H → Nat
  | (.string bytes, d) => bytes.length + uptoBulk d + 1
  | (_, d) => uptoBulk d + 1
 end
def uptoSmall : (H : Type) → List (DataW H) → Bool := fun _ ds => decide (uptoBulkAll ds ≤ 1048576)
def OpenSpec.upto (s : _root_.Go.ChangeSpec) : _root_.Go.OpenSpec := { _root_.Go.OpenSpec.ofChange s with cond := some uptoSmall }

/-- 'laws.FnExactAreTasks', WHERE WHAT IT READS IS OF BULK AT MOST 1048576: true; the input reads as it did. -/
def fnExactAreTasksUptoRow : OpenClaim := { program := "ytofojanpiebimaa", sum := "8814aa9a2c00563eca2b5c2dc14dafce5afc32f7d7017b7b8f49f1aed136bf51", func := "loop.example/g01056/laws.FnExactAreTasks", spec := "fnExactAreTasks", apart := false, narrowed := true }
def FnExactAreTasksUptoSaid : Prop := fnExactAreTasksUptoRow.holds Try.pinned (OpenSpec.upto fnExactAreTasksSpec)

/-- 'laws.FnExactProjectEnd', WHERE WHAT IT READS IS OF BULK AT MOST 1048576: true; the input reads as it did. -/
def fnExactProjectEndUptoRow : OpenClaim := { program := "ytofojanpiebimaa", sum := "8814aa9a2c00563eca2b5c2dc14dafce5afc32f7d7017b7b8f49f1aed136bf51", func := "loop.example/g01056/laws.FnExactProjectEnd", spec := "fnExactProjectEnd", apart := false, narrowed := true }
def FnExactProjectEndUptoSaid : Prop := fnExactProjectEndUptoRow.holds Try.pinned (OpenSpec.upto fnExactProjectEndSpec)

/-- 'laws.FnExactAreStarts', WHERE WHAT IT READS IS OF BULK AT MOST 1048576: true; the input reads as it did. -/
def fnExactAreStartsUptoRow : OpenClaim := { program := "ytofojanpiebimaa", sum := "8814aa9a2c00563eca2b5c2dc14dafce5afc32f7d7017b7b8f49f1aed136bf51", func := "loop.example/g01056/laws.FnExactAreStarts", spec := "fnExactAreStarts", unfollowed := true, recurses := true, apart := false, narrowed := true }
def FnExactAreStartsUptoSaid : Prop := fnExactAreStartsUptoRow.holds Try.pinned (OpenSpec.upto fnExactAreStartsSpec)

/-- 'laws.FnExactEarliestStarts', WHERE WHAT IT READS IS OF BULK AT MOST 1048576: true; the input reads as it did. -/
def fnExactEarliestStartsUptoRow : OpenClaim := { program := "ytofojanpiebimaa", sum := "8814aa9a2c00563eca2b5c2dc14dafce5afc32f7d7017b7b8f49f1aed136bf51", func := "loop.example/g01056/laws.FnExactEarliestStarts", spec := "fnExactEarliestStarts", apart := false, narrowed := true }
def FnExactEarliestStartsUptoSaid : Prop := fnExactEarliestStartsUptoRow.holds Try.pinned (OpenSpec.upto fnExactEarliestStartsSpec)

/-- 'laws.FnExactEndWithDelay', WHERE WHAT IT READS IS OF BULK AT MOST 1048576: true; the input reads as it did. -/
def fnExactEndWithDelayUptoRow : OpenClaim := { program := "ytofojanpiebimaa", sum := "8814aa9a2c00563eca2b5c2dc14dafce5afc32f7d7017b7b8f49f1aed136bf51", func := "loop.example/g01056/laws.FnExactEndWithDelay", spec := "fnExactEndWithDelay", apart := false, narrowed := true }
def FnExactEndWithDelayUptoSaid : Prop := fnExactEndWithDelayUptoRow.holds Try.pinned (OpenSpec.upto fnExactEndWithDelaySpec)

/-- 'laws.FnExactLatestStarts', WHERE WHAT IT READS IS OF BULK AT MOST 1048576: true; the input reads as it did. -/
def fnExactLatestStartsUptoRow : OpenClaim := { program := "ytofojanpiebimaa", sum := "8814aa9a2c00563eca2b5c2dc14dafce5afc32f7d7017b7b8f49f1aed136bf51", func := "loop.example/g01056/laws.FnExactLatestStarts", spec := "fnExactLatestStarts", unfollowed := true, recurses := true, apart := false, narrowed := true }
def FnExactLatestStartsUptoSaid : Prop := fnExactLatestStartsUptoRow.holds Try.pinned (OpenSpec.upto fnExactLatestStartsSpec)

/-- 'laws.FnExactIsProvedEnd', WHERE WHAT IT READS IS OF BULK AT MOST 1048576: true; the input reads as it did. -/
def fnExactIsProvedEndUptoRow : OpenClaim := { program := "ytofojanpiebimaa", sum := "8814aa9a2c00563eca2b5c2dc14dafce5afc32f7d7017b7b8f49f1aed136bf51", func := "loop.example/g01056/laws.FnExactIsProvedEnd", spec := "fnExactIsProvedEnd", unfollowed := true, recurses := true, apart := false, narrowed := true }
def FnExactIsProvedEndUptoSaid : Prop := fnExactIsProvedEndUptoRow.holds Try.pinned (OpenSpec.upto fnExactIsProvedEndSpec)

/-- 'laws.FnExactFreeFloats', WHERE WHAT IT READS IS OF BULK AT MOST 1048576: true; the input reads as it did. -/
def fnExactFreeFloatsUptoRow : OpenClaim := { program := "ytofojanpiebimaa", sum := "8814aa9a2c00563eca2b5c2dc14dafce5afc32f7d7017b7b8f49f1aed136bf51", func := "loop.example/g01056/laws.FnExactFreeFloats", spec := "fnExactFreeFloats", apart := false, narrowed := true }
def FnExactFreeFloatsUptoSaid : Prop := fnExactFreeFloatsUptoRow.holds Try.pinned (OpenSpec.upto fnExactFreeFloatsSpec)

/-- 'laws.FnExactFloatsOf', WHERE WHAT IT READS IS OF BULK AT MOST 1048576: true; the input reads as it did. -/
def fnExactFloatsOfUptoRow : OpenClaim := { program := "ytofojanpiebimaa", sum := "8814aa9a2c00563eca2b5c2dc14dafce5afc32f7d7017b7b8f49f1aed136bf51", func := "loop.example/g01056/laws.FnExactFloatsOf", spec := "fnExactFloatsOf", apart := false, narrowed := true }
def FnExactFloatsOfUptoSaid : Prop := fnExactFloatsOfUptoRow.holds Try.pinned (OpenSpec.upto fnExactFloatsOfSpec)

/-- 'laws.FnExactCriticalTasks', WHERE WHAT IT READS IS OF BULK AT MOST 1048576: true; the input reads as it did. -/
def fnExactCriticalTasksUptoRow : OpenClaim := { program := "ytofojanpiebimaa", sum := "8814aa9a2c00563eca2b5c2dc14dafce5afc32f7d7017b7b8f49f1aed136bf51", func := "loop.example/g01056/laws.FnExactCriticalTasks", spec := "fnExactCriticalTasks", apart := false, narrowed := true }
def FnExactCriticalTasksUptoSaid : Prop := fnExactCriticalTasksUptoRow.holds Try.pinned (OpenSpec.upto fnExactCriticalTasksSpec)

/-- 'laws.FnExactCriticalChain', WHERE WHAT IT READS IS OF BULK AT MOST 1048576: true; the input reads as it did. -/
def fnExactCriticalChainUptoRow : OpenClaim := { program := "ytofojanpiebimaa", sum := "8814aa9a2c00563eca2b5c2dc14dafce5afc32f7d7017b7b8f49f1aed136bf51", func := "loop.example/g01056/laws.FnExactCriticalChain", spec := "fnExactCriticalChain", recurses := true, apart := false, narrowed := true }
def FnExactCriticalChainUptoSaid : Prop := fnExactCriticalChainUptoRow.holds Try.pinned (OpenSpec.upto fnExactCriticalChainSpec)

/-- 'laws.FnExactMostAtOnce', WHERE WHAT IT READS IS OF BULK AT MOST 1048576: true; the input reads as it did. -/
def fnExactMostAtOnceUptoRow : OpenClaim := { program := "ytofojanpiebimaa", sum := "8814aa9a2c00563eca2b5c2dc14dafce5afc32f7d7017b7b8f49f1aed136bf51", func := "loop.example/g01056/laws.FnExactMostAtOnce", spec := "fnExactMostAtOnce", unfollowed := true, recurses := true, apart := false, narrowed := true }
def FnExactMostAtOnceUptoSaid : Prop := fnExactMostAtOnceUptoRow.holds Try.pinned (OpenSpec.upto fnExactMostAtOnceSpec)

end Rows
end Go.Proofs.Ytofojanpiebimaa
