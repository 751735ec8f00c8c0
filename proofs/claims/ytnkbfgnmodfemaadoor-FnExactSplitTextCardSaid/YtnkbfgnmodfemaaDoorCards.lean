/-
  DERIVED. GIVEN WITH THE SEED: THE CARDS: each row of YtnkbfgnmodfemaaDoorRows.lean that lists a variable, with what it lists TIED to the program's text (the seventh form; the later family's looks); each row that meets fmt, with fmt's text TOLD by the authors' own Lean function (tested against real Go, not proved from fmt's source: count such statements apart). THE CARD IS WHAT COUNTS. Prove the row's statement (the work); the ties are given (YtnkbfgnmodfemaaDoorTie.lean); close each card by the builder's one call (the guide's Derived/Test/ToyasCard.lean, 'card_holds'). Laid BY PROGRAM, IN A SANDBOX (cutbox-door.mjs). By AI agents, Wed Nov 11 2026. No macro, syntax, notation, axiom, sorry.
-/
import Derived.Test.YtnkbfgnmodfemaaDoorRows
import GoSem.ClaimSeven
namespace Go.Proofs.YtnkbfgnmodfemaaDoor
namespace Rows

/-- THE TIED CARD OF 'laws.FnExactSplitText'. -/
def fnExactSplitTextCard : Claim7 := { stood := { row := fnExactSplitTextRow, standIns := [], harness := (true, "672474dd36261d185919763aff3b74e0f3c723e3173e237ea3b6d8a30b6adb11"), looks := false }, kinds := [], alts := [], laidByText := true, laidKinds := [.data, .data, .data], laidTests := true, laidLooks := .later }
def FnExactSplitTextCardSaid : Prop := Claim7.holds Tryd.pinned (.plain (OpenSpec.ofChange fnExactSplitTextSpec)) fnExactSplitTextCard

/-- THE SECOND FORM's CARD OF 'laws.FnExactSplitText'. -/
def fnExactSplitTextUptoCard : Claim7 := { stood := { row := fnExactSplitTextUptoRow, standIns := [], harness := (true, "672474dd36261d185919763aff3b74e0f3c723e3173e237ea3b6d8a30b6adb11"), looks := false }, kinds := [], alts := [], laidByText := true, laidKinds := [.data, .data, .data], laidTests := true, laidLooks := .later }
def FnExactSplitTextUptoCardSaid : Prop := Claim7.holds Tryd.pinned (.plain (OpenSpec.upto fnExactSplitTextSpec)) fnExactSplitTextUptoCard
end Rows
end Go.Proofs.YtnkbfgnmodfemaaDoor
