/-
  DERIVED. GIVEN WITH THE SEED: THE CARDS: each row of YtnkbfgnmodfemaaGreatDoorRows.lean that lists a variable, with what it lists TIED to the program's text (the seventh form; the later family's looks); each row that meets fmt, with fmt's text TOLD by the authors' own Lean function (tested against real Go, not proved from fmt's source: count such statements apart). THE CARD IS WHAT COUNTS. Prove the row's statement (the work); the ties are given (YtnkbfgnmodfemaaGreatDoorTie.lean); close each card by the builder's one call (the guide's Derived/Test/ToyasCard.lean, 'card_holds'). Laid BY PROGRAM, IN A SANDBOX (cutbox-door.mjs). By AI agents, Wed Nov 11 2026. No macro, syntax, notation, axiom, sorry.
-/
import Derived.Test.YtnkbfgnmodfemaaGreatDoorRows
import GoSem.ClaimSeven
namespace Go.Proofs.YtnkbfgnmodfemaaGreatDoor
namespace Rows

/-- THE TIED CARD OF 'laws.FnSplits'. -/
def fnSplitsCard : Claim7 := { stood := { row := fnSplitsRow, standIns := [], harness := (true, "3a337deb6b368da2ce6d7ffe14630bf4558603cce5d35a296ee93f383c21bc12"), looks := false }, kinds := [], alts := [], laidByText := true, laidKinds := [.data, .data, .data], laidTests := true, laidLooks := .later }
def FnSplitsCardSaid : Prop := Claim7.holds Tryz.pinned (.plain (OpenSpec.ofChange fnSplitsSpec)) fnSplitsCard

/-- THE SECOND FORM's CARD OF 'laws.FnSplits'. -/
def fnSplitsUptoCard : Claim7 := { stood := { row := fnSplitsUptoRow, standIns := [], harness := (true, "3a337deb6b368da2ce6d7ffe14630bf4558603cce5d35a296ee93f383c21bc12"), looks := false }, kinds := [], alts := [], laidByText := true, laidKinds := [.data, .data, .data], laidTests := true, laidLooks := .later }
def FnSplitsUptoCardSaid : Prop := Claim7.holds Tryz.pinned (.plain (OpenSpec.upto fnSplitsSpec)) fnSplitsUptoCard
end Rows
end Go.Proofs.YtnkbfgnmodfemaaGreatDoor
