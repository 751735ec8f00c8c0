/- The inner splits, and binary trees, of both programs. -/
import Derived.Test.YtnkbfgnmodfemaaGreatDoorSplitsOf
namespace Go.Proofs.YtnkbfgnmodfemaaGreatDoor
open Go.RowKit
open Go.Lib (hid)

theorem omat_nil_ (w1 : World) : OMat w1 w1.heap.size (.slice none 0 0) [] := omat_nil _ _
theorem omat_e_ (w1 : World) : OMat (w1.alloc (.cells #[] 27)) w1.heap.size (.slice (some ⟨w1.heap.size, 0, none⟩) 0 0) [] := omat_empty _ _ (Nat.le_refl _)
theorem below_r (w1 : World) : Below w1.heap.size w1 w1 := Below.refl _ _
theorem below_a (w1 : World) : Below w1.heap.size w1 (w1.alloc (.cells #[] 27)) := (Below.refl _ _).alloc (Nat.le_refl _) _
def innerP (M : List (List Int)) (s : List Int) : Bool := inB (s.length : Int) 2 ((M.length : Int) - 2)
/-- the inner splits -/
def innerL (M : List (List Int)) : List (List Int) := (splL M).filter (innerP M)

end Go.Proofs.YtnkbfgnmodfemaaGreatDoor
