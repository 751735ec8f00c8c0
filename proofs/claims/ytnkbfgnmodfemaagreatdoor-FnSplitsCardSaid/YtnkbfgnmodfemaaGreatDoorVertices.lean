/- Whether numbers are vertices of a matrix. -/
import Derived.Test.YtnkbfgnmodfemaaGreatDoorFuncs
namespace Go.Proofs.YtnkbfgnmodfemaaGreatDoor
open Go.RowKit
open Go.Lib (hid)

theorem allB_any (l : List Int) (lo hi : Int) : (l.any fun x => !inB x lo hi) = !allB l lo hi := by
  induction l with
  | nil => rfl
  | cons x xs ih => rw [List.any_cons, ih, allB_cons]; cases inB x lo hi <;> simp

end Go.Proofs.YtnkbfgnmodfemaaGreatDoor
