/- Splits: the contracts of the functions that tell whether a list is a split. -/
import Derived.Test.YtegeelldcomnnaaMake
namespace Go.Proofs.Ytegeelldcomnnaa
open Go.RowKit
open Go.Lib (hid)

/-- a is a split of n points -/
def splitB (n : Int) (a : List Int) : Bool := inB n 2 7 && (decide (0 < a.length) && risB 1 (n - 1) none a)

theorem risB_some (hi y : Int) (hy : 0 < y) (l : List Int) : risB 0 hi (some y) l = risB 1 hi (some y) l := by
  induction l generalizing y with
  | nil => rfl
  | cons x xs ih =>
    rw [risB_cons, risB_cons]
    by_cases hyx : y < x
    · rw [ih x (by omega)]
      have : inB x 0 hi = inB x 1 hi := by rw [Bool.eq_iff_iff, inB_iff, inB_iff]; omega
      rw [this]
    · simp [hyx]

theorem risB_first (hi x : Int) (xs : List Int) : (risB 0 hi none (x :: xs) && decide (0 < x)) = risB 1 hi none (x :: xs) := by
  rw [risB_cons, risB_cons]
  by_cases h : 0 < x
  · rw [risB_some hi x h]
    have : inB x 0 hi = inB x 1 hi := by rw [Bool.eq_iff_iff, inB_iff, inB_iff]; omega
    rw [this]; simp [h]
  · have : inB x 1 hi = false := by rw [inB_false]; omega
    simp [h, this]

end Go.Proofs.Ytegeelldcomnnaa
