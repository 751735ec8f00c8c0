/- InnerSplits and IsBinaryTree of both programs. -/
import Derived.Test.YtnkbfgnmodfemaaGreatDoorInner
namespace Go.Proofs.YtnkbfgnmodfemaaGreatDoor
open Go.RowKit
open Go.Lib (hid)

def innerB (M : List (List Int)) : List (List Int) × Bool := if treeB M then (innerL M, true) else ([], false)
theorem innerB_yes {M : List (List Int)} (h : treeB M = true) : innerB M = (innerL M, true) := by rw [innerB, h]; rfl
theorem innerB_no {M : List (List Int)} (h : treeB M = false) : innerB M = ([], false) := by rw [innerB, h]; rfl
theorem innerL_small {M : List (List Int)} (h : treeB M = true) : (innerL M).length ≤ 128 ∧ ∀ r ∈ innerL M, r.length ≤ 128 := by
  have h1 := splL_small h
  refine ⟨?_, fun r hr => h1.2 r (List.mem_filter.1 hr).1⟩
  have h2 := List.length_filter_le (innerP M) (splL M)
  unfold innerL; omega
theorem inner_tot (M : List (List Int)) : tot (innerB M).1 ≤ 1099511627776 := by
  rcases Bool.eq_false_or_eq_true (treeB M) with t | t
  · rw [innerB_yes t]
    have := tot_le (innerL_small t).1 (innerL_small t).2
    simp only; omega
  · rw [innerB_no t]; simp [tot]

def binB (M : List (List Int)) : Bool × Bool := if treeB M then (((innerL M).length : Int) == max 0 ((M.length : Int) - 3), true) else (false, false)
theorem binB_yes {M : List (List Int)} (h : treeB M = true) : binB M = (((innerL M).length : Int) == max 0 ((M.length : Int) - 3), true) := by rw [binB, h]; rfl
theorem binB_no {M : List (List Int)} (h : treeB M = false) : binB M = (false, false) := by rw [binB, h]; rfl

end Go.Proofs.YtnkbfgnmodfemaaGreatDoor
