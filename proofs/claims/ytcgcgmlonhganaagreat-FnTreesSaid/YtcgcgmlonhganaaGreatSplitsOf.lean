/- SplitsOf and SplitLengths of both programs. -/
import Derived.Test.YtcgcgmlonhganaaGreatSplits4
import Derived.Test.YtcgcgmlonhganaaGreatMark
namespace Go.Proofs.YtcgcgmlonhganaaGreat
open Go.RowKit
open Go.Lib (hid)

def RetMatT (w : World) (p : List (List Int) × Bool) (e : Ending) (w' : World) : Prop := ∃ v, e = .returned (.tuple #[v, .bool p.2]) ∧ FMat w' w.heap.size w'.heap.size v p.1 ∧ Below w.heap.size w w'
def splitsOfB (M : List (List Int)) : List (List Int) × Bool := if treeB M then (splL M, true) else ([], false)
theorem splitsOfB_yes {M : List (List Int)} (h : treeB M = true) : splitsOfB M = (splL M, true) := by rw [splitsOfB, h]; rfl
theorem splitsOfB_no {M : List (List Int)} (h : treeB M = false) : splitsOfB M = ([], false) := by rw [splitsOfB, h]; rfl
theorem splL_small {M : List (List Int)} (h : treeB M = true) : (splL M).length ≤ 128 ∧ ∀ r ∈ splL M, r.length ≤ 128 := by
  have hp := metB_parts (treeB_met h)
  refine ⟨?_, fun r hr => ?_⟩
  · have h1 := List.length_filter_le (splitP M) (sidesL (M.length - 1) 1 [])
    have h2 := sidesL_small (show M.length - 1 ≤ 7 by omega) 1 []
    unfold splL; omega
  · have := sidesL_length _ _ _ r (List.mem_filter.1 hr).1
    simp at this; omega
theorem splitsOf_tot (M : List (List Int)) : tot (splitsOfB M).1 ≤ 1099511627776 := by
  rcases Bool.eq_false_or_eq_true (treeB M) with t | t
  · rw [splitsOfB_yes t]
    have := tot_le (splL_small t).1 (splL_small t).2
    simp only; omega
  · rw [splitsOfB_no t]; simp [tot]

end Go.Proofs.YtcgcgmlonhganaaGreat
