/- SplitsOf and SplitLengths of both programs. -/
import Derived.Test.YtnkbfgnmodfemaaGreatDoorSplits4
import Derived.Test.YtnkbfgnmodfemaaGreatDoorMark
namespace Go.Proofs.YtnkbfgnmodfemaaGreatDoor
open Go.RowKit
open Go.Lib (hid)

def RetMatT (w : World) (p : List (List Int) × Bool) (e : Ending) (w' : World) : Prop := ∃ v, e = .returned (.tuple #[v, .bool p.2]) ∧ FMat w' w.heap.size w'.heap.size v p.1 ∧ Below w.heap.size w w'
def splitsOfB (M : List (List Int)) : List (List Int) × Bool := if treeB M then (splL M, true) else ([], false)
theorem splitsOfB_yes {M : List (List Int)} (h : treeB M = true) : splitsOfB M = (splL M, true) := by rw [splitsOfB, h]; rfl
theorem splitsOfB_no {M : List (List Int)} (h : treeB M = false) : splitsOfB M = ([], false) := by rw [splitsOfB, h]; rfl
theorem splL_small {M : List (List Int)} (h : treeB M = true) : (splL M).length ≤ 128 ∧ ∀ r ∈ splL M, r.length ≤ 128 := by
  have hp := metB_parts (treeB_met h)
  refine ⟨?_, fun r hr => ?_⟩
  · have h1 := List.length_filter_le (splitP M) (sidesL (M.length - 1) 1 [])
    have h2 := sidesL_small (show M.length - 1 ≤ 7 by omega) 1 []
    unfold splL; omega
  · have := sidesL_length _ _ _ r (List.mem_filter.1 hr).1
    simp at this; omega
theorem splitsOf_tot (M : List (List Int)) : tot (splitsOfB M).1 ≤ 1099511627776 := by
  rcases Bool.eq_false_or_eq_true (treeB M) with t | t
  · rw [splitsOfB_yes t]
    have := tot_le (splL_small t).1 (splL_small t).2
    simp only; omega
  · rw [splitsOfB_no t]; simp [tot]

set_option maxHeartbeats 1000000 in
theorem sSplitsOf_u (v : Value) (M : List (List Int)) (w : World) (h : RMat w v M) :
    Calls Tryz.prog 6 #[v] w (RetMatT w (splitsOfB M)) := by
  rcases Bool.eq_false_or_eq_true (treeB M) with t | t
  · have HM := hid (splitsOfB_yes t)
    have HT := hid t
    go_enter Tryz.func6, Tryz.ntmps6
    go_wp2_with fail
    refine (slTree_c _ M _ h).mono ?_
    rintro e w1 ⟨rfl, hb1⟩
    rw [t]
    have h1 := h.keep hb1
    have HB1 := hid hb1
    clear hb1
    go_wp2_with fail
    refine (slOf_c _ M _ (treeB_met HT.out) h1).mono ?_
    rintro e w2 ⟨u, rfl, hF, hb2⟩
    have HF := hid (hF.mono HB1.out.size (Nat.le_refl _))
    have HB2 := hid (HB1.out.trans (hb2.mono HB1.out.size))
    clear hF hb2
    go_wp2
    go_ret2
    exact ⟨u, by rw [HM.out]; rfl, by rw [HM.out]; exact HF.out, HB2.out⟩
  · have HM := hid (splitsOfB_no t)
    go_enter Tryz.func6, Tryz.ntmps6
    go_wp2_with fail
    refine (slTree_c _ M _ h).mono ?_
    rintro e w1 ⟨rfl, hb1⟩
    rw [t]
    go_wp2
    go_ret2
    exact ⟨_, by rw [HM.out]; rfl, by rw [HM.out]; exact mat_nil _ _ _, hb1⟩

set_option maxHeartbeats 1000000 in
theorem iSplitsOf_u (v : Value) (M : List (List Int)) (w : World) (h : RMat w v M) :
    Calls Tryz.prog 5 #[v] w (RetMatT w (splitsOfB M)) := by
  rcases Bool.eq_false_or_eq_true (treeB M) with t | t
  · have HM := hid (splitsOfB_yes t)
    have HT := hid t
    go_enter Tryz.func5, Tryz.ntmps5
    go_wp2_with fail
    refine (isTreeMetric_c _ M _ h).mono ?_
    rintro e w1 ⟨rfl, hb1⟩
    rw [t]
    have h1 := h.keep hb1
    have HB1 := hid hb1
    clear hb1
    go_wp2_with fail
    refine (splits_c _ M _ (treeB_met HT.out) h1).mono ?_
    rintro e w2 ⟨u, u2, rfl, hF, _, hb2⟩
    have HF := hid (hF.mono HB1.out.size (Nat.le_refl _))
    have HB2 := hid (HB1.out.trans (hb2.mono HB1.out.size))
    clear hF hb2
    go_wp2
    go_ret2
    exact ⟨u, by rw [HM.out]; rfl, by rw [HM.out]; exact HF.out, HB2.out⟩
  · have HM := hid (splitsOfB_no t)
    go_enter Tryz.func5, Tryz.ntmps5
    go_wp2_with fail
    refine (isTreeMetric_c _ M _ h).mono ?_
    rintro e w1 ⟨rfl, hb1⟩
    rw [t]
    go_wp2
    go_ret2
    exact ⟨_, by rw [HM.out]; rfl, by rw [HM.out]; exact mat_nil _ _ _, hb1⟩

end Go.Proofs.YtnkbfgnmodfemaaGreatDoor
