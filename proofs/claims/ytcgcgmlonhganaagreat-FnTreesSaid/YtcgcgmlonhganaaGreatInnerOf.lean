/- InnerSplits and IsBinaryTree of both programs. -/
import Derived.Test.YtcgcgmlonhganaaGreatInner
namespace Go.Proofs.YtcgcgmlonhganaaGreat
open Go.RowKit
open Go.Lib (hid)

def innerB (M : List (List Int)) : List (List Int) × Bool := if treeB M then (innerL M, true) else ([], false)
theorem innerB_yes {M : List (List Int)} (h : treeB M = true) : innerB M = (innerL M, true) := by rw [innerB, h]; rfl
theorem innerB_no {M : List (List Int)} (h : treeB M = false) : innerB M = ([], false) := by rw [innerB, h]; rfl
theorem innerL_small {M : List (List Int)} (h : treeB M = true) : (innerL M).length ≤ 128 ∧ ∀ r ∈ innerL M, r.length ≤ 128 := by
  have h1 := splL_small h
  refine ⟨?_, fun r hr => h1.2 r (List.mem_filter.1 hr).1⟩
  have h2 := List.length_filter_le (innerP M) (splL M)
  unfold innerL; omega
theorem inner_tot (M : List (List Int)) : tot (innerB M).1 ≤ 1099511627776 := by
  rcases Bool.eq_false_or_eq_true (treeB M) with t | t
  · rw [innerB_yes t]
    have := tot_le (innerL_small t).1 (innerL_small t).2
    simp only; omega
  · rw [innerB_no t]; simp [tot]

set_option maxHeartbeats 1000000 in
theorem sInnerSplits_u (v : Value) (M : List (List Int)) (w : World) (h : RMat w v M) :
    Calls Tryz.prog 8 #[v] w (RetMatT w (innerB M)) := by
  rcases Bool.eq_false_or_eq_true (treeB M) with t | t
  · have HM := hid (innerB_yes t)
    have HT := hid t
    go_enter Tryz.func8, Tryz.ntmps8
    go_wp2_with fail
    refine (slTree_c _ M _ h).mono ?_
    rintro e w1 ⟨rfl, hb1⟩
    rw [t]
    have h1 := h.keep hb1
    have HB1 := hid hb1
    clear hb1
    go_wp2_with fail
    refine (slInner_c _ M _ (treeB_met HT.out) h1).mono ?_
    rintro e w2 ⟨u, rfl, hF, hb2⟩
    have HF := hid (hF.mono HB1.out.size (Nat.le_refl _))
    have HB2 := hid (HB1.out.trans (hb2.mono HB1.out.size))
    clear hF hb2
    go_wp2
    go_ret2
    exact ⟨u, by rw [HM.out]; rfl, by rw [HM.out]; exact HF.out, HB2.out⟩
  · have HM := hid (innerB_no t)
    go_enter Tryz.func8, Tryz.ntmps8
    go_wp2_with fail
    refine (slTree_c _ M _ h).mono ?_
    rintro e w1 ⟨rfl, hb1⟩
    rw [t]
    go_wp2
    go_ret2
    exact ⟨_, by rw [HM.out]; rfl, by rw [HM.out]; exact mat_nil _ _ _, hb1⟩

set_option maxHeartbeats 1000000 in
theorem iInnerSplits_u (v : Value) (M : List (List Int)) (w : World) (h : RMat w v M) :
    Calls Tryz.prog 7 #[v] w (RetMatT w (innerB M)) := by
  rcases Bool.eq_false_or_eq_true (treeB M) with t | t
  · have HM := hid (innerB_yes t)
    have HT := hid t
    go_enter Tryz.func7, Tryz.ntmps7
    go_wp2_with fail
    refine (isTreeMetric_c _ M _ h).mono ?_
    rintro e w1 ⟨rfl, hb1⟩
    rw [t]
    have h1 := h.keep hb1
    have HB1 := hid hb1
    clear hb1
    go_wp2_with fail
    refine (innerSplits_c _ M _ (treeB_met HT.out) h1).mono ?_
    rintro e w2 ⟨u, rfl, hF, hb2⟩
    have HF := hid (hF.mono HB1.out.size (Nat.le_refl _))
    have HB2 := hid (HB1.out.trans (hb2.mono HB1.out.size))
    clear hF hb2
    go_wp2
    go_ret2
    exact ⟨u, by rw [HM.out]; rfl, by rw [HM.out]; exact HF.out, HB2.out⟩
  · have HM := hid (innerB_no t)
    go_enter Tryz.func7, Tryz.ntmps7
    go_wp2_with fail
    refine (isTreeMetric_c _ M _ h).mono ?_
    rintro e w1 ⟨rfl, hb1⟩
    rw [t]
    go_wp2
    go_ret2
    exact ⟨_, by rw [HM.out]; rfl, by rw [HM.out]; exact mat_nil _ _ _, hb1⟩

def binB (M : List (List Int)) : Bool × Bool := if treeB M then (((innerL M).length : Int) == max 0 ((M.length : Int) - 3), true) else (false, false)
theorem binB_yes {M : List (List Int)} (h : treeB M = true) : binB M = (((innerL M).length : Int) == max 0 ((M.length : Int) - 3), true) := by rw [binB, h]; rfl
theorem binB_no {M : List (List Int)} (h : treeB M = false) : binB M = (false, false) := by rw [binB, h]; rfl

set_option maxHeartbeats 1000000 in
theorem sIsBinaryTree_u (v : Value) (M : List (List Int)) (w : World) (h : RMat w v M) :
    Calls Tryz.prog 10 #[v] w fun e w' => e = .returned (.tuple #[.bool (binB M).1, .bool (binB M).2]) ∧ Below w.heap.size w w' := by
  have HR := hid h
  obtain ⟨a, cap, rfl, q1, q2, hc⟩ := h
  clear hc
  unfold maxLen at q2
  rcases Bool.eq_false_or_eq_true (treeB M) with t | t
  · have HM := hid (binB_yes t)
    have HT := hid t
    have h7 := (metB_parts (treeB_met t)).2.1
    have f0 : IntKind.i64.wrap ((M.length : Int) - 3) = (M.length : Int) - 3 := IntWalk.i64_in _ (by omega)
    go_enter Tryz.func10, Tryz.ntmps10
    go_wp2_with fail
    refine (slTree_c _ M _ HR.out).mono ?_
    rintro e w1 ⟨rfl, hb1⟩
    rw [t]
    have h1 := HR.out.keep hb1
    have HB1 := hid hb1
    clear hb1
    go_wp2_with fail
    refine (slInner_c _ M _ (treeB_met HT.out) h1).mono ?_
    rintro e w2 ⟨u, rfl, hF, hb2⟩
    obtain ⟨au, cu, rfl⟩ := hF.form
    have HB2 := hid (HB1.out.trans (hb2.mono HB1.out.size))
    clear hF hb2 h1
    go_wp2_with (go_at_call 29; refine (l1Most_c _ _ _).mono ?_; rintro e w' ⟨rfl, rfl⟩)
    go_ret2
    exact ⟨by rw [HM.out]; rfl, HB2.out⟩
  · have HM := hid (binB_no t)
    go_enter Tryz.func10, Tryz.ntmps10
    go_wp2_with fail
    refine (slTree_c _ M _ HR.out).mono ?_
    rintro e w1 ⟨rfl, hb1⟩
    rw [t]
    go_wp2
    go_ret2
    exact ⟨by rw [HM.out]; rfl, hb1⟩

end Go.Proofs.YtcgcgmlonhganaaGreat
