/- IsBinaryTree of the program. -/
import Derived.Test.YtagjmakcooppoaaInnerOf
namespace Go.Proofs.Ytagjmakcooppoaa
open Go.RowKit
open Go.Lib (hid)

set_option maxHeartbeats 1000000 in
theorem iIsBinaryTree_u (v : Value) (M : List (List Int)) (w : World) (h : RMat w v M) :
    Calls Try.prog 41 #[v] w fun e w' => e = .returned (.tuple #[.bool (binB M).1, .bool (binB M).2]) ∧ Below w.heap.size w w' := by
  have HR := hid h
  obtain ⟨a, cap, rfl, q1, q2, hc⟩ := h
  clear hc
  unfold maxLen at q2
  rcases Bool.eq_false_or_eq_true (treeB M) with t | t
  · have HM := hid (binB_yes t)
    have HT := hid t
    have h7 := (metB_parts (treeB_met t)).2.1
    have f0 : IntKind.i64.wrap ((M.length : Int) - 3) = (M.length : Int) - 3 := IntWalk.i64_in _ (by omega)
    go_enter Try.func41, Try.ntmps41
    go_wp2_with fail
    refine (isTreeMetric_c _ M _ HR.out).mono ?_
    rintro e w1 ⟨rfl, hb1⟩
    rw [t]
    have h1 := HR.out.keep hb1
    have HB1 := hid hb1
    clear hb1
    go_wp2_with fail
    refine (innerSplits_c _ M _ (treeB_met HT.out) h1).mono ?_
    rintro e w2 ⟨u, rfl, hF, hb2⟩
    obtain ⟨au, cu, rfl⟩ := hF.form
    have HB2 := hid (HB1.out.trans (hb2.mono HB1.out.size))
    clear hF hb2 h1
    obtain ⟨N, hN⟩ : ∃ N, (innerL M).length = N := ⟨_, rfl⟩
    rw [hN] at HM ⊢
    clear hN
    go_wp2
    all_goals
      go_ret2
      refine ⟨?_, HB2.out⟩
      rw [HM.out]
      first | rfl | (simp; omega) | (congr 4; omega)
  · have HM := hid (binB_no t)
    go_enter Try.func41, Try.ntmps41
    go_wp2_with fail
    refine (isTreeMetric_c _ M _ HR.out).mono ?_
    rintro e w1 ⟨rfl, hb1⟩
    rw [t]
    go_wp2
    go_ret2
    exact ⟨by rw [HM.out]; rfl, hb1⟩

end Go.Proofs.Ytagjmakcooppoaa
