/- What the laws of projects need: AreTasks. -/
import Derived.Test.YtegeelldcomnnaaRetQ
import Derived.Test.YtegeelldcomnnaaProjT2
import Derived.Test.YtegeelldcomnnaaTasksD3
namespace Go.Proofs.Ytegeelldcomnnaa
open Go.RowKit
open Go.Lib (hid)

set_option maxHeartbeats 1000000 in
theorem iAreTasks_u (v : Value) (L : List Tsk) (w : World) (h : RTasks w v L) :
    Calls Try.prog 50 #[v] w fun e w' => e = .returned (.bool (tasksB L)) ∧ Below w.heap.size w w' := by
  have HR := hid h
  obtain ⟨a, c, rfl⟩ := h.form
  clear h
  go_enter Try.func50, Try.ntmps50
  go_wp2_with fail
  refine (areTasks_c _ L _ HR.out).mono ?_
  rintro e w1 ⟨rfl, hb⟩
  have HB := hid hb
  clear hb
  go_wp2
  go_ret
  exact ⟨rfl, HB.out⟩
theorem RTasks.form4 {w : World} {v : Value} {L : List Tsk} (h : RTasks w v L) : ∃ a n c, v = .slice a n c ∧ Hid (n = L.length) := by
  obtain ⟨a, cap, rfl, _⟩ := h; exact ⟨_, _, _, rfl, rfl⟩
/-- the latest starts are asked for, and given -/
theorem late_given {L : List Tsk} (t : tasksB L = true) : lateB L (endF L (earlyF L)) = (lateF L (endF L (earlyF L)), true) := by
  have h := endF_range (good_of_tasksB t)
  unfold lateB
  rw [t, inB_iff.2 (show (0 : Int) ≤ endF L (earlyF L) ∧ endF L (earlyF L) ≤ 100000 by omega), decide_eq_true (Int.le_refl _)]
  rfl

end Go.Proofs.Ytegeelldcomnnaa
