/- Whether a list are tasks: both programs' functions. -/
import Derived.Test.YtegeelldcomnnaaTask
namespace Go.Proofs.Ytegeelldcomnnaa
open Go.RowKit
open Go.Lib (hid)

def gT : Nat → List Tsk → Bool
  | _, [] => true
  | i, t :: ts => inB t.time 0 1000 && (risB 0 ((i : Int) - 1) none t.needs && gT (i + 1) ts)
theorem gT_nil (i : Nat) : gT i [] = true := rfl
theorem gT_cons (i : Nat) (t : Tsk) (ts : List Tsk) : gT i (t :: ts) = (inB t.time 0 1000 && (risB 0 ((i : Int) - 1) none t.needs && gT (i + 1) ts)) := rfl
/-- L are tasks -/
def tasksB (L : List Tsk) : Bool := decide (L.length ≤ 12) && gT 0 L

set_option maxRecDepth 100000 in
set_option maxHeartbeats 1000000 in
theorem pjGood_c (v : Value) (L : List Tsk) (w : World) (h : RTasks w v L) :
    Calls Try.prog 120 #[v] w fun e w' => e = .returned (.bool (tasksB L)) ∧ Below w.heap.size w w' := by
  have HR := hid h
  obtain ⟨a, cap, rfl, h1, h2, hc⟩ := h
  clear hc
  unfold maxLen at h2
  go_enter Try.func120, Try.ntmps120
  go_wp2
  go_loopg [7] L.length (fun gk i wr => ∃ k : Nat, k ≤ L.length ∧ gk = L.length - k ∧ i = .int .i64 k ∧ gT 0 L = gT k (L.drop k) ∧ Below w.heap.size w wr)
  case atStart => exact ⟨0, Nat.zero_le _, rfl, rfl, rfl, Below.refl _ _⟩
  case round =>
    obtain ⟨k, hk, rfl, rfl, hr, hb⟩ := hrel
    have HRR := hid hr; clear hr
    have HB := hid hb
    by_cases hlt : k < L.length
    · obtain ⟨a', cap', hv, _, _, hc⟩ := HR.out.keep hb
      simp only [Value.slice.injEq, true_and] at hv
      obtain ⟨rfl, rfl⟩ := hv
      obtain ⟨g, o, r, y, tm, rfl, c1, c2, hy, HD, _⟩ := tasks_at hc hlt
      clear hc hb
      have ha : Below wr.heap.size wr (wr.alloc (.cells #[r, .int .i64 tm] 67)) := (Below.refl _ _).alloc (Nat.le_refl _) _
      have hy2 := hy.keep ha
      have HB1 := hid (HB.out.trans (ha.mono HB.out.size))
      obtain ⟨ay, cy, rfl, hy1, _, hyc⟩ := hy
      clear hyc ha
      have hltz : (k : Int) < (L.length : Int) := by omega
      rcases Bool.eq_false_or_eq_true (risB 0 ((k : Int) - 1) none y) with t1 | t1 <;> rcases Bool.eq_false_or_eq_true (inB tm 0 1000) with t2 | t2
      all_goals
        go_wp2_with (first
          | (go_at_call 160; refine (l1Rising_c _ y _ _ _ hy2).mono ?_; rintro e w' ⟨rfl, rfl⟩)
          | (go_at_call 103; refine (l1In_c _ _ _ _).mono ?_; rintro e w' ⟨rfl, rfl⟩))
      · go_roundg (L.length - (k + 1))
        case rel => exact ⟨k + 1, by omega, rfl, by go_num, by rw [HRR.out, HD.out, gT_cons, t1, t2]; rfl, HB1.out⟩
        case measure => omega
      all_goals
        go_ret
        exact ⟨ret_bool (by rw [tasksB, HRR.out, HD.out, gT_cons, t1, t2]; simp), HB1.out⟩
    · have HG : Hid (gT 0 L = true) := by show _ = _; rw [HRR.out, List.drop_eq_nil_of_le (by omega), gT_nil]
      clear hb
      by_cases hl : L.length ≤ 12
      all_goals
        go_wp2
        go_ret
      · exact ⟨ret_bool (by rw [tasksB, HG.out, decide_eq_true (show L.length ≤ 12 by omega)]; simp; omega), HB.out⟩
      · exact ⟨ret_bool (by rw [tasksB, HG.out, decide_eq_false (show ¬ L.length ≤ 12 by omega)]; simp; omega), HB.out⟩

set_option maxRecDepth 100000 in
set_option maxHeartbeats 1000000 in
theorem areTasks_c (v : Value) (L : List Tsk) (w : World) (h : RTasks w v L) :
    Calls Try.prog 118 #[v] w fun e w' => e = .returned (.bool (tasksB L)) ∧ Below w.heap.size w w' := by
  have HR := hid h
  obtain ⟨a, cap, rfl, h1, h2, hc⟩ := h
  clear hc
  unfold maxLen at h2
  by_cases hl : L.length ≤ 12
  · go_enter Try.func118, Try.ntmps118
    go_wp2
    go_loopg [10] L.length (fun gk i wr => ∃ k : Nat, k ≤ L.length ∧ gk = L.length - k ∧ i = .int .i64 k ∧ gT 0 L = gT k (L.drop k) ∧ Below w.heap.size w wr)
    case atStart => exact ⟨0, Nat.zero_le _, rfl, rfl, rfl, Below.refl _ _⟩
    case round =>
      obtain ⟨k, hk, rfl, rfl, hr, hb⟩ := hrel
      have HRR := hid hr; clear hr
      have HB := hid hb
      by_cases hlt : k < L.length
      · obtain ⟨a', cap', hv, _, _, hc⟩ := HR.out.keep hb
        simp only [Value.slice.injEq, true_and] at hv
        obtain ⟨rfl, rfl⟩ := hv
        obtain ⟨g, o, r, y, tm, rfl, c1, c2, hy, HD, _⟩ := tasks_at hc hlt
        clear hc hb
        have ha : Below wr.heap.size wr (wr.alloc (.cells #[r, .int .i64 tm] 67)) := (Below.refl _ _).alloc (Nat.le_refl _) _
        have hy2 := hy.keep ha
        have HB1 := hid (HB.out.trans (ha.mono HB.out.size))
        obtain ⟨ay, cy, rfl, hy1, hy4, hyc⟩ := hy
        unfold maxLen at hy4
        clear hyc ha
        have hltz : (k : Int) < (L.length : Int) := by omega
        rcases Bool.eq_false_or_eq_true (inB tm 0 1000) with t2 | t2
        · by_cases hy0 : 0 < y.length
          · rcases Bool.eq_false_or_eq_true (idxsB (k : Int) y) with t1 | t1
            · have HT : Hid (risB 0 ((k : Int) - 1) none y = true) := by show _ = _; unfold idxsB at t1; rw [Bool.and_eq_true] at t1; exact t1.1
              go_wp2_with (first
                | (go_at_call 159; refine (areIndices_c _ y _ _ hy2 (by omega) (by omega)).mono ?_; rintro e w' ⟨rfl, rfl⟩)
                | (go_at_call 98; refine (within_c _ _ _ _).mono ?_; rintro e w' ⟨rfl, rfl⟩))
              go_roundg (L.length - (k + 1))
              case rel => exact ⟨k + 1, by omega, rfl, by go_num, by rw [HRR.out, HD.out, gT_cons, HT.out, t2]; rfl, HB1.out⟩
              case measure => omega
            · have HT : Hid (risB 0 ((k : Int) - 1) none y = false) := by show _ = _; unfold idxsB at t1; rw [decide_eq_true hy0, Bool.and_true] at t1; exact t1
              go_wp2_with (first
                | (go_at_call 159; refine (areIndices_c _ y _ _ hy2 (by omega) (by omega)).mono ?_; rintro e w' ⟨rfl, rfl⟩)
                | (go_at_call 98; refine (within_c _ _ _ _).mono ?_; rintro e w' ⟨rfl, rfl⟩))
              go_ret
              exact ⟨ret_bool (by rw [tasksB, HRR.out, HD.out, gT_cons, HT.out]; simp), HB1.out⟩
          · have hy0' : y = [] := List.eq_nil_of_length_eq_zero (by omega)
            have HT : Hid (risB 0 ((k : Int) - 1) none y = true) := by show _ = _; rw [hy0', risB_nil]
            clear hy0'
            go_wp2_with (go_at_call 98; refine (within_c _ _ _ _).mono ?_; rintro e w' ⟨rfl, rfl⟩)
            go_roundg (L.length - (k + 1))
            case rel => exact ⟨k + 1, by omega, rfl, by go_num, by rw [HRR.out, HD.out, gT_cons, HT.out, t2]; rfl, HB1.out⟩
            case measure => omega
        · go_wp2_with (go_at_call 98; refine (within_c _ _ _ _).mono ?_; rintro e w' ⟨rfl, rfl⟩)
          go_ret
          exact ⟨ret_bool (by rw [tasksB, HRR.out, HD.out, gT_cons, t2]; simp), HB1.out⟩
      · have HG : Hid (gT 0 L = true) := by show _ = _; rw [HRR.out, List.drop_eq_nil_of_le (by omega), gT_nil]
        clear hb
        go_wp2
        go_ret
        exact ⟨ret_bool (by rw [tasksB, HG.out, decide_eq_true (show L.length ≤ 12 by omega)]; rfl), HB.out⟩
  · go_enter Try.func118, Try.ntmps118
    go_wp2
    go_ret
    exact ⟨ret_bool (by rw [tasksB, decide_eq_false (show ¬ L.length ≤ 12 by omega)]; rfl), Below.refl _ _⟩

end Go.Proofs.Ytegeelldcomnnaa
