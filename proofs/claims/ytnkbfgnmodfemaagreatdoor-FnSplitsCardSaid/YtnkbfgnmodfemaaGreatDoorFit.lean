/- Whether two splits are compatible: the contracts of both programs' functions. -/
import Derived.Test.YtnkbfgnmodfemaaGreatDoorSplit
namespace Go.Proofs.YtnkbfgnmodfemaaGreatDoor
open Go.RowKit
open Go.Lib (hid)

/-- how many elements of a are in b -/
def meetN (a b : List Int) : Nat := (a.filter fun i => hasB b i).length
theorem meetN_nil (b : List Int) : meetN [] b = 0 := rfl
theorem meetN_yes (x : Int) (a b : List Int) (h : hasB b x = true) : meetN (x :: a) b = meetN a b + 1 := by simp [meetN, h]
theorem meetN_no (x : Int) (a b : List Int) (h : hasB b x = false) : meetN (x :: a) b = meetN a b := by simp [meetN, h]
theorem meetN_le (a b : List Int) : meetN a b ≤ a.length := List.length_filter_le _ _

def fitB (a b : List Int) : Bool := (meetN a b == 0) || ((meetN a b == a.length) || (meetN a b == b.length))
theorem fitB_int (a b : List Int) : fitB a b = (((meetN a b : Int) == 0) || (((meetN a b : Int) == (a.length : Int)) || ((meetN a b : Int) == (b.length : Int)))) := by
  unfold fitB
  rw [Bool.eq_iff_iff]; simp; omega

set_option maxHeartbeats 400000 in
theorem slMeet_c (v u : Value) (a b : List Int) (w : World) (h : RInts w v a) (h' : RInts w u b) :
    Calls Tryz.prog 91 #[v, u] w fun e w' => e = .returned (.int .i64 (meetN a b)) ∧ w = w' := by
  obtain ⟨ad, cap, rfl, h1, h2, hc⟩ := h
  unfold maxLen at h2
  go_enter Tryz.func91, Tryz.ntmps91
  go_wp2
  go_loop [5, 10] (fun n i => ∃ k c : Nat, k ≤ a.length ∧ c ≤ k ∧ i = .int .i64 k ∧ n = .int .i64 c ∧ meetN a b = c + meetN (a.drop k) b) (fun _ i => a.length - (intOf i).toNat)
  case atStart => exact ⟨0, 0, Nat.zero_le _, Nat.le_refl _, rfl, rfl, by simp⟩
  case round =>
    obtain ⟨k, c, hk, hck, rfl, rfl, hr⟩ := hrel
    have HR := hid hr; clear hr
    by_cases hlt : k < a.length
    · obtain ⟨g, o, x, rfl, hk, HD, _⟩ := ints_at hc hlt
      clear hc
      rcases Bool.eq_false_or_eq_true (hasB b x) with hx | hx
      all_goals go_wp2_with (go_at_call 37; refine (l1Has_c _ _ _ _ h').mono ?_; rintro e w' ⟨rfl, rfl⟩)
      · go_round
        case rel => exact ⟨k + 1, c + 1, by omega, by omega, by go_num, by go_num, by rw [HR.out, HD.out, meetN_yes _ _ _ hx]; omega⟩
        case measure => simp [intOf]; omega
      · go_round
        case rel => exact ⟨k + 1, c, by omega, by omega, by go_num, rfl, by rw [HR.out, HD.out, meetN_no _ _ _ hx]⟩
        case measure => simp [intOf]; omega
    · clear hc
      go_wp2
      go_ret
      exact ⟨ret_int (by rw [HR.out, List.drop_eq_nil_of_le (by omega), meetN_nil]; omega), rfl⟩

set_option maxHeartbeats 400000 in
theorem slFit_c (v u : Value) (a b : List Int) (w : World) (h : RInts w v a) (h' : RInts w u b) :
    Calls Tryz.prog 73 #[v, u] w fun e w' => e = .returned (.bool (fitB a b)) ∧ w = w' := by
  have hR := h
  have hR' := h'
  obtain ⟨ad, cap, rfl, h1, h2, hc⟩ := h
  obtain ⟨ad', cap', rfl, h1', h2', hc'⟩ := h'
  clear hc hc'
  unfold maxLen at h2 h2'
  have hf := hid (fitB_int a b)
  obtain ⟨m, hm⟩ : ∃ m : Int, m = (meetN a b : Int) := ⟨_, rfl⟩
  have HM := hid hm; clear hm
  go_enter Tryz.func73, Tryz.ntmps73
  go_wp2_with fail
  refine (slMeet_c _ _ a b _ hR hR').mono ?_
  rintro e w' ⟨rfl, rfl⟩
  rw [← HM.out]
  rcases Bool.eq_false_or_eq_true (m == 0) with t1 | t1 <;> rcases Bool.eq_false_or_eq_true (m == (a.length : Int)) with t2 | t2
  all_goals
    go_wp2_with fail
    go_ret
    refine ⟨ret_bool ?_, rfl⟩
    rw [hf.out, ← HM.out]
    simp [t1, t2]

set_option maxHeartbeats 400000 in
theorem areCompatible_c (v u : Value) (a b : List Int) (w : World) (h : RInts w v a) (h' : RInts w u b) :
    Calls Tryz.prog 40 #[v, u] w fun e w' => e = .returned (.bool (fitB a b)) ∧ w = w' := by
  have hR' := h'
  obtain ⟨ad, cap, rfl, h1, h2, hc⟩ := h
  obtain ⟨ad', cap', rfl, h1', h2', hc'⟩ := h'
  clear hc'
  unfold maxLen at h2 h2'
  have hf := hid (fitB_int a b)
  go_enter Tryz.func40, Tryz.ntmps40
  go_wp2
  go_loop [5, 10] (fun n i => ∃ k c : Nat, k ≤ a.length ∧ c ≤ k ∧ i = .int .i64 k ∧ n = .int .i64 c ∧ meetN a b = c + meetN (a.drop k) b) (fun _ i => a.length - (intOf i).toNat)
  case atStart => exact ⟨0, 0, Nat.zero_le _, Nat.le_refl _, rfl, rfl, by simp⟩
  case round =>
    obtain ⟨k, c, hk, hck, rfl, rfl, hr⟩ := hrel
    have HR := hid hr; clear hr
    by_cases hlt : k < a.length
    · obtain ⟨g, o, x, rfl, hk, HD, _⟩ := ints_at hc hlt
      clear hc
      rcases Bool.eq_false_or_eq_true (hasB b x) with hx | hx
      all_goals go_wp2_with (go_at_call 44; refine (contains_c _ _ _ _ hR').mono ?_; rintro e w' ⟨rfl, rfl⟩)
      · go_round
        case rel => exact ⟨k + 1, c + 1, by omega, by omega, by go_num, by go_num, by rw [HR.out, HD.out, meetN_yes _ _ _ hx]; omega⟩
        case measure => simp [intOf]; omega
      · go_round
        case rel => exact ⟨k + 1, c, by omega, by omega, by go_num, rfl, by rw [HR.out, HD.out, meetN_no _ _ _ hx]⟩
        case measure => simp [intOf]; omega
    · clear hc
      have HM : Hid (meetN a b = c) := by show meetN a b = c; rw [HR.out, List.drop_eq_nil_of_le (by omega), meetN_nil]; omega
      rcases Bool.eq_false_or_eq_true ((c : Int) == 0) with t1 | t1 <;> rcases Bool.eq_false_or_eq_true ((c : Int) == (a.length : Int)) with t2 | t2
      all_goals
        go_wp2_with fail
        go_ret
        refine ⟨ret_bool ?_, rfl⟩
        rw [hf.out, HM.out]
        simp [t1, t2]

/-- what AreCompatible returns -/
def compB (n : Int) (a b : List Int) : Bool × Bool := if splitB n a && splitB n b then (fitB a b, true) else (false, false)

end Go.Proofs.YtnkbfgnmodfemaaGreatDoor
