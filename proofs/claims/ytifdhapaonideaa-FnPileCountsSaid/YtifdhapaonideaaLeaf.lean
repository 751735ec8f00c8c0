/- Contracts of small functions that only read. -/
import Derived.Test.YtifdhapaonideaaPlain
import Derived.Handy
import Derived.Deep.LoopGhost
import Derived.Deep.QuietTactic
import Derived.BigQuiet
namespace Go.Proofs.Ytifdhapaonideaa
open Go.RowKit
open Go.Lib (hid)

theorem ret_bool {a b : Bool} (h : a = b) : Ending.returned (.bool a) = .returned (.bool b) := by rw [h]
theorem bne_iff_beq_false {x y : Int} (h : (x != y) = true) : (x == y) = false := by simpa [bne] using h
theorem bne_false_beq {x y : Int} (h : (x != y) = false) : (x == y) = true := by simpa [bne] using h
theorem ret_int {a b : Int} (h : a = b) : Ending.returned (.int .i64 a) = .returned (.int .i64 b) := by rw [h]

set_option maxHeartbeats 400000 in
theorem l1In_c (n lo hi : Int) (w : World) :
    Calls Try.prog 80 #[.int .i64 n, .int .i64 lo, .int .i64 hi] w fun e w' => e = .returned (.bool (inB n lo hi)) ∧ w = w' := by
  go_enter Try.func80, Try.ntmps80
  go_wp2
  all_goals go_ret
  all_goals refine ⟨ret_bool ?_, rfl⟩
  all_goals (rw [Bool.eq_iff_iff]; simp [inB, *]; try omega)

set_option maxHeartbeats 400000 in
theorem within_c (n lo hi : Int) (w : World) :
    Calls Try.prog 96 #[.int .i64 n, .int .i64 lo, .int .i64 hi] w fun e w' => e = .returned (.bool (inB n lo hi)) ∧ w = w' := by
  go_enter Try.func96, Try.ntmps96
  go_wp2
  all_goals go_ret
  all_goals refine ⟨ret_bool ?_, rfl⟩
  all_goals (rw [Bool.eq_iff_iff]; simp [inB, *]; try omega)

set_option maxHeartbeats 400000 in
theorem l1Has_c (v : Value) (l : List Int) (n : Int) (w : World) (h : RInts w v l) :
    Calls Try.prog 102 #[v, .int .i64 n] w fun e w' => e = .returned (.bool (hasB l n)) ∧ w = w' := by
  obtain ⟨a, cap, rfl, h1, h2, hc⟩ := h
  unfold maxLen at h2
  go_enter Try.func102, Try.ntmps102
  go_wp2
  go_loop [9] (fun i => ∃ k : Nat, k ≤ l.length ∧ i = .int .i64 k ∧ hasB l n = hasB (l.drop k) n) (fun i => l.length - (intOf i).toNat)
  case atStart => exact ⟨0, Nat.zero_le _, rfl, rfl⟩
  case round =>
    obtain ⟨k, hk, rfl, hr⟩ := hrel
    have HR := hid hr; clear hr
    by_cases hlt : k < l.length
    · obtain ⟨g, o, x, rfl, hk, HD, _⟩ := ints_at hc hlt
      clear hc
      go_wp2
      · go_ret
        exact ⟨ret_bool (by rw [HR.out, HD.out, hasB_cons]; simp [*]), rfl⟩
      · go_round
        case rel => exact ⟨k + 1, by omega, by go_num, by rw [HR.out, HD.out, hasB_cons]; simp [*]⟩
        case measure => simp [intOf]; omega
    · clear hc
      go_wp2
      go_ret
      exact ⟨ret_bool (by rw [HR.out, List.drop_eq_nil_of_le (by omega), hasB_nil]), rfl⟩

set_option maxHeartbeats 400000 in
theorem l1All_c (v : Value) (l : List Int) (lo hi : Int) (w : World) (h : RInts w v l) :
    Calls Try.prog 81 #[v, .int .i64 lo, .int .i64 hi] w fun e w' => e = .returned (.bool (allB l lo hi)) ∧ w = w' := by
  obtain ⟨a, cap, rfl, h1, h2, hc⟩ := h
  unfold maxLen at h2
  go_enter Try.func81, Try.ntmps81
  go_wp2
  go_loop [11] (fun i => ∃ k : Nat, k ≤ l.length ∧ i = .int .i64 k ∧ allB l lo hi = allB (l.drop k) lo hi) (fun i => l.length - (intOf i).toNat)
  case atStart => exact ⟨0, Nat.zero_le _, rfl, rfl⟩
  case round =>
    obtain ⟨k, hk, rfl, hr⟩ := hrel
    have HR := hid hr; clear hr
    by_cases hlt : k < l.length
    · obtain ⟨g, o, x, rfl, hk, HD, _⟩ := ints_at hc hlt
      clear hc
      rcases Bool.eq_false_or_eq_true (inB x lo hi) with hx | hx
      all_goals go_wp2_with (go_at_call 80; refine (l1In_c _ _ _ _).mono ?_; rintro e w' ⟨rfl, rfl⟩)
      rotate_left
      · go_ret
        exact ⟨ret_bool (by rw [HR.out, HD.out, allB_cons]; simp [*]), rfl⟩
      · go_round
        case rel => exact ⟨k + 1, by omega, by go_num, by rw [HR.out, HD.out, allB_cons]; simp [*]⟩
        case measure => simp [intOf]; omega
    · clear hc
      go_wp2
      go_ret
      exact ⟨ret_bool (by rw [HR.out, List.drop_eq_nil_of_le (by omega), allB_nil]), rfl⟩

end Go.Proofs.Ytifdhapaonideaa
