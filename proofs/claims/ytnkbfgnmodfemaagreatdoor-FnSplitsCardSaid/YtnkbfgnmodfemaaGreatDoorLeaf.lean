/- Contracts of small functions that only read. -/
import Derived.Test.YtnkbfgnmodfemaaGreatDoorPlain
import Derived.Handy
import Derived.Deep.LoopGhost
import Derived.Deep.QuietTactic
import Derived.BigQuiet
namespace Go.Proofs.YtnkbfgnmodfemaaGreatDoor
open Go.RowKit
open Go.Lib (hid)

theorem ret_bool {a b : Bool} (h : a = b) : Ending.returned (.bool a) = .returned (.bool b) := by rw [h]
theorem bne_iff_beq_false {x y : Int} (h : (x != y) = true) : (x == y) = false := by simpa [bne] using h
theorem bne_false_beq {x y : Int} (h : (x != y) = false) : (x == y) = true := by simpa [bne] using h
theorem ret_int {a b : Int} (h : a = b) : Ending.returned (.int .i64 a) = .returned (.int .i64 b) := by rw [h]

set_option maxHeartbeats 400000 in
theorem l1In_c (n lo hi : Int) (w : World) :
    Calls Tryz.prog 72 #[.int .i64 n, .int .i64 lo, .int .i64 hi] w fun e w' => e = .returned (.bool (inB n lo hi)) ∧ w = w' := by
  go_enter Tryz.func72, Tryz.ntmps72
  go_wp2
  all_goals go_ret
  all_goals refine ⟨ret_bool ?_, rfl⟩
  all_goals (rw [Bool.eq_iff_iff]; simp [inB, *]; try omega)

set_option maxHeartbeats 400000 in
theorem within_c (n lo hi : Int) (w : World) :
    Calls Tryz.prog 43 #[.int .i64 n, .int .i64 lo, .int .i64 hi] w fun e w' => e = .returned (.bool (inB n lo hi)) ∧ w = w' := by
  go_enter Tryz.func43, Tryz.ntmps43
  go_wp2
  all_goals go_ret
  all_goals refine ⟨ret_bool ?_, rfl⟩
  all_goals (rw [Bool.eq_iff_iff]; simp [inB, *]; try omega)

set_option maxHeartbeats 400000 in
theorem l1Least_c (a b : Int) (w : World) :
    Calls Tryz.prog 61 #[.int .i64 a, .int .i64 b] w fun e w' => e = .returned (.int .i64 (min a b)) ∧ w = w' := by
  go_enter Tryz.func61, Tryz.ntmps61
  go_wp2
  all_goals go_ret
  all_goals exact ⟨ret_int (by omega), rfl⟩

set_option maxHeartbeats 400000 in
theorem l1Most_c (a b : Int) (w : World) :
    Calls Tryz.prog 62 #[.int .i64 a, .int .i64 b] w fun e w' => e = .returned (.int .i64 (max a b)) ∧ w = w' := by
  go_enter Tryz.func62, Tryz.ntmps62
  go_wp2
  all_goals go_ret
  all_goals exact ⟨ret_int (by omega), rfl⟩

set_option maxHeartbeats 400000 in
theorem l1Has_c (v : Value) (l : List Int) (n : Int) (w : World) (h : RInts w v l) :
    Calls Tryz.prog 37 #[v, .int .i64 n] w fun e w' => e = .returned (.bool (hasB l n)) ∧ w = w' := by
  obtain ⟨a, cap, rfl, h1, h2, hc⟩ := h
  unfold maxLen at h2
  go_enter Tryz.func37, Tryz.ntmps37
  go_wp2
  go_loop [9] (fun i => ∃ k : Nat, k ≤ l.length ∧ i = .int .i64 k ∧ hasB l n = hasB (l.drop k) n) (fun i => l.length - (intOf i).toNat)
  case atStart => exact ⟨0, Nat.zero_le _, rfl, rfl⟩
  case round =>
    obtain ⟨k, hk, rfl, hr⟩ := hrel
    have HR := hid hr; clear hr
    by_cases hlt : k < l.length
    · obtain ⟨g, o, x, rfl, hk, HD, _⟩ := ints_at hc hlt
      clear hc
      go_wp2
      · go_ret
        exact ⟨ret_bool (by rw [HR.out, HD.out, hasB_cons]; simp [*]), rfl⟩
      · go_round
        case rel => exact ⟨k + 1, by omega, by go_num, by rw [HR.out, HD.out, hasB_cons]; simp [*]⟩
        case measure => simp [intOf]; omega
    · clear hc
      go_wp2
      go_ret
      exact ⟨ret_bool (by rw [HR.out, List.drop_eq_nil_of_le (by omega), hasB_nil]), rfl⟩

set_option maxHeartbeats 400000 in
theorem l1All_c (v : Value) (l : List Int) (lo hi : Int) (w : World) (h : RInts w v l) :
    Calls Tryz.prog 52 #[v, .int .i64 lo, .int .i64 hi] w fun e w' => e = .returned (.bool (allB l lo hi)) ∧ w = w' := by
  obtain ⟨a, cap, rfl, h1, h2, hc⟩ := h
  unfold maxLen at h2
  go_enter Tryz.func52, Tryz.ntmps52
  go_wp2
  go_loop [11] (fun i => ∃ k : Nat, k ≤ l.length ∧ i = .int .i64 k ∧ allB l lo hi = allB (l.drop k) lo hi) (fun i => l.length - (intOf i).toNat)
  case atStart => exact ⟨0, Nat.zero_le _, rfl, rfl⟩
  case round =>
    obtain ⟨k, hk, rfl, hr⟩ := hrel
    have HR := hid hr; clear hr
    by_cases hlt : k < l.length
    · obtain ⟨g, o, x, rfl, hk, HD, _⟩ := ints_at hc hlt
      clear hc
      rcases Bool.eq_false_or_eq_true (inB x lo hi) with hx | hx
      all_goals go_wp2_with (go_at_call 72; refine (l1In_c _ _ _ _).mono ?_; rintro e w' ⟨rfl, rfl⟩)
      rotate_left
      · go_ret
        exact ⟨ret_bool (by rw [HR.out, HD.out, allB_cons]; simp [*]), rfl⟩
      · go_round
        case rel => exact ⟨k + 1, by omega, by go_num, by rw [HR.out, HD.out, allB_cons]; simp [*]⟩
        case measure => simp [intOf]; omega
    · clear hc
      go_wp2
      go_ret
      exact ⟨ret_bool (by rw [HR.out, List.drop_eq_nil_of_le (by omega), allB_nil]), rfl⟩

set_option maxHeartbeats 400000 in
theorem l1Rising_c (v : Value) (l : List Int) (lo hi : Int) (w : World) (h : RInts w v l) :
    Calls Tryz.prog 67 #[v, .int .i64 lo, .int .i64 hi] w fun e w' => e = .returned (.bool (risB lo hi none l)) ∧ w = w' := by
  obtain ⟨a, cap, rfl, h1, h2, hc⟩ := h
  unfold maxLen at h2
  go_enter Tryz.func67, Tryz.ntmps67
  go_wp2
  go_loop [11] (fun i => ∃ k : Nat, k ≤ l.length ∧ i = .int .i64 k ∧ risB lo hi none l = risB lo hi (prevOf l k) (l.drop k)) (fun i => l.length - (intOf i).toNat)
  case atStart => exact ⟨0, Nat.zero_le _, rfl, rfl⟩
  case round =>
    obtain ⟨k, hk, rfl, hr⟩ := hrel
    have HR := hid hr; clear hr
    by_cases hlt : k < l.length
    · obtain ⟨g, o, x, rfl, hk, HD, HX⟩ := ints_at hc hlt
      by_cases hk0 : 0 < k
      · obtain ⟨j, rfl⟩ : ∃ j, k = j + 1 := ⟨k - 1, by omega⟩
        obtain ⟨g', o', y, hg', hk', HD', HY⟩ := ints_at hc (show j < l.length by omega)
        simp only [Option.some.injEq, Addr.mk.injEq, and_true] at hg'
        obtain ⟨rfl, rfl⟩ := hg'
        clear hc
        have HP := hid (prevOf_succ l j)
        by_cases hyx : y < x <;> rcases Bool.eq_false_or_eq_true (inB x lo hi) with hx | hx
        all_goals go_wp2_with (go_at_call 72; refine (l1In_c _ _ _ _).mono ?_; rintro e w' ⟨rfl, rfl⟩)
        · go_round
          case rel => exact ⟨j + 1 + 1, by omega, by go_num, by rw [HR.out, HD.out, risB_cons, HP.out, HY.out, prevOf_succ l (j + 1), HX.out]; simp [*]⟩
          case measure => simp [intOf]; omega
        all_goals
          go_ret
          exact ⟨ret_bool (by rw [HR.out, HD.out, risB_cons, HP.out, HY.out]; first | (simp only [hx, Bool.false_and]; done) | simp only [hx, decide_eq_false (show ¬ y < x by omega), Bool.true_and, Bool.false_and]), rfl⟩
      · clear hc
        have HP := hid (prevOf_none l k hk0)
        rcases Bool.eq_false_or_eq_true (inB x lo hi) with hx | hx
        all_goals go_wp2_with (go_at_call 72; refine (l1In_c _ _ _ _).mono ?_; rintro e w' ⟨rfl, rfl⟩)
        · go_round
          case rel => exact ⟨k + 1, by omega, by go_num, by rw [HR.out, HD.out, risB_cons, HP.out, prevOf_succ l k, HX.out]; simp [*]⟩
          case measure => simp [intOf]; omega
        · go_ret
          exact ⟨ret_bool (by rw [HR.out, HD.out, risB_cons, HP.out]; simp [*]), rfl⟩
    · clear hc
      go_wp2
      go_ret
      exact ⟨ret_bool (by rw [HR.out, List.drop_eq_nil_of_le (by omega), risB_nil]), rfl⟩

set_option maxHeartbeats 400000 in
theorem slicesIndex_c (v : Value) (l : List Int) (n : Int) (w : World) (h : RInts w v l) :
    Calls Tryz.prog 71 #[v, .int .i64 n] w fun e w' => e = .returned (.int .i64 (idxB n 0 l)) ∧ w = w' := by
  obtain ⟨a, cap, rfl, h1, h2, hc⟩ := h
  unfold maxLen at h2
  go_enter Tryz.func71, Tryz.ntmps71
  go_wp2
  go_loop [8] (fun i => ∃ k : Nat, k ≤ l.length ∧ i = .int .i64 k ∧ idxB n 0 l = idxB n k (l.drop k)) (fun i => l.length - (intOf i).toNat)
  case atStart => exact ⟨0, Nat.zero_le _, rfl, rfl⟩
  case round =>
    obtain ⟨k, hk, rfl, hr⟩ := hrel
    have HR := hid hr; clear hr
    by_cases hlt : k < l.length
    · obtain ⟨g, o, x, rfl, hk, HD, HX⟩ := ints_at hc hlt
      clear hc
      go_wp2
      · go_ret
        exact ⟨ret_int (by rw [HR.out, HD.out, idxB_cons]; simp [*]), rfl⟩
      · go_round
        case rel => exact ⟨k + 1, by omega, by go_num, by rw [HR.out, HD.out, idxB_cons]; simp [*]⟩
        case measure => simp [intOf]; omega
    · clear hc
      go_wp2
      go_ret
      exact ⟨ret_int (by rw [HR.out, List.drop_eq_nil_of_le (by omega), idxB_nil]), rfl⟩

set_option maxHeartbeats 400000 in
theorem contains_c (v : Value) (l : List Int) (n : Int) (w : World) (h : RInts w v l) :
    Calls Tryz.prog 44 #[v, .int .i64 n] w fun e w' => e = .returned (.bool (hasB l n)) ∧ w = w' := by
  go_enter Tryz.func44, Tryz.ntmps44
  go_wp2_with (go_at_call 71; refine (slicesIndex_c _ _ _ _ h).mono ?_; rintro e w' ⟨rfl, rfl⟩)
  go_ret
  exact ⟨ret_bool (idxB_has n 0 l), rfl⟩

set_option maxHeartbeats 400000 in
theorem areIndices_c (v : Value) (l : List Int) (n : Int) (w : World) (h : RInts w v l) (hn : -9223372036854775807 ≤ n) (hn' : n ≤ 9223372036854775807) :
    Calls Tryz.prog 63 #[v, .int .i64 n] w fun e w' => e = .returned (.bool (idxsB n l)) ∧ w = w' := by
  obtain ⟨a, cap, rfl, h1, h2, hc⟩ := h
  unfold maxLen at h2
  go_enter Tryz.func63, Tryz.ntmps63
  go_wp2
  go_loop [9] (fun i => ∃ k : Nat, k ≤ l.length ∧ i = .int .i64 k ∧ risB 0 (n - 1) none l = risB 0 (n - 1) (prevOf l k) (l.drop k)) (fun i => l.length - (intOf i).toNat)
  case atStart => exact ⟨0, Nat.zero_le _, rfl, rfl⟩
  case round =>
    obtain ⟨k, hk, rfl, hr⟩ := hrel
    have HR := hid hr; clear hr
    by_cases hlt : k < l.length
    · obtain ⟨g, o, x, rfl, hk, HD, HX⟩ := ints_at hc hlt
      by_cases hk0 : 0 < k
      · obtain ⟨j, rfl⟩ : ∃ j, k = j + 1 := ⟨k - 1, by omega⟩
        obtain ⟨g', o', y, hg', hk', HD', HY⟩ := ints_at hc (show j < l.length by omega)
        simp only [Option.some.injEq, Addr.mk.injEq, and_true] at hg'
        obtain ⟨rfl, rfl⟩ := hg'
        clear hc
        have HP := hid (prevOf_succ l j)
        by_cases hyx : y < x <;> rcases Bool.eq_false_or_eq_true (inB x 0 (n - 1)) with hx | hx
        all_goals go_wp2_with (go_at_call 43; refine (within_c _ _ _ _).mono ?_; rintro e w' ⟨rfl, rfl⟩)
        · go_round
          case rel => exact ⟨j + 1 + 1, by omega, by go_num, by rw [HR.out, HD.out, risB_cons, HP.out, HY.out, prevOf_succ l (j + 1), HX.out]; simp [*]⟩
          case measure => simp [intOf]; omega
        all_goals
          go_ret
          exact ⟨ret_bool (by rw [idxsB, HR.out, HD.out, risB_cons, HP.out, HY.out]; first | (simp only [hx, Bool.false_and]; done) | simp only [hx, decide_eq_false (show ¬ y < x by omega), Bool.true_and, Bool.false_and]), rfl⟩
      · clear hc
        have HP := hid (prevOf_none l k hk0)
        rcases Bool.eq_false_or_eq_true (inB x 0 (n - 1)) with hx | hx
        all_goals go_wp2_with (go_at_call 43; refine (within_c _ _ _ _).mono ?_; rintro e w' ⟨rfl, rfl⟩)
        · go_round
          case rel => exact ⟨k + 1, by omega, by go_num, by rw [HR.out, HD.out, risB_cons, HP.out, prevOf_succ l k, HX.out]; simp [*]⟩
          case measure => simp [intOf]; omega
        · go_ret
          exact ⟨ret_bool (by rw [idxsB, HR.out, HD.out, risB_cons, HP.out]; simp [*]), rfl⟩
    · clear hc
      go_wp2
      go_ret
      exact ⟨ret_bool (by rw [idxsB, HR.out, List.drop_eq_nil_of_le (by omega), risB_nil]; simp), rfl⟩

end Go.Proofs.YtnkbfgnmodfemaaGreatDoor
