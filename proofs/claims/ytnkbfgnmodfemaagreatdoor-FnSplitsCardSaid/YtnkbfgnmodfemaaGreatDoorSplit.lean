/- Splits: the contracts of the functions that tell whether a list is a split. -/
import Derived.Test.YtnkbfgnmodfemaaGreatDoorMake
namespace Go.Proofs.YtnkbfgnmodfemaaGreatDoor
open Go.RowKit
open Go.Lib (hid)

/-- a is a split of n points -/
def splitB (n : Int) (a : List Int) : Bool := inB n 2 7 && (decide (0 < a.length) && risB 1 (n - 1) none a)

theorem risB_some (hi y : Int) (hy : 0 < y) (l : List Int) : risB 0 hi (some y) l = risB 1 hi (some y) l := by
  induction l generalizing y with
  | nil => rfl
  | cons x xs ih =>
    rw [risB_cons, risB_cons]
    by_cases hyx : y < x
    · rw [ih x (by omega)]
      have : inB x 0 hi = inB x 1 hi := by rw [Bool.eq_iff_iff, inB_iff, inB_iff]; omega
      rw [this]
    · simp [hyx]

theorem risB_first (hi x : Int) (xs : List Int) : (risB 0 hi none (x :: xs) && decide (0 < x)) = risB 1 hi none (x :: xs) := by
  rw [risB_cons, risB_cons]
  by_cases h : 0 < x
  · rw [risB_some hi x h]
    have : inB x 0 hi = inB x 1 hi := by rw [Bool.eq_iff_iff, inB_iff, inB_iff]; omega
    rw [this]; simp [h]
  · have : inB x 1 hi = false := by rw [inB_false]; omega
    simp [h, this]

set_option maxHeartbeats 400000 in
theorem slCount_c (n : Int) (w : World) :
    Calls Tryz.prog 66 #[.int .i64 n] w fun e w' => e = .returned (.bool (inB n 2 7)) ∧ w = w' := by
  go_enter Tryz.func66, Tryz.ntmps66
  go_wp2_with (go_at_call 72; refine (l1In_c _ _ _ _).mono ?_; rintro e w' ⟨rfl, rfl⟩)
  go_ret
  exact ⟨rfl, rfl⟩

set_option maxHeartbeats 400000 in
theorem slGood_c (n : Int) (v : Value) (a : List Int) (w : World) (h : RInts w v a) :
    Calls Tryz.prog 36 #[.int .i64 n, v] w fun e w' => e = .returned (.bool (splitB n a)) ∧ w = w' := by
  have hR := h
  obtain ⟨ad, cap, rfl, h1, h2, hc⟩ := h
  clear hc
  unfold maxLen at h2
  rcases Bool.eq_false_or_eq_true (inB n 2 7) with hn | hn
  · have hb := inB_iff.1 hn
    by_cases hl : 0 < a.length
    all_goals
      go_enter Tryz.func36, Tryz.ntmps36
      go_wp2_with (first
        | (go_at_call 66; refine (slCount_c _ _).mono ?_; rintro e w' ⟨rfl, rfl⟩)
        | (go_at_call 67; refine (l1Rising_c _ _ _ _ _ hR).mono ?_; rintro e w' ⟨rfl, rfl⟩))
      go_ret
      exact ⟨ret_bool (by simp [splitB, hn, hl]), rfl⟩
  · go_enter Tryz.func36, Tryz.ntmps36
    go_wp2_with (go_at_call 66; refine (slCount_c _ _).mono ?_; rintro e w' ⟨rfl, rfl⟩)
    go_ret
    exact ⟨ret_bool (by simp [splitB, hn]), rfl⟩


set_option maxHeartbeats 400000 in
theorem isSplit_c (n : Int) (v : Value) (a : List Int) (w : World) (h : RInts w v a) :
    Calls Tryz.prog 32 #[.int .i64 n, v] w fun e w' => e = .returned (.bool (splitB n a)) ∧ w = w' := by
  have hR := h
  obtain ⟨ad, cap, rfl, h1, h2, hc⟩ := h
  unfold maxLen at h2
  rcases Bool.eq_false_or_eq_true (inB n 2 7) with hn | hn
  · have hb := inB_iff.1 hn
    rcases Bool.eq_false_or_eq_true (idxsB n a) with hr | hr
    · have hl : 0 < a.length := by simp [idxsB] at hr; exact hr.2
      obtain ⟨g, o, x, rfl, hk, HD, HX⟩ := ints_at hc hl
      have hk : w.cell? ⟨g, o, none⟩ = some (.int .i64 x) := hk
      have HA : Hid (a = x :: a.drop 1) := HD.out
      clear hc
      go_enter Tryz.func32, Tryz.ntmps32
      go_wp2_with (first
        | (go_at_call 43; refine (within_c _ _ _ _).mono ?_; rintro e w' ⟨rfl, rfl⟩)
        | (go_at_call 63; refine (areIndices_c _ _ _ _ hR (by omega) (by omega)).mono ?_; rintro e w' ⟨rfl, rfl⟩))
      go_ret
      refine ⟨ret_bool ?_, rfl⟩
      have h3 := risB_first (n - 1) x (a.drop 1)
      rw [← HA.out] at h3
      have h4 := hr
      simp [idxsB, hl] at h4
      simp [splitB, hn, hl, ← h3, h4]
    · have HR := hid hr
      clear hc
      go_enter Tryz.func32, Tryz.ntmps32
      go_wp2_with (first
        | (go_at_call 43; refine (within_c _ _ _ _).mono ?_; rintro e w' ⟨rfl, rfl⟩)
        | (go_at_call 63; refine (areIndices_c _ _ _ _ hR (by omega) (by omega)).mono ?_; rintro e w' ⟨rfl, rfl⟩))
      go_ret
      refine ⟨ret_bool ?_, rfl⟩
      have h4 := hr
      cases a with
      | nil => simp [splitB]
      | cons x xs =>
        have h3 := risB_first (n - 1) x xs
        simp [idxsB] at h4
        simp [splitB, ← h3, h4]
  · clear hc
    go_enter Tryz.func32, Tryz.ntmps32
    go_wp2_with (go_at_call 43; refine (within_c _ _ _ _).mono ?_; rintro e w' ⟨rfl, rfl⟩)
    go_ret
    exact ⟨ret_bool (by simp [splitB, hn]), rfl⟩

set_option maxHeartbeats 400000 in
theorem iIsSplit_c (n : Int) (v : Value) (a : List Int) (w : World) (h : RInts w v a) :
    Calls Tryz.prog 17 #[.int .i64 n, v] w fun e w' => e = .returned (.bool (splitB n a)) ∧ w = w' := by
  go_enter Tryz.func17, Tryz.ntmps17
  go_wp2_with (go_at_call 32; refine (isSplit_c _ _ _ _ h).mono ?_; rintro e w' ⟨rfl, rfl⟩)
  go_ret
  exact ⟨rfl, rfl⟩

end Go.Proofs.YtnkbfgnmodfemaaGreatDoor
