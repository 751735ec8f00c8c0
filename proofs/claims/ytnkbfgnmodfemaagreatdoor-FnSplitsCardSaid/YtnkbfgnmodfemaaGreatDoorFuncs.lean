/- The library's ContainsFunc and IndexFunc, for a closure that only reads. -/
import Derived.Test.YtnkbfgnmodfemaaGreatDoorMake
namespace Go.Proofs.YtnkbfgnmodfemaaGreatDoor
open Go.RowKit
open Go.Lib (hid)

/-- the index of the first element with p, -1 if there is none, from place i on -/
def findB {α : Type} (p : α → Bool) : Nat → List α → Int
  | _, [] => -1
  | i, x :: xs => if p x then (i : Int) else findB p (i + 1) xs
theorem findB_nil {α : Type} (p : α → Bool) (i : Nat) : findB p i [] = -1 := rfl
theorem findB_yes {α : Type} (p : α → Bool) (i : Nat) (x : α) (xs : List α) (h : p x = true) : findB p i (x :: xs) = i := by simp [findB, h]
theorem findB_no {α : Type} (p : α → Bool) (i : Nat) (x : α) (xs : List α) (h : p x = false) : findB p i (x :: xs) = findB p (i + 1) xs := by simp [findB, h]
theorem findB_any {α : Type} (p : α → Bool) (i : Nat) (l : List α) : decide (0 ≤ findB p i l) = l.any p := by
  induction l generalizing i with
  | nil => rfl
  | cons x xs ih =>
    rcases Bool.eq_false_or_eq_true (p x) with h | h
    · rw [findB_yes p i x xs h]; simp [h]
    · rw [findB_no p i x xs h, ih, List.any_cons, h, Bool.false_or]

set_option maxHeartbeats 400000 in
theorem indexFuncM_c (v : Value) (M : List (List Int)) (w : World) (F : Nat) (caps : Array Value) (p : List Int → Bool) (h : RMat w v M)
    (henter : ∀ args w, (callFunc F args).run Tryz.prog w = .ok (.enter F args) w)
    (hf : ∀ r x, RInts w r x → Calls Tryz.prog F (#[r] ++ caps) w fun e w' => e = .returned (.bool (p x)) ∧ w = w') :
    Calls Tryz.prog 90 #[v, .func (.func F) #[] caps] w fun e w' => e = .returned (.int .i64 (findB p 0 M)) ∧ w = w' := by
  obtain ⟨a, cap, rfl, h1, h2, hc⟩ := h
  unfold maxLen at h2
  have HF := hid hf; clear hf
  go_enter Tryz.func90, Tryz.ntmps90
  go_wp2
  go_loop [8] (fun i => ∃ k : Nat, k ≤ M.length ∧ i = .int .i64 k ∧ findB p 0 M = findB p k (M.drop k)) (fun i => M.length - (intOf i).toNat)
  case atStart => exact ⟨0, Nat.zero_le _, rfl, rfl⟩
  case round =>
    obtain ⟨k, hk, rfl, hr⟩ := hrel
    have HR := hid hr; clear hr
    by_cases hlt : k < M.length
    · obtain ⟨g, o, r, x, rfl, hk, hx, HD, _⟩ := mat_at hc hlt
      clear hc
      rcases Bool.eq_false_or_eq_true (p x) with hp | hp
      all_goals
        go_wp2
        refine (HF.out r x hx).mono ?_
        rintro e w' ⟨rfl, rfl⟩
        go_wp2
      · go_ret
        exact ⟨ret_int (by rw [HR.out, HD.out, findB_yes _ _ _ _ hp]), rfl⟩
      · go_round
        case rel => exact ⟨k + 1, by omega, by go_num, by rw [HR.out, HD.out, findB_no _ _ _ _ hp]⟩
        case measure => simp [intOf]; omega
    · clear hc
      go_wp2
      go_ret
      exact ⟨ret_int (by rw [HR.out, List.drop_eq_nil_of_le (by omega), findB_nil]), rfl⟩

set_option maxHeartbeats 400000 in
theorem containsFuncM_c (v : Value) (M : List (List Int)) (w : World) (F : Nat) (caps : Array Value) (p : List Int → Bool) (h : RMat w v M)
    (henter : ∀ args w, (callFunc F args).run Tryz.prog w = .ok (.enter F args) w)
    (hf : ∀ r x, RInts w r x → Calls Tryz.prog F (#[r] ++ caps) w fun e w' => e = .returned (.bool (p x)) ∧ w = w') :
    Calls Tryz.prog 68 #[v, .func (.func F) #[] caps] w fun e w' => e = .returned (.bool (M.any p)) ∧ w = w' := by
  have HF := hid hf; clear hf
  have HE := hid henter; clear henter
  go_enter Tryz.func68, Tryz.ntmps68
  go_wp2_with (go_at_call 90; refine (indexFuncM_c _ _ _ _ _ p h HE.out HF.out).mono ?_; rintro e w' ⟨rfl, rfl⟩)
  go_ret
  exact ⟨ret_bool (findB_any p 0 M), rfl⟩

set_option maxHeartbeats 400000 in
theorem indexFuncI_c (v : Value) (M : List Int) (w : World) (F : Nat) (caps : Array Value) (p : Int → Bool) (h : RInts w v M)
    (henter : ∀ args w, (callFunc F args).run Tryz.prog w = .ok (.enter F args) w)
    (hf : ∀ x : Int, Calls Tryz.prog F (#[.int .i64 x] ++ caps) w fun e w' => e = .returned (.bool (p x)) ∧ w = w') :
    Calls Tryz.prog 70 #[v, .func (.func F) #[] caps] w fun e w' => e = .returned (.int .i64 (findB p 0 M)) ∧ w = w' := by
  obtain ⟨a, cap, rfl, h1, h2, hc⟩ := h
  unfold maxLen at h2
  have HF := hid hf; clear hf
  go_enter Tryz.func70, Tryz.ntmps70
  go_wp2
  go_loop [8] (fun i => ∃ k : Nat, k ≤ M.length ∧ i = .int .i64 k ∧ findB p 0 M = findB p k (M.drop k)) (fun i => M.length - (intOf i).toNat)
  case atStart => exact ⟨0, Nat.zero_le _, rfl, rfl⟩
  case round =>
    obtain ⟨k, hk, rfl, hr⟩ := hrel
    have HR := hid hr; clear hr
    by_cases hlt : k < M.length
    · obtain ⟨g, o, x, rfl, hk, HD, _⟩ := ints_at hc hlt
      clear hc
      rcases Bool.eq_false_or_eq_true (p x) with hp | hp
      all_goals
        go_wp2
        refine (HF.out x).mono ?_
        rintro e w' ⟨rfl, rfl⟩
        go_wp2
      · go_ret
        exact ⟨ret_int (by rw [HR.out, HD.out, findB_yes _ _ _ _ hp]), rfl⟩
      · go_round
        case rel => exact ⟨k + 1, by omega, by go_num, by rw [HR.out, HD.out, findB_no _ _ _ _ hp]⟩
        case measure => simp [intOf]; omega
    · clear hc
      go_wp2
      go_ret
      exact ⟨ret_int (by rw [HR.out, List.drop_eq_nil_of_le (by omega), findB_nil]), rfl⟩

set_option maxHeartbeats 400000 in
theorem containsFuncI_c (v : Value) (M : List Int) (w : World) (F : Nat) (caps : Array Value) (p : Int → Bool) (h : RInts w v M)
    (henter : ∀ args w, (callFunc F args).run Tryz.prog w = .ok (.enter F args) w)
    (hf : ∀ x : Int, Calls Tryz.prog F (#[.int .i64 x] ++ caps) w fun e w' => e = .returned (.bool (p x)) ∧ w = w') :
    Calls Tryz.prog 41 #[v, .func (.func F) #[] caps] w fun e w' => e = .returned (.bool (M.any p)) ∧ w = w' := by
  have HF := hid hf; clear hf
  have HE := hid henter; clear henter
  go_enter Tryz.func41, Tryz.ntmps41
  go_wp2_with (go_at_call 70; refine (indexFuncI_c _ _ _ _ _ p h HE.out HF.out).mono ?_; rintro e w' ⟨rfl, rfl⟩)
  go_ret
  exact ⟨ret_bool (findB_any p 0 M), rfl⟩

end Go.Proofs.YtnkbfgnmodfemaaGreatDoor
