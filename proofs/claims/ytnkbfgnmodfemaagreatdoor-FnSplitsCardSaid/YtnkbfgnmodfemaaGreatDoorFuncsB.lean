/- The library's ContainsFunc and IndexFunc, for a closure that may make memory; Equal. -/
import Derived.Test.YtnkbfgnmodfemaaGreatDoorFuncs
import Derived.Test.YtnkbfgnmodfemaaGreatDoorAppend
namespace Go.Proofs.YtnkbfgnmodfemaaGreatDoor
open Go.RowKit
open Go.Lib (hid)

set_option maxHeartbeats 1000000 in
theorem indexFuncMB_c (v : Value) (M : List (List Int)) (w : World) (F : Nat) (caps : Array Value) (p : List Int → Bool) (h : RMat w v M)
    (henter : ∀ args w, (callFunc F args).run Tryz.prog w = .ok (.enter F args) w)
    (hf : ∀ r x w', Below w.heap.size w w' → RInts w' r x → x ∈ M → Calls Tryz.prog F (#[r] ++ caps) w' fun e w'' => e = .returned (.bool (p x)) ∧ Below w'.heap.size w' w'') :
    Calls Tryz.prog 90 #[v, .func (.func F) #[] caps] w fun e w' => e = .returned (.int .i64 (findB p 0 M)) ∧ Below w.heap.size w w' := by
  have HM := hid h
  obtain ⟨a, cap, rfl, h1, h2, hc⟩ := h
  clear hc
  unfold maxLen at h2
  have HF := hid hf; clear hf
  go_enter Tryz.func90, Tryz.ntmps90
  go_wp2
  go_loopg [8] M.length (fun gk i wr => ∃ k : Nat, k ≤ M.length ∧ gk = M.length - k ∧ i = .int .i64 k ∧ findB p 0 M = findB p k (M.drop k) ∧ Below w.heap.size w wr)
  case atStart => exact ⟨0, Nat.zero_le _, rfl, rfl, rfl, Below.refl _ _⟩
  case round =>
    obtain ⟨k, hk, rfl, rfl, hr, hb⟩ := hrel
    have HR := hid hr; clear hr
    have HB := hid hb
    by_cases hlt : k < M.length
    · have hm := HM.out.keep hb
      obtain ⟨a2, cap2, he, _, _, hc⟩ := hm
      simp only [Value.slice.injEq, true_and] at he
      obtain ⟨rfl, rfl⟩ := he
      obtain ⟨g, o, r, x, rfl, hk, hx, HD, HX⟩ := mat_at hc hlt
      have hmem : x ∈ M := by rw [← HX.out]; simp [List.getD, List.getElem?_eq_getElem hlt]
      have HMEM := hid hmem
      have HXR := hid hx
      clear hc hb hmem hx
      rcases Bool.eq_false_or_eq_true (p x) with hp | hp
      all_goals
        go_wp2
        refine (HF.out r x _ HB.out HXR.out HMEM.out).mono ?_
        rintro e w' ⟨rfl, hb'⟩
        have HB' := hid (HB.out.trans (hb'.mono HB.out.size))
        clear hb'
        rw [hp]
        go_wp2
      · go_ret
        exact ⟨ret_int (by rw [HR.out, HD.out, findB_yes _ _ _ _ hp]), HB'.out⟩
      · go_roundg (M.length - (k + 1))
        case rel => exact ⟨k + 1, by omega, rfl, by go_num, by rw [HR.out, HD.out, findB_no _ _ _ _ hp], HB'.out⟩
        case measure => omega
    · clear hb
      go_wp2
      go_ret
      exact ⟨ret_int (by rw [HR.out, List.drop_eq_nil_of_le (by omega), findB_nil]), HB.out⟩
set_option maxHeartbeats 1000000 in
theorem containsFuncMB_c (v : Value) (M : List (List Int)) (w : World) (F : Nat) (caps : Array Value) (p : List Int → Bool) (h : RMat w v M)
    (henter : ∀ args w, (callFunc F args).run Tryz.prog w = .ok (.enter F args) w)
    (hf : ∀ r x w', Below w.heap.size w w' → RInts w' r x → x ∈ M → Calls Tryz.prog F (#[r] ++ caps) w' fun e w'' => e = .returned (.bool (p x)) ∧ Below w'.heap.size w' w'') :
    Calls Tryz.prog 68 #[v, .func (.func F) #[] caps] w fun e w' => e = .returned (.bool (M.any p)) ∧ Below w.heap.size w w' := by
  have HF := hid hf; clear hf
  have HE := hid henter; clear henter
  go_enter Tryz.func68, Tryz.ntmps68
  go_wp2_with (go_at_call 90; refine (indexFuncMB_c _ _ _ _ _ p h HE.out HF.out).mono ?_; rintro e w' ⟨rfl, hb⟩)
  go_ret
  exact ⟨ret_bool (findB_any p 0 M), hb⟩
theorem findB_at {α : Type} (p : α → Bool) (d x : α) : ∀ (l : List α) (i : Nat), l.find? p = some x → ∃ k : Nat, findB p i l = ((i + k : Nat) : Int) ∧ k < l.length ∧ l.getD k d = x
  | [], i, h => by simp at h
  | y :: ys, i, h => by
    rcases Bool.eq_false_or_eq_true (p y) with hp | hp
    · rw [List.find?_cons_of_pos hp] at h
      cases h
      exact ⟨0, by rw [findB_yes _ _ _ _ hp]; rfl, by simp, rfl⟩
    · rw [List.find?_cons_of_neg (by rw [hp]; decide)] at h
      obtain ⟨k, h1, h2, h3⟩ := findB_at p d x ys (i + 1) h
      refine ⟨k + 1, by rw [findB_no _ _ _ _ hp, h1]; congr 1; omega, by simp; omega, by simpa using h3⟩

end Go.Proofs.YtnkbfgnmodfemaaGreatDoor
