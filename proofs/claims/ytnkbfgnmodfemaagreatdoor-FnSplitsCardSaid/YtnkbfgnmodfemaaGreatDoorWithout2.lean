/- WithoutTaxon of both programs. -/
import Derived.Test.YtnkbfgnmodfemaaGreatDoorWithout
namespace Go.Proofs.YtnkbfgnmodfemaaGreatDoor
open Go.RowKit
open Go.Lib (hid)

theorem retMatB_no {w w' : World} (hb : Below w.heap.size w w') {p : List (List Int) × Bool} (hp : p = ([], false)) (e : Ending) (he : e = .returned (.tuple #[.slice none 0 0, .bool false])) : RetMatB w p e w' := by
  subst hp; subst he; exact ⟨_, rfl, mat_nil _ _ _, hb⟩
theorem castL_snoc (l : List Nat) (x : Nat) : castL l ++ [(x : Int)] = castL (l ++ [x]) := by simp [castL]


theorem wto_tot (M : List (List Int)) (i : Int) : tot (wtoB M i).1 ≤ 1099511627776 := by
  rcases Bool.eq_false_or_eq_true (metB M && (decide (3 ≤ M.length) && inB i 0 (M.length - 1))) with h | h
  · have h' := h
    simp only [Bool.and_eq_true, inB_iff] at h'
    obtain ⟨hn2, hn7, hsq, _⟩ := metB_parts h'.1
    obtain ⟨j, rfl⟩ := Int.eq_ofNat_of_zero_le h'.2.2.1
    rw [wtoB_yes M j h]
    have := tot_le (M := withoutB M j) (a := 7) (by have := restL_len M.length j 0; simp [withoutB]; omega) (fun r hr => by
      unfold withoutB at hr
      obtain ⟨k, hk, rfl⟩ := List.mem_map.1 hr
      have := sqB_len hsq (restL_mem hk).2.1
      unfold dropAt
      rw [List.length_append, List.length_take, List.length_drop]; omega)
    show tot (withoutB M j) ≤ _
    omega
  · rw [wtoB_no M i h]; simp [tot]

end Go.Proofs.YtnkbfgnmodfemaaGreatDoor
