/- Tree metrics and bad four points: the plain facts of FnTreeMetrics, with names. -/
import Derived.Test.YtcgcgmlonhganaaMetM
import Derived.Test.YtcgcgmlonhganaaDiffer
import Derived.Test.YtcgcgmlonhganaaCherS
namespace Go.Proofs.Ytcgcgmlonhganaa
open Go.RowKit
open Go.Lib (hid)

theorem four_yes {M : List (List Int)} {i j k l : Nat} (hm : metB M = true) (h1 : i < j) (h2 : j < k) (h3 : k < l) (h4 : l < M.length) : fourB M i j k l = (sumsL M i j k l, true) := by
  have ha : allB [(i : Int), (j : Int), (k : Int), (l : Int)] 0 ((M.length : Int) - 1) = true := by
    simp [allB_cons, allB_nil, inB]
    omega
  have hd : decide [(i : Int), (j : Int), (k : Int), (l : Int)].Nodup = true := by
    rw [decide_eq_true_eq]
    simp only [List.nodup_cons, List.mem_cons, List.not_mem_nil, or_false, not_false_eq_true, List.nodup_nil, and_true]
    omega
  rw [fourB, hm, ha, hd]
  rfl
theorem tm_no {M : List (List Int)} (h : metB M = false) : firstBadB M = ([], false) ∧ isTreeB M = (false, false) ∧ cherriesB M = ([], false) :=
  ⟨firstBadB_no h, isTreeB_no h, cherriesB_no1 (by rw [treeB, h]; rfl)⟩
theorem tm_bad {M : List (List Int)} {r : List Int} (h : metB M = true) (hb : badF M = some r) : firstBadB M = (r, true) ∧ isTreeB M = (false, true) ∧ cherriesB M = ([], false) ∧ isUltB M = (false, true) ∧
    ∃ i j k l : Nat, r = [(i : Int), (j : Int), (k : Int), (l : Int)] ∧ fourB M i j k l = (sumsL M i j k l, true) ∧ (mcL (sumsL M i j k l) 0 0).2 = 1 := by
  refine ⟨by rw [firstBadB_yes h, hb]; rfl, by rw [isTreeB_yes h, hb]; rfl, cherriesB_no1 (by rw [treeB, hb, Bool.and_comm]; rfl), ?_, ?_⟩
  · rw [isUltB_yes h]
    rcases Bool.eq_false_or_eq_true (utrB M) with t | t
    · have := ult_tree_b h t
      rw [hb] at this; cases this
    · rw [t]
  · obtain ⟨i, j, k, l, rfl, h1, h2, h3, h4, hg⟩ := bad_some hb
    exact ⟨i, j, k, l, rfl, four_yes h h1 h2 h3 h4, bad_sums h h1 h2 h3 h4 hg⟩
theorem tm_tree {M : List (List Int)} (h : metB M = true) (hb : badF M = none) : firstBadB M = ([], false) ∧ isTreeB M = (true, true) ∧ isUltB M = (utrB M, true) ∧
    ((3 ≤ M.length ∧ ∃ C, C ≠ [] ∧ cherriesB M = (C, true)) ∨ (¬ 3 ≤ M.length ∧ cherriesB M = ([], false))) := by
  have ht : treeB M = true := by rw [treeB, h, hb]; rfl
  refine ⟨by rw [firstBadB_yes h, hb]; rfl, by rw [isTreeB_yes h, hb]; rfl, isUltB_yes h, ?_⟩
  by_cases h3 : 3 ≤ M.length
  · exact .inl ⟨h3, cheL M, che_ne h (by rw [hb]; rfl) h3, cherriesB_yes ht h3⟩
  · exact .inr ⟨h3, cherriesB_no2 h3⟩
theorem mcL_step {x m c : Int} {xs : List Int} : mcL (x :: xs) m c = if m < x then mcL xs x 1 else if x = m then mcL xs m (c + 1) else mcL xs m c := rfl
theorem sums_range {M : List (List Int)} {i j k l : Nat} : (sumsL M i j k l).length = 3 := rfl
theorem drop_at {S : List Int} {k : Nat} (h : k < S.length) : S.drop k = S.getD k 0 :: S.drop (k + 1) := by
  rw [List.drop_eq_getElem_cons h]
  simp [List.getD_eq_getElem?_getD, h]
end Go.Proofs.Ytcgcgmlonhganaa
