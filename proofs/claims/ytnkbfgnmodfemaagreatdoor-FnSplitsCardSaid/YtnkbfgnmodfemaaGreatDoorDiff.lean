/- TreeDifference: both programs'. -/
import Derived.Test.YtnkbfgnmodfemaaGreatDoorInnerOf
import Derived.Test.YtnkbfgnmodfemaaGreatDoorSame
import Derived.Test.YtnkbfgnmodfemaaGreatDoorFuncsB
import Derived.Test.YtnkbfgnmodfemaaGreatDoorLawQ
namespace Go.Proofs.YtnkbfgnmodfemaaGreatDoor
open Go.RowKit
open Go.Lib (hid)

/-- how many of A are not in B -/
def inL (B : List (List Int)) (x : List Int) : Bool := B.any fun y => decide (x = y)
def missL (B : List (List Int)) : List (List Int) → Nat
  | [] => 0
  | x :: xs => missL B xs + if inL B x then 0 else 1
theorem missL_le (B : List (List Int)) : ∀ A : List (List Int), missL B A ≤ A.length
  | [] => Nat.le_refl _
  | x :: xs => by have := missL_le B xs; simp only [missL, List.length_cons]; split <;> omega
def tdB (A B : List (List Int)) : Int × Bool := if treeB A && (treeB B && decide (A.length = B.length)) then (((missL (innerL B) (innerL A) + missL (innerL A) (innerL B) : Nat) : Int), true) else (0, false)
theorem tdB_yes {A B : List (List Int)} (h1 : treeB A = true) (h2 : treeB B = true) (h3 : A.length = B.length) : tdB A B = (((missL (innerL B) (innerL A) + missL (innerL A) (innerL B) : Nat) : Int), true) := by unfold tdB; rw [h1, h2, decide_eq_true h3]; rfl
theorem tdB_no1 {A B : List (List Int)} (h1 : treeB A = false) : tdB A B = (0, false) := by unfold tdB; rw [h1]; rfl
theorem tdB_no2 {A B : List (List Int)} (h1 : treeB B = false) : tdB A B = (0, false) := by unfold tdB; rw [h1]; simp
theorem tdB_no3 {A B : List (List Int)} (h1 : ¬ A.length = B.length) : tdB A B = (0, false) := by unfold tdB; rw [decide_eq_false h1]; simp
def missFrom (B A : List (List Int)) (k : Nat) (n : Nat) : Prop := missL B A = n + missL B (A.drop k)



theorem miss_small {A B : List (List Int)} (hA : A.length ≤ 128) (hB : B.length ≤ 128) : missL B A ≤ 128 ∧ missL A B ≤ 128 := ⟨Nat.le_trans (missL_le B A) hA, Nat.le_trans (missL_le A B) hB⟩
end Go.Proofs.YtnkbfgnmodfemaaGreatDoor
