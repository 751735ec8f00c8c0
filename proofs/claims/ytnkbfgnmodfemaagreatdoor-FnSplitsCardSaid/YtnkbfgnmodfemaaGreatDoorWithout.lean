/- The metric without a point: both programs' functions. -/
import Derived.Test.YtnkbfgnmodfemaaGreatDoorOwn
import Derived.Test.YtnkbfgnmodfemaaGreatDoorIsMetric
import Derived.Test.YtnkbfgnmodfemaaGreatDoorVertices
import Derived.BigRegion
namespace Go.Proofs.YtnkbfgnmodfemaaGreatDoor
open Go.RowKit
open Go.Lib (hid)

/-- the matrix of the rows and columns other than i -/
def dropAt (l : List Int) (i : Nat) : List Int := l.take i ++ l.drop (i + 1)
/-- the indices below n other than i, from k on -/
def restL (n i k : Nat) : List Nat := (List.range' k (n - k)).filter fun j => j != i
theorem restL_own {n i k : Nat} (h : k < n) (e : k = i) : restL n i k = restL n i (k + 1) := by
  unfold restL; rw [show n - k = (n - (k + 1)) + 1 by omega, List.range'_succ, List.filter_cons]; simp [e]
theorem restL_other {n i k : Nat} (h : k < n) (e : ¬ k = i) : restL n i k = k :: restL n i (k + 1) := by
  unfold restL; rw [show n - k = (n - (k + 1)) + 1 by omega, List.range'_succ, List.filter_cons]; simp [e]
theorem restL_end {n i k : Nat} (h : n ≤ k) : restL n i k = [] := by unfold restL; rw [show n - k = 0 by omega]; rfl
theorem restL_mem {n i k j : Nat} (h : j ∈ restL n i k) : k ≤ j ∧ j < n ∧ j ≠ i := by
  unfold restL at h
  rw [List.mem_filter, List.mem_range'_1] at h
  have := h.2
  simp at this; omega
theorem restL_len (n i k : Nat) : (restL n i k).length ≤ n := by
  unfold restL; refine Nat.le_trans (List.length_filter_le _ _) ?_; simp

def withoutB (M : List (List Int)) (i : Nat) : List (List Int) := (restL M.length i 0).map fun r => dropAt (M.getD r []) i
def wtoB (M : List (List Int)) (i : Int) : List (List Int) × Bool :=
  if metB M && (decide (3 ≤ M.length) && inB i 0 (M.length - 1)) then (withoutB M i.toNat, true) else ([], false)
theorem wtoB_no (M : List (List Int)) (i : Int) (h : (metB M && (decide (3 ≤ M.length) && inB i 0 (M.length - 1))) = false) : wtoB M i = ([], false) := by rw [wtoB, h]; rfl
theorem wtoB_yes (M : List (List Int)) (j : Nat) (h : (metB M && (decide (3 ≤ M.length) && inB (j : Int) 0 (M.length - 1))) = true) : wtoB M j = (withoutB M j, true) := by
  rw [wtoB, h, if_pos rfl]; rfl

/-- a matrix and a bool, the matrix in new memory -/
def RetMatB (w : World) (p : List (List Int) × Bool) (e : Ending) (w' : World) : Prop := ∃ v, e = .returned (.tuple #[v, .bool p.2]) ∧ FMat w' w.heap.size w'.heap.size v p.1 ∧ Below w.heap.size w w'

/-- entries of rows and columns -/
def partM (M : List (List Int)) (rows cols : List Nat) : List (List Int) := rows.map fun r => cols.map fun c => ent M r c
theorem getD_get {l : List Int} {k : Nat} (h : k < l.length) : l[k] = l.getD k 0 := by simp [List.getD, List.getElem?_eq_getElem h]
theorem dropAt_ent {M : List (List Int)} {n i r : Nat} (hsq : sqB M n = true) (hl : M.length = n) (hr : r < n) : dropAt (M.getD r []) i = (restL n i 0).map fun c => ent M r c := by
  have hlen : (M.getD r []).length = n := sqB_len hsq (by omega)
  have key : ∀ (d k : Nat), d = n - k → k ≤ n → (if k ≤ i then ((M.getD r []).take i).drop k ++ (M.getD r []).drop (i + 1) else (M.getD r []).drop k) = (restL n i k).map fun c => ent M r c := by
    intro d
    induction d with
    | zero =>
      intro k hd hk
      rw [restL_end (by omega)]
      have : k = n := by omega
      subst this
      split
      · rw [List.drop_eq_nil_of_le (by rw [List.length_take]; omega), List.drop_eq_nil_of_le (by omega)]; rfl
      · rw [List.drop_eq_nil_of_le (by omega)]; rfl
    | succ d ih =>
      intro k hd hk
      have ih' := ih (k + 1) (by omega) (by omega)
      have hdk : (M.getD r []).drop k = ent M r k :: (M.getD r []).drop (k + 1) := drop_cons _ 0 k (by omega)
      by_cases e : k = i
      · subst e
        rw [restL_own (by omega) rfl, ← ih', if_pos (Nat.le_refl _), if_neg (by omega), List.drop_eq_nil_of_le (by rw [List.length_take]; omega)]; rfl
      · rw [restL_other (by omega) e, List.map_cons, ← ih']
        by_cases hki : k ≤ i
        · rw [if_pos hki, if_pos (by omega)]
          have : ((M.getD r []).take i).drop k = ent M r k :: ((M.getD r []).take i).drop (k + 1) := by
            rw [List.drop_eq_getElem_cons (by rw [List.length_take]; omega), List.getElem_take]
            exact congrArg (· :: _) (getD_get (by omega))
          rw [this]; rfl
        · rw [if_neg hki, if_neg (by omega), hdk]
  have := key n 0 (by omega) (by omega)
  rw [if_pos (Nat.zero_le _), List.drop_zero] at this
  exact this
theorem partM_take (M : List (List Int)) (rows cols : List Nat) (k : Nat) (h : k < rows.length) : partM M (rows.take (k + 1)) cols = partM M (rows.take k) cols ++ [cols.map fun c => ent M (rows.getD k 0) c] := by
  unfold partM; rw [take_succ_getDN rows k h, List.map_append]; rfl

theorem without_part {M : List (List Int)} {i : Nat} (hsq : sqB M M.length = true) : withoutB M i = partM M (restL M.length i 0) (restL M.length i 0) := by
  unfold withoutB partM
  refine List.map_congr_left fun r hr => dropAt_ent hsq rfl (restL_mem hr).2.1

end Go.Proofs.YtnkbfgnmodfemaaGreatDoor
