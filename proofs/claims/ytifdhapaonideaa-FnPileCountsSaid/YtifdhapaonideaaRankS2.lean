/- Small divisors and duals: the reference's functions. -/
import Derived.Test.YtifdhapaonideaaRankS
import Derived.Test.YtifdhapaonideaaOwn
namespace Go.Proofs.Ytifdhapaonideaa
open Go.RowKit
open Go.Lib (hid)

/-- a small graph -/
noncomputable def raGB (n : Int) (L : List Lnk) : Bool := goodG n L && (decide (n ≤ 5) && (conB n.toNat L && decide (1 - n + edgL L ≤ 4)))
/-- a small divisor -/
def raCB (n : Int) (d : List Int) : Bool := ((d.length : Int) == n) && (allB d (-8) 8 && decide (d.sum ≤ 8))
noncomputable def raAB (n : Int) (L : List Lnk) (d : List Int) : Bool := raGB n L && raCB n d
theorem raGB_good {n : Int} {L : List Lnk} (h : raGB n L = true) : GoodL n.toNat L ∧ n = (n.toNat : Int) ∧ n ≤ 5 ∧ conB n.toNat L = true ∧ goodG n L = true := by
  unfold raGB at h
  simp only [Bool.and_eq_true, decide_eq_true_eq] at h
  obtain ⟨h1, h2, h3, h4⟩ := h
  obtain ⟨k1, k2⟩ := goodG_parts h1
  exact ⟨k1, k2, h2, h3, h1⟩
theorem allB_mem {l : List Int} {lo hi : Int} (h : allB l lo hi = true) : ∀ x ∈ l, lo ≤ x ∧ x ≤ hi := by
  unfold allB at h
  rw [List.all_eq_true] at h
  exact fun x hx => inB_iff.1 (h x hx)
theorem raCB_parts {n : Int} {d : List Int} (h : raCB n d = true) : (d.length : Int) = n ∧ ∀ x ∈ d, -8 ≤ x ∧ x ≤ 8 := by
  unfold raCB at h
  simp only [Bool.and_eq_true, beq_iff_eq] at h
  exact ⟨h.1, allB_mem h.2.1⟩

/-- the canonical divisor less a divisor -/
def dualF (n : Nat) (L : List Lnk) (d : List Int) (v : Nat) : Int := valV n L v - 2 - d.getD v 0
theorem valV_bound {n : Nat} {L : List Lnk} (h : GoodL n L) {v : Nat} (hv : v < n) : 0 ≤ valV n L v ∧ valV n L v ≤ 35 := ⟨(grL n L h).val_nonneg v, (grL n L h).val_le v hv⟩
theorem rints_lst {w : World} {v : Value} {d : List Int} (h : RInts w v d) {n : Nat} (hn : d.length = n) : RInts w v (lst n (fun i => d.getD i 0)) := by rw [← lst_of hn]; exact h
theorem getD_bound {d : List Int} {B : Int} (h : ∀ x ∈ d, -B ≤ x ∧ x ≤ B) (hB : 0 ≤ B) (i : Nat) : -B ≤ d.getD i 0 ∧ d.getD i 0 ≤ B := by
  by_cases hi : i < d.length
  · exact h _ (by simp [List.getD, hi])
  · simp [List.getD, hi]; omega

/-- what DualChips returns -/
noncomputable def dualB (n : Int) (L : List Lnk) (d : List Int) : List Int × Bool := if raAB n L d && raCB n (lst n.toNat (dualF n.toNat L d)) then (lst n.toNat (dualF n.toNat L d), true) else ([], false)
theorem dualB_yes {n : Int} {L : List Lnk} {d : List Int} (h : raAB n L d = true) (h' : raCB n (lst n.toNat (dualF n.toNat L d)) = true) : dualB n L d = (lst n.toNat (dualF n.toNat L d), true) := by unfold dualB; rw [h, h']; rfl
theorem dualB_no1 {n : Int} {L : List Lnk} {d : List Int} (h : raAB n L d = false) : dualB n L d = ([], false) := by unfold dualB; rw [h]; rfl
theorem dualB_no2 {n : Int} {L : List Lnk} {d : List Int} (h' : raCB n (lst n.toNat (dualF n.toNat L d)) = false) : dualB n L d = ([], false) := by unfold dualB; rw [h', Bool.and_false]; rfl
/-- a list and a truth value, the list in new memory -/
def RetIB (w : World) (p : List Int × Bool) (e : Ending) (w' : World) : Prop := ∃ v, e = .returned (.tuple #[v, .bool p.2]) ∧ FInts w' w.heap.size w'.heap.size v p.1 ∧ Below w.heap.size w w'

end Go.Proofs.Ytifdhapaonideaa
