/- Plain functions on numbers and lists: what the Go functions compute. -/
import Derived.Test.YtnkbfgnmodfemaaGreatDoorMem
namespace Go.Proofs.YtnkbfgnmodfemaaGreatDoor
open Go.RowKit
open Go.Lib (hid)

/-- lo ≤ n ≤ hi -/
def inB (n lo hi : Int) : Bool := decide (lo ≤ n) && decide (n ≤ hi)
theorem inB_iff {n lo hi : Int} : inB n lo hi = true ↔ lo ≤ n ∧ n ≤ hi := by simp [inB]
theorem inB_false {n lo hi : Int} : inB n lo hi = false ↔ ¬ (lo ≤ n ∧ n ≤ hi) := by rw [← inB_iff]; simp

def hasB (l : List Int) (n : Int) : Bool := l.any (· == n)
theorem hasB_cons (x n : Int) (l : List Int) : hasB (x :: l) n = (x == n || hasB l n) := rfl
theorem hasB_nil (n : Int) : hasB [] n = false := rfl

def allB (l : List Int) (lo hi : Int) : Bool := l.all fun n => inB n lo hi
theorem allB_cons (x lo hi : Int) (l : List Int) : allB (x :: l) lo hi = (inB x lo hi && allB l lo hi) := rfl
theorem allB_nil (lo hi : Int) : allB [] lo hi = true := rfl

/-- strictly increasing and within bounds, behind p -/
def risB (lo hi : Int) : Option Int → List Int → Bool
  | _, [] => true
  | p, x :: xs => inB x lo hi && ((match p with | none => true | some y => decide (y < x)) && risB lo hi (some x) xs)

/-- the element ahead of index k -/
def prevOf (l : List Int) (k : Nat) : Option Int := if k = 0 then none else some (l.getD (k - 1) 0)
theorem prevOf_none (l : List Int) (k : Nat) (h : ¬ 0 < k) : prevOf l k = none := by unfold prevOf; rw [if_pos (by omega)]
theorem prevOf_succ (l : List Int) (k : Nat) : prevOf l (k + 1) = some (l.getD k 0) := by simp [prevOf]

/-- a is a list of indices below n, increasing, not empty -/
def idxsB (n : Int) (l : List Int) : Bool := risB 0 (n - 1) none l && decide (0 < l.length)

/-- Go's index of the first element that is n, -1 if there is none: the search from place i on -/
def idxB (n : Int) : Nat → List Int → Int
  | _, [] => -1
  | i, x :: xs => if n == x then (i : Int) else idxB n (i + 1) xs
theorem idxB_has (n : Int) (i : Nat) (l : List Int) : decide (0 ≤ idxB n i l) = hasB l n := by
  induction l generalizing i with
  | nil => rfl
  | cons x xs ih =>
    rw [idxB, hasB_cons, ← ih (i + 1)]
    by_cases h : n = x
    · subst h; simp
    · rw [if_neg (by simpa using h)]
      have : (x == n) = false := by simpa using fun e => h e.symm
      simp [this]

theorem risB_cons (lo hi : Int) (p : Option Int) (x : Int) (xs : List Int) : risB lo hi p (x :: xs) = (inB x lo hi && ((match p with | none => true | some y => decide (y < x)) && risB lo hi (some x) xs)) := rfl
theorem risB_nil (lo hi : Int) (p : Option Int) : risB lo hi p [] = true := by cases p <;> rfl
theorem idxB_cons (n : Int) (i : Nat) (x : Int) (xs : List Int) : idxB n i (x :: xs) = if n == x then (i : Int) else idxB n (i + 1) xs := rfl
theorem idxB_nil (n : Int) (i : Nat) : idxB n i [] = -1 := rfl

/-- the lists agree as far as they go (from some place on) -/
def eqB : List Int → List Int → Bool
  | [], _ => true
  | _ :: _, [] => true
  | x :: xs, y :: ys => (x == y) && eqB xs ys
theorem eqB_cons (x y : Int) (xs ys : List Int) : eqB (x :: xs) (y :: ys) = ((x == y) && eqB xs ys) := rfl
theorem eqB_nil (ys : List Int) : eqB [] ys = true := by cases ys <;> rfl
theorem eqB_same (a b : List Int) (h : a.length = b.length) : eqB a b = decide (a = b) := by
  induction a generalizing b with
  | nil => cases b with
    | nil => rfl
    | cons y ys => simp at h
  | cons x xs ih => cases b with
    | nil => simp at h
    | cons y ys =>
      rw [eqB_cons, ih ys (by simpa using h)]
      by_cases hx : x = y <;> by_cases hy : xs = ys <;> simp [hx, hy]

theorem beq_nat_true {i k : Nat} (h : i = k) : ((i : Int) == (k : Int)) = true := by subst h; simp
theorem beq_nat_false {i k : Nat} (h : ¬ i = k) : ((i : Int) == (k : Int)) = false := by rw [beq_eq_false_iff_ne]; omega
theorem bne_nat_true {i k : Nat} (h : ¬ i = k) : ((i : Int) != (k : Int)) = true := by rw [bne, beq_nat_false h]; rfl
theorem bne_nat_false {i k : Nat} (h : i = k) : ((i : Int) != (k : Int)) = false := by rw [bne, beq_nat_true h]; rfl
theorem bne_of_true {x y : Int} (h : (x == y) = true) : (x != y) = false := by rw [bne, h]; rfl
theorem bne_of_false {x y : Int} (h : (x == y) = false) : (x != y) = true := by rw [bne, h]; rfl
theorem beq_of_bne {x y : Int} (h : (x != y) = true) : (x == y) = false := by rw [bne] at h; simpa using h
theorem beq_of_nbne {x y : Int} (h : (x != y) = false) : (x == y) = true := by rw [bne] at h; simpa using h
theorem beq_comm_of {x y : Int} {b : Bool} (h : (x == y) = b) : (y == x) = b := by
  rw [← h, Bool.eq_iff_iff, beq_iff_eq, beq_iff_eq]; exact ⟨Eq.symm, Eq.symm⟩

/-- all elements are the same, the lengths too -/
def sameB (a b : List Int) : Bool := decide (a = b)

/-- what szIntS returns -/
def szI (n left : Int) : Int := if left - n < 0 then -1 else left - n

/-- k, k+1, .. into all places -/
def markL (n : Nat) (k : Int) : List Int := (List.range n).map fun (i : Nat) => k + (i : Int)

end Go.Proofs.YtnkbfgnmodfemaaGreatDoor
