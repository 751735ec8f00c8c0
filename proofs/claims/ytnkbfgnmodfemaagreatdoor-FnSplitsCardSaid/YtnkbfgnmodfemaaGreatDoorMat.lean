/- Square matrices in memory, read by index; loops that ask something of all indices. -/
import Derived.Test.YtnkbfgnmodfemaaGreatDoorLeaf
import Derived.Deep.Slices
namespace Go.Proofs.YtnkbfgnmodfemaaGreatDoor
open Go.RowKit
open Go.Lib (hid)

/-- p holds of k, k+1, .., n-1 -/
def allFrom (n k : Nat) (p : Nat → Bool) : Bool := (List.range' k (n - k)).all p
theorem allFrom_lt {n k : Nat} (p : Nat → Bool) (h : k < n) : allFrom n k p = (p k && allFrom n (k + 1) p) := by
  unfold allFrom
  rw [show n - k = (n - (k + 1)) + 1 by omega, List.range'_succ, List.all_cons]
theorem allFrom_ge {n k : Nat} (p : Nat → Bool) (h : n ≤ k) : allFrom n k p = true := by
  unfold allFrom
  rw [show n - k = 0 by omega]; rfl
theorem allFrom_iff {n k : Nat} {p : Nat → Bool} : allFrom n k p = true ↔ ∀ i, k ≤ i → i < n → p i = true := by
  unfold allFrom
  rw [List.all_eq_true]
  constructor
  · intro h i h1 h2; exact h i (by rw [List.mem_range'_1]; omega)
  · intro h i hi; rw [List.mem_range'_1] at hi; exact h i hi.1 (by omega)
theorem allFrom_congr {n k : Nat} {p q : Nat → Bool} (h : ∀ i, i < n → p i = q i) : allFrom n k p = allFrom n k q := by
  rw [Bool.eq_iff_iff, allFrom_iff, allFrom_iff]
  constructor
  · intro H i h1 h2; rw [← h i h2]; exact H i h1 h2
  · intro H i h1 h2; rw [h i h2]; exact H i h1 h2

/-- the entry at row i, column j -/
def ent (M : List (List Int)) (i j : Nat) : Int := (M.getD i []).getD j 0

/-- all rows have n numbers -/
def sqB (M : List (List Int)) (n : Nat) : Bool := M.all fun r => r.length == n
theorem sqB_cons (r : List Int) (M : List (List Int)) (n : Nat) : sqB (r :: M) n = ((r.length == n) && sqB M n) := rfl
theorem sqB_nil (n : Nat) : sqB [] n = true := rfl
theorem sqB_len {M : List (List Int)} {n : Nat} (h : sqB M n = true) {i : Nat} (hi : i < M.length) : (M.getD i []).length = n := by
  unfold sqB at h
  rw [List.all_eq_true] at h
  have := h (M.getD i []) (by simp [List.getD, List.getElem?_eq_getElem hi])
  simpa using this

/-- a square matrix at every index -/
theorem sq_open {w : World} {v : Value} {M : List (List Int)} {n : Nat} (h : RMat w v M) (hn : 0 < n) (hl : M.length = n) (hsq : sqB M n = true) :
    ∃ (g o cap : Nat) (G O C : Nat → Nat), v = .slice (some ⟨g, o, none⟩) n cap ∧ n ≤ cap ∧ cap ≤ 9223372036854775807 ∧
      (∀ i, i < n → w.cell? ⟨g, o + i, none⟩ = some (.slice (some ⟨G i, O i, none⟩) n (C i))) ∧ ∀ i j, i < n → j < n → w.cell? ⟨G i, O i + j, none⟩ = some (.int .i64 (ent M i j)) := by
  subst hl
  obtain ⟨a, cap, rfl, h1, h2, hc⟩ := h
  obtain ⟨g, o, _, rfl, _, _⟩ := hc 0 hn
  have each : ∀ i, i < M.length → ∃ y : Nat × Nat × Nat, w.cell? ⟨g, o + i, none⟩ = some (.slice (some ⟨y.1, y.2.1, none⟩) M.length y.2.2) ∧ ∀ j, j < M.length → w.cell? ⟨y.1, y.2.1 + j, none⟩ = some (.int .i64 (ent M i j)) := by
    intro i hi
    obtain ⟨g', o', r, hg, hcell, hr⟩ := hc i hi
    simp only [Option.some.injEq, Addr.mk.injEq, and_true] at hg
    obtain ⟨rfl, rfl⟩ := hg
    obtain ⟨a', cap', rfl, h1', h2', hc'⟩ := hr
    have hlen := sqB_len hsq hi
    obtain ⟨g', o', rfl, _⟩ := hc' 0 (by omega)
    refine ⟨(g', o', cap'), by rw [hcell, hlen], fun j hj => ?_⟩
    obtain ⟨g2, o2, he, hx⟩ := hc' j (by omega)
    simp only [Option.some.injEq, Addr.mk.injEq, and_true] at he
    obtain ⟨rfl, rfl⟩ := he
    exact hx
  obtain ⟨y, hy⟩ := Go.Deep.choose_lt each
  exact ⟨g, o, cap, fun i => (y i).1, fun i => (y i).2.1, fun i => (y i).2.2, rfl, h1, by unfold maxLen at h2; omega, fun i hi => (hy i hi).1, fun i j hi hj => (hy i hi).2 j hj⟩

/-! ### Metrics -/

def symP (M : List (List Int)) (i k : Nat) : Bool := if i = k then ent M i k == 0 else inB (ent M i k) 1 10000 && (ent M i k == ent M k i)
def symB (M : List (List Int)) (n : Nat) : Bool := allFrom n 0 fun i => allFrom n 0 fun k => symP M i k
def triP (M : List (List Int)) (i k j : Nat) : Bool := !decide (ent M i j + ent M j k < ent M i k)
def triB (M : List (List Int)) (n : Nat) : Bool := allFrom n 0 fun i => allFrom n 0 fun k => allFrom n 0 fun j => triP M i k j
/-- M is a metric -/
def metB (M : List (List Int)) : Bool := inB M.length 2 7 && (sqB M M.length && (symB M M.length && triB M M.length))

theorem symB_at {M : List (List Int)} {n : Nat} (h : symB M n = true) {i j : Nat} (hi : i < n) (hj : j < n) : symP M i j = true := by
  unfold symB at h
  exact allFrom_iff.1 (allFrom_iff.1 h i (Nat.zero_le _) hi) j (Nat.zero_le _) hj
theorem symB_bound {M : List (List Int)} {n : Nat} (h : symB M n = true) {i j : Nat} (hi : i < n) (hj : j < n) : 0 ≤ ent M i j ∧ ent M i j ≤ 10000 := by
  have := symB_at h hi hj
  unfold symP at this
  split at this
  · simp at this; omega
  · rw [Bool.and_eq_true, inB_iff] at this; omega
theorem symB_comm {M : List (List Int)} {n : Nat} (h : symB M n = true) {i j : Nat} (hi : i < n) (hj : j < n) : ent M i j = ent M j i := by
  have := symB_at h hi hj
  unfold symP at this
  split at this
  · subst i; rfl
  · rw [Bool.and_eq_true] at this; simpa using this.2
theorem symB_zero {M : List (List Int)} {n : Nat} (h : symB M n = true) {i : Nat} (hi : i < n) : ent M i i = 0 := by
  have := symB_at h hi hi
  unfold symP at this
  rw [if_pos rfl] at this; simpa using this
theorem metB_parts {M : List (List Int)} (h : metB M = true) : 2 ≤ M.length ∧ M.length ≤ 7 ∧ sqB M M.length = true ∧ symB M M.length = true ∧ triB M M.length = true := by
  unfold metB at h
  simp only [Bool.and_eq_true, inB_iff] at h
  exact ⟨by omega, by omega, h.2.1, h.2.2.1, h.2.2.2⟩

end Go.Proofs.YtnkbfgnmodfemaaGreatDoor
