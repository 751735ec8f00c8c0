/- Whether a metric is an ultrametric: both programs' functions. -/
import Derived.Test.YtnkbfgnmodfemaaGreatDoorTwice
namespace Go.Proofs.YtnkbfgnmodfemaaGreatDoor
open Go.RowKit
open Go.Lib (hid)

/-- a square matrix at every index -/
structure SqIn (w : World) (g o n : Nat) (G O C : Nat → Nat) (M : List (List Int)) : Prop where
  row : ∀ i, i < n → w.cell? ⟨g, o + i, none⟩ = some (.slice (some ⟨G i, O i, none⟩) n (C i))
  at_ : ∀ i j, i < n → j < n → w.cell? ⟨G i, O i + j, none⟩ = some (.int .i64 (ent M i j))
theorem SqIn.keep {w w' : World} {g o n : Nat} {G O C : Nat → Nat} {M : List (List Int)} (h : SqIn w g o n G O C M) (hb : Below w.heap.size w w') : SqIn w' g o n G O C M :=
  ⟨fun i hi => (hb.cell (p := ⟨g, o + i, none⟩) (cell_lt (h.row i hi))).trans (h.row i hi), fun i j hi hj => (hb.cell (p := ⟨G i, O i + j, none⟩) (cell_lt (h.at_ i j hi hj))).trans (h.at_ i j hi hj)⟩
theorem SqIn.keepB {w w' : World} {B g o n : Nat} {G O C : Nat → Nat} {M : List (List Int)} (h : SqIn w g o n G O C M) (hb : Below B w w') (hB : w.heap.size ≤ B) : SqIn w' g o n G O C M := h.keep (hb.mono hB)
theorem met_open {w : World} {v : Value} {M : List (List Int)} (h : RMat w v M) (hm : metB M = true) :
    ∃ (g o cap : Nat) (G O C : Nat → Nat), v = .slice (some ⟨g, o, none⟩) M.length cap ∧ M.length ≤ cap ∧ cap ≤ 9223372036854775807 ∧ SqIn w g o M.length G O C M := by
  have hp := metB_parts hm
  obtain ⟨g, o, cap, G, O, C, h1, h2, h3, h4, h5⟩ := sq_open h (by omega) rfl hp.2.2.1
  exact ⟨g, o, cap, G, O, C, h1, h2, h3, h4, h5⟩

theorem nextR_loop {σ : Type} (ok : σ → List Int → Bool) (step : σ → List Int → σ) {n k d first : Nat} {xs : List Int} {s : σ} (h : ¬ xs.length = k) (hd : n - first ≤ d) :
    nextR ok step n k d first xs s = loopR (fun i s => nextR ok step n k (d - 1) (i + 1) (xs ++ [(i : Int)]) s) (n - first) first s := by
  cases d with
  | zero => rw [nextR_end ok step h (by omega), show n - first = 0 by omega, loopR_zero]
  | succ d => exact nextR_no ok step h
theorem loopR_all {f : Nat → Unit → Bool × Unit} {q : Nat → Bool} {n : Nat} : ∀ (m i : Nat), i + m = n → (∀ j, i ≤ j → j < n → (f j ()).1 = q j) → (loopR f m i ()).1 = allFrom n i q := by
  intro m
  induction m with
  | zero => intro i hi _; rw [loopR_zero, allFrom_ge _ (by omega)]
  | succ m ih =>
    intro i hi hq
    rw [allFrom_lt _ (by omega)]
    have h1 := hq i (Nat.le_refl _) (by omega)
    rcases Bool.eq_false_or_eq_true (f i ()).1 with t | t
    · rw [loopR_yes t, ← h1, t, Bool.true_and]
      exact ih (i + 1) (by omega) (fun j h2 h3 => hq j (by omega) h3)
    · rw [loopR_no t, ← h1, t]; rfl

def utrK (M : List (List Int)) (i j k : Nat) : Bool := tw3 (ent M i j) (ent M i k) (ent M j k)
def utrJ (M : List (List Int)) (n i j : Nat) : Bool := allFrom n (j + 1) (utrK M i j)
def utrI (M : List (List Int)) (n i : Nat) : Bool := allFrom n (i + 1) (utrJ M n i)
/-- of all three distances between three points the greatest is there twice -/
def utrB (M : List (List Int)) : Bool := allFrom M.length 0 (utrI M M.length)
def isUltB (M : List (List Int)) : Bool × Bool := if metB M then (utrB M, true) else (false, false)
theorem isUltB_yes {M : List (List Int)} (h : metB M = true) : isUltB M = (utrB M, true) := by rw [isUltB, h]; rfl
theorem isUltB_no {M : List (List Int)} (h : metB M = false) : isUltB M = (false, false) := by rw [isUltB, h]; rfl

/-- what the visitor says of three points -/
def okU (M : List (List Int)) (xs : List Int) : Bool := utrK M (xs.getD 0 0).toNat (xs.getD 1 0).toNat (xs.getD 2 0).toNat
theorem nextR_ult (M : List (List Int)) : (nextR (fun (_ : Unit) xs => okU M xs) (fun _ _ => ()) M.length 3 M.length 0 [] ()).1 = utrB M := by
  rw [nextR_loop _ _ (by simp) (by omega)]
  refine loopR_all _ _ (by omega) (fun i _ hi => ?_)
  rw [nextR_loop _ _ (by simp) (by omega)]
  refine loopR_all _ _ (by omega) (fun j hj0 hj => ?_)
  rw [nextR_loop _ _ (by simp) (by omega)]
  refine loopR_all _ _ (by omega) (fun k _ hk => ?_)
  rw [nextR_yes _ _ (by simp)]
  simp [okU]

/-- three numbers in a new block -/
theorem three_new (w : World) (a b c : Int) : RInts (w.alloc (.cells #[.int .i64 a, .int .i64 b, .int .i64 c] 3)) (.slice (some ⟨w.heap.size, 0, none⟩) 3 3) [a, b, c] := by
  have := rints_new w [a, b, c] (by simp)
  simpa using this

/-- xs is a choice of k points of n, in their order -/
def preC (n k : Nat) (xs : List Int) : Prop := xs.length = k ∧ (∀ x ∈ xs, 0 ≤ x ∧ x < (n : Int)) ∧ xs.Pairwise (· < ·)
/-- what a visitor that writes nothing keeps: what lay below its base -/
def VRead {σ : Type} (w0 : World) (_s : σ) (w : World) (D : Nat → Prop) : Prop := Below w0.heap.size w0 w ∧ ∀ b, ¬ D b
theorem VRead.frame {σ : Type} {w0 : World} {s : σ} {w w' : World} {D : Nat → Prop} (h : VRead w0 s w D) (hk : KeepOn (fun b => b < w0.heap.size ∨ D b) w w') : VRead w0 s w' D :=
  ⟨h.1.trans (hk.below (fun _ hb => .inl hb) h.1.size), h.2⟩
theorem getD_mem0 {xs : List Int} {i : Nat} (h : i < xs.length) : xs.getD i 0 ∈ xs := by simp [List.getD, List.getElem?_eq_getElem h]
theorem preC_three {n : Nat} {xs : List Int} (h : preC n 3 xs) : ∃ i j k : Nat, xs = [(i : Int), (j : Int), (k : Int)] ∧ i < j ∧ j < k ∧ k < n := by
  obtain ⟨h1, h2, h3⟩ := h
  match xs, h1 with
  | [a, b, c], _ =>
    simp at h2 h3
    exact ⟨a.toNat, b.toNat, c.toNat, by rw [Int.toNat_of_nonneg h2.1.1, Int.toNat_of_nonneg h2.2.1.1, Int.toNat_of_nonneg h2.2.2.1], by omega, by omega, by omega⟩

end Go.Proofs.YtnkbfgnmodfemaaGreatDoor
