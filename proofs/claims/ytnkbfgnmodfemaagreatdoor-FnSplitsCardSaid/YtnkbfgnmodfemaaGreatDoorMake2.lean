/- Contracts of the laws' own helpers on slices of slices of ints. -/
import Derived.Test.YtnkbfgnmodfemaaGreatDoorMake
namespace Go.Proofs.YtnkbfgnmodfemaaGreatDoor
open Go.RowKit
open Go.Lib (hid)

/-! ### szIntSS -/
def szRows : List (List Int) → Int → Int
  | [], left => left
  | r :: rs, left => if szI r.length left < 0 then -1 else szRows rs (szI r.length left)
theorem szRows_cons_neg (r : List Int) (rs : List (List Int)) (left : Int) (h : szI r.length left < 0) : szRows (r :: rs) left = -1 := by rw [szRows, if_pos h]
theorem szRows_cons_pos (r : List Int) (rs : List (List Int)) (left : Int) (h : ¬ szI r.length left < 0) : szRows (r :: rs) left = szRows rs (szI r.length left) := by rw [szRows, if_neg h]
def szM (M : List (List Int)) (left : Int) : Int := if left - M.length < 0 then -1 else szRows M (left - M.length)
theorem szI_le (n left : Int) (hn : 0 ≤ n) (h : 0 ≤ left) : szI n left ≤ left ∧ -1 ≤ szI n left := by unfold szI; split <;> omega
theorem szRows_ge {M : List (List Int)} {left : Int} (h : 0 ≤ szRows M left) : szRows M left ≤ left ∧ ∀ r ∈ M, (r.length : Int) ≤ left := by
  induction M generalizing left with
  | nil => exact ⟨Int.le_refl _, by simp⟩
  | cons r rs ih =>
    by_cases hn : szI r.length left < 0
    · rw [szRows_cons_neg r rs left hn] at h; omega
    · rw [szRows_cons_pos r rs left hn] at h ⊢
      have hs : szI r.length left = left - r.length := by unfold szI at hn ⊢; split <;> simp_all
      have h1 := ih h
      refine ⟨by omega, fun x hx => ?_⟩
      cases List.mem_cons.1 hx with
      | inl e => subst e; omega
      | inr e => have := h1.2 x e; omega
theorem szM_small {M : List (List Int)} {left : Int} (h : ¬ szM M left < 0) : (M.length : Int) ≤ left ∧ ∀ r ∈ M, (r.length : Int) ≤ left := by
  unfold szM at h
  split at h
  · omega
  · have h1 := szRows_ge (M := M) (left := left - M.length) (by omega)
    exact ⟨by omega, fun r hr => by have := h1.2 r hr; omega⟩

theorem szM_range {M : List (List Int)} {left : Int} (h : 0 ≤ left) : szM M left ≤ left ∧ -1 ≤ szM M left := by
  by_cases hn : szM M left < 0
  · unfold szM at hn ⊢
    split at hn
    · rw [if_pos ‹_›]; omega
    · rw [if_neg ‹_›]
      have : ∀ (M : List (List Int)) (l : Int), 0 ≤ l → -1 ≤ szRows M l := by
        intro M; induction M with
        | nil => intro l hl; show -1 ≤ l; omega
        | cons r rs ih =>
          intro l hl
          by_cases hn : szI r.length l < 0
          · rw [szRows_cons_neg r rs l hn]; omega
          · rw [szRows_cons_pos r rs l hn]; exact ih _ (by omega)
      have := this M (left - M.length) (by omega)
      omega
  · unfold szM at hn ⊢
    split at hn
    · omega
    · rw [if_neg ‹_›]
      have h1 := szRows_ge (M := M) (left := left - M.length) (by omega)
      omega

/-! ### toIntSS -/
/-- k rows of the new slice of slices are made -/
def Made (w : World) (B n : Nat) (M : List (List Int)) (k : Nat) (wr : World) : Prop :=
  ∃ vs : List Value, vs.length = n ∧ wr.ownsRow B 27 1 (.slice (some ⟨B, 0, none⟩) n n) n vs ∧ (∀ i, i < k → FInts wr (B + 1) wr.heap.size (vs.getD i .nilFunc) (M.getD i [])) ∧
    (∀ i j, i < j → j < k → ∀ g, (vs.getD i .nilFunc).ownBlock = some g → (vs.getD j .nilFunc).ownBlock ≠ some g) ∧ Below B w wr ∧ B + 1 ≤ wr.heap.size

theorem made_start (w : World) (n : Nat) (hn : n ≤ 1048576) (M : List (List Int)) : Made w w.heap.size n M 0 (w.alloc (.cells (madeCells #[.slice none 0 0] n) 27)) := by
  have h := World.ownsRow_lit (base := w.heap.size) (e := 27) (size := 1) w (madeCells #[.slice none 0 0] n) n (Nat.le_refl _) (by unfold maxLen; omega) (by rw [size_madeCells]; omega)
  exact ⟨_, by simp [size_madeCells], h, fun i hi => by omega, fun i j _ hj => by omega, (Below.refl _ _).alloc (Nat.le_refl _) _, by simp⟩

theorem made_cell {w wr w1 : World} {B n k : Nat} {M : List (List Int)} (h : Made w B n M k wr) (hk : k < n) (hb : Below wr.heap.size wr w1) :
    (∃ u, w1.cell? ⟨B, k, none⟩ = some u) ∧ w1.frozen? ⟨B, k, none⟩ = false := by
  obtain ⟨vs, hl, hown, _, _, hB, hs⟩ := h
  have hown' := own_same hown (w' := w1) (fun g hg => by simp [Value.ownBlock] at hg; subst hg; exact hb.block _ (by omega))
  have h1 := hown'.cellAt k (by omega)
  refine ⟨?_, hown'.frozenAt k⟩
  rw [h1]
  exact ⟨_, List.getElem?_eq_getElem (by omega)⟩

theorem made_step {w wr w1 : World} {B n k : Nat} {M : List (List Int)} {u : Value} (h : Made w B n M k wr) (hk : k < n) (hb : Below wr.heap.size wr w1) (hu : FInts w1 wr.heap.size w1.heap.size u (M.getD k [])) :
    Made w B n M (k + 1) (w1.setCell ⟨B, k, none⟩ u) := by
  obtain ⟨vs, hl, hown, hrows, hap, hB, hs⟩ := h
  have hsz := hb.size
  have hown' := own_same hown (w' := w1) (fun g hg => by simp [Value.ownBlock] at hg; subst hg; exact hb.block _ (by omega))
  have hst := hown'.stored k u
  have hsame : Same (B + 1) w1.heap.size w1 (w1.setCell ⟨B, k, none⟩ u) := fun b h1 _ _ => heap_setCell_other w1 ⟨B, k, none⟩ b u (by show b ≠ B; omega)
  have hsz' : (w1.setCell ⟨B, k, none⟩ u).heap.size = w1.heap.size := by simp [World.setCell]
  have old : ∀ i, i < k → (vs.set k u).getD i .nilFunc = vs.getD i .nilFunc := fun i hi => by simp [List.getD, show ¬ k = i by omega]
  have new : (vs.set k u).getD k .nilFunc = u := by simp [List.getD, hl, hk]
  refine ⟨vs.set k u, by simpa using hl, hst.1, fun i hi => ?_, fun i j hij hj g hg => ?_, (hB.trans (hb.mono (by omega))).setCell (Nat.le_refl _) _, by rw [hsz']; omega⟩
  · rw [hsz']
    by_cases e : i = k
    · subst e
      rw [new]
      exact ((hu.mono (by omega) (Nat.le_refl _)).same hsame)
    · rw [old i (by omega)]
      exact (((hrows i (by omega)).keep hb).mono (Nat.le_refl _) hsz).same hsame
  · by_cases e : j = k
    · subst e
      rw [new]
      rw [old i hij] at hg
      intro hu'
      have h1 := (hu.1.lt g hu').1
      have h2 := (hrows i hij).2 g hg
      omega
    · rw [old j (by omega)]
      rw [old i (by omega)] at hg
      exact hap i j hij (by omega) g hg

theorem made_done {w wr : World} {n : Nat} {M : List (List Int)} (hn : n = M.length) (h : Made w w.heap.size n M n wr) : FMat wr w.heap.size wr.heap.size (.slice (some ⟨w.heap.size, 0, none⟩) n n) M ∧ Below w.heap.size w wr := by
  subst hn
  obtain ⟨vs, hl, hown, hrows, hap, hB, hs⟩ := h
  exact ⟨⟨vs, hown, fun g hg => by simp [Value.ownBlock] at hg; omega, hl, fun i hi => (hrows i hi).mono (by omega) (Nat.le_refl _), hap⟩, hB⟩

/-! ### eqIntSS -/
def eqM : List (List Int) → List (List Int) → Bool
  | [], _ => true
  | _ :: _, [] => true
  | x :: xs, y :: ys => decide (x = y) && eqM xs ys
theorem eqM_cons (x y : List Int) (xs ys : List (List Int)) : eqM (x :: xs) (y :: ys) = (decide (x = y) && eqM xs ys) := rfl
theorem eqM_nil (ys : List (List Int)) : eqM [] ys = true := by cases ys <;> rfl
theorem eqM_same (a b : List (List Int)) (h : a.length = b.length) : eqM a b = decide (a = b) := by
  induction a generalizing b with
  | nil => cases b with
    | nil => rfl
    | cons y ys => simp at h
  | cons x xs ih => cases b with
    | nil => simp at h
    | cons y ys =>
      rw [eqM_cons, ih ys (by simpa using h)]
      by_cases hx : x = y <;> by_cases hy : xs = ys <;> simp [hx, hy]

end Go.Proofs.YtnkbfgnmodfemaaGreatDoor
