/- Copies of slices. -/
import Derived.Test.YtnkbfgnmodfemaaDoorAppend
import Derived.Deep.RegionLaw
namespace Go.Proofs.YtnkbfgnmodfemaaDoor
open Go.RowKit
open Go.Lib (hid)



/-- the copy of a row, appended: what the round's end holds -/
theorem row_one {w wr w1 : World} {B : Nat} {v u : Value} {L : List (List Int)} {x : List Int} (hF : FMat wr B wr.heap.size v L) (hb : Below B w wr) (hB : B ≤ wr.heap.size) (h1 : Below wr.heap.size wr w1) (hu : FInts w1 wr.heap.size w1.heap.size u x) :
    FMat (w1.alloc (.cells #[u] 22)) B wr.heap.size v L ∧ FInts (w1.alloc (.cells #[u] 22)) wr.heap.size w1.heap.size u x ∧ (w1.alloc (.cells #[u] 22)).cell? ⟨w1.heap.size, 0, none⟩ = some u ∧ B ≤ (w1.alloc (.cells #[u] 22)).heap.size ∧
      Below B w (w1.alloc (.cells #[u] 22)) := by
  have hs := h1.size
  have ha : Below w1.heap.size w1 (w1.alloc (.cells #[u] 22)) := (Below.refl _ _).alloc (Nat.le_refl _) _
  refine ⟨(hF.keep h1).keep ha, hu.keep ha, cell_new _ _ _, by simp; omega, (hb.trans (h1.mono hB)).trans (ha.mono (by omega))⟩

theorem own_blocks {w : World} {lo hi : Nat} {v : Value} {M : List (List Int)} (h : FMat w lo hi v M) : ∀ k, v.ownBlock = some k → lo ≤ k := by
  obtain ⟨vs, h0, _⟩ := h
  exact fun k hk => (h0.lt k hk).1



end Go.Proofs.YtnkbfgnmodfemaaDoor
