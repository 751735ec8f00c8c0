/- Contracts of the laws' own helpers that make, mark or compare slices. -/
import Derived.Test.YtnkbfgnmodfemaaGreatDoorLeaf
namespace Go.Proofs.YtnkbfgnmodfemaaGreatDoor
open Go.RowKit
open Go.Lib (hid)

theorem ints_start (w : World) (n : Nat) (hn : n ≤ 1048576) (l : List Int) :
    (w.alloc (.cells (madeCells #[.int .i64 0] n) 3)).ownsRow w.heap.size 3 1 (.slice (some ⟨w.heap.size, 0, none⟩) n n) n ((l.take 0 ++ List.replicate (n - 0) 0).map (Value.int .i64)) := by
  have h := World.ownsRow_lit (base := w.heap.size) (e := 3) (size := 1) w (madeCells #[.int .i64 0] n) n (Nat.le_refl _) (by unfold maxLen; omega) (by rw [size_madeCells]; omega)
  rw [toList_madeCells_one] at h
  simpa using h

end Go.Proofs.YtnkbfgnmodfemaaGreatDoor
