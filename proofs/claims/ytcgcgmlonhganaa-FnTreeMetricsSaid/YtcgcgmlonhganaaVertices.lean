/- Whether numbers are vertices of a matrix. -/
import Derived.Test.YtcgcgmlonhganaaFuncs
namespace Go.Proofs.Ytcgcgmlonhganaa
open Go.RowKit
open Go.Lib (hid)

theorem allB_any (l : List Int) (lo hi : Int) : (l.any fun x => !inB x lo hi) = !allB l lo hi := by
  induction l with
  | nil => rfl
  | cons x xs ih => rw [List.any_cons, ih, allB_cons]; cases inB x lo hi <;> simp

set_option maxHeartbeats 400000 in
theorem areVerticesF_c (n b cap : Nat) (a : Option Addr) (x : Int) (w : World) (hn : n ≤ 9223372036854775807) (hc : w.cell? ⟨b, 0, none⟩ = some (.slice a n cap)) :
    Calls Try.prog 93 (#[.int .i64 x] ++ #[.pointer (some ⟨b, 0, none⟩)]) w fun e w' => e = .returned (.bool (!inB x 0 (n - 1))) ∧ w = w' := by
  show Calls Try.prog 93 #[.int .i64 x, .pointer (some ⟨b, 0, none⟩)] w _
  go_enter Try.func93, Try.ntmps93
  go_wp2_with (go_at_call 75; refine (within_c _ _ _ _).mono ?_; rintro e w' ⟨rfl, rfl⟩)
  go_ret
  exact ⟨rfl, rfl⟩

set_option maxHeartbeats 400000 in
theorem areVertices_c (v u : Value) (M : List (List Int)) (l : List Int) (w : World) (h : RMat w v M) (h' : RInts w u l) :
    Calls Try.prog 77 #[v, u] w fun e w' => e = .returned (.bool (allB l 0 (M.length - 1))) ∧ Below w.heap.size w w' := by
  have hL := h.len
  obtain ⟨a, cap, rfl, h1, h2, hc⟩ := h
  clear hc h2
  have hb0 : Below w.heap.size w (w.alloc (.cells #[.slice a M.length cap] 22)) := (Below.refl _ _).alloc (Nat.le_refl _) _
  have hc0 := cell_new w (.slice a M.length cap) 22
  have HC := hid hc0
  clear hc0
  go_enter Try.func77, Try.ntmps77
  go_wp2_with fail
  refine (containsFuncI_c _ l _ _ _ (fun x => !inB x 0 (M.length - 1)) (h'.keep hb0) Try.call93 (fun x => areVerticesF_c M.length _ cap a x _ hL HC.out)).mono ?_
  rintro e w1 ⟨rfl, hw1⟩
  rw [hw1] at hb0
  clear hw1
  go_wp2
  go_ret
  exact ⟨ret_bool (by rw [allB_any]; simp), hb0⟩

end Go.Proofs.Ytcgcgmlonhganaa
