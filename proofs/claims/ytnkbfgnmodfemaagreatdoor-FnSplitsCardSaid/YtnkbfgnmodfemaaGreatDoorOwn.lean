/- Copies of slices. -/
import Derived.Test.YtnkbfgnmodfemaaGreatDoorAppend
import Derived.Deep.RegionLaw
namespace Go.Proofs.YtnkbfgnmodfemaaGreatDoor
open Go.RowKit
open Go.Lib (hid)

set_option maxHeartbeats 400000 in
theorem l1Own_c (v : Value) (l : List Int) (w : World) (h : RInts w v l) (hl : l.length ≤ 1048576) :
    Calls Tryz.prog 85 #[v] w (RetInts w l) := by
  have hb : Below w.heap.size w (w.alloc (.cells #[] 3)) := (Below.refl _ _).alloc (Nat.le_refl _) _
  have hF := ints_empty w w.heap.size (Nat.le_refl _)
  have hR := h.keep hb
  go_enter Tryz.func85, Tryz.ntmps85
  go_wp2_with (at_builtin; refine wpList_append_ints rfl _ _ rfl _ _ _ _ [] l rfl rfl hF hR (by simp; omega) (by simp) ?_; intro v' w' hF' hg hn)
  go_ret
  exact ⟨_, rfl, hF', hb.grown hg (by simp) (fun k hk => by cases hk; exact Nat.le_refl _)⟩

set_option maxHeartbeats 400000 in
theorem clone_c (v : Value) (l : List Int) (w : World) (h : RInts w v l) (hl : l.length ≤ 1048576) :
    Calls Tryz.prog 81 #[v] w (RetInts w l) := by
  have hb : Below w.heap.size w (w.alloc (.cells #[] 3)) := (Below.refl _ _).alloc (Nat.le_refl _) _
  have hF := ints_empty w w.heap.size (Nat.le_refl _)
  have hR := h.keep hb
  obtain ⟨a, cap, rfl, h1, h2, hc⟩ := h
  cases a with
  | none =>
    have hn : l = [] := by
      cases l with
      | nil => rfl
      | cons y ys => obtain ⟨g, o, he, _⟩ := hc 0 (by simp); cases he
    subst hn
    clear hc
    have hnil := fun w => Lib.run_eql_slice_nil (P := Tryz.prog) w 27 3 none 0 cap 0 0 Tryz.underlying27
    go_enter Tryz.func81, Tryz.ntmps81
    go_wp2
    go_ret
    exact ⟨_, rfl, ints_nil _ _ _, Below.refl _ _⟩
  | some ad =>
    clear hc
    have hnil := fun w => Lib.run_eql_slice_nil (P := Tryz.prog) w 27 3 (some ad) l.length cap 0 0 Tryz.underlying27
    go_enter Tryz.func81, Tryz.ntmps81
    go_wp2_with (at_builtin; refine wpList_append_ints rfl _ _ rfl _ _ _ _ [] l rfl rfl hF hR (by simp; omega) (by simp) ?_; intro v' w' hF' hg hn)
    go_ret
    exact ⟨_, rfl, hF', hb.grown hg (by simp) (fun k hk => by cases hk; exact Nat.le_refl _)⟩

/-- the copy of a row, appended: what the round's end holds -/
theorem row_one {w wr w1 : World} {B : Nat} {v u : Value} {L : List (List Int)} {x : List Int} (hF : FMat wr B wr.heap.size v L) (hb : Below B w wr) (hB : B ≤ wr.heap.size) (h1 : Below wr.heap.size wr w1) (hu : FInts w1 wr.heap.size w1.heap.size u x) :
    FMat (w1.alloc (.cells #[u] 27)) B wr.heap.size v L ∧ FInts (w1.alloc (.cells #[u] 27)) wr.heap.size w1.heap.size u x ∧ (w1.alloc (.cells #[u] 27)).cell? ⟨w1.heap.size, 0, none⟩ = some u ∧ B ≤ (w1.alloc (.cells #[u] 27)).heap.size ∧
      Below B w (w1.alloc (.cells #[u] 27)) := by
  have hs := h1.size
  have ha : Below w1.heap.size w1 (w1.alloc (.cells #[u] 27)) := (Below.refl _ _).alloc (Nat.le_refl _) _
  refine ⟨(hF.keep h1).keep ha, hu.keep ha, cell_new _ _ _, by simp; omega, (hb.trans (h1.mono hB)).trans (ha.mono (by omega))⟩

theorem own_blocks {w : World} {lo hi : Nat} {v : Value} {M : List (List Int)} (h : FMat w lo hi v M) : ∀ k, v.ownBlock = some k → lo ≤ k := by
  obtain ⟨vs, h0, _⟩ := h
  exact fun k hk => (h0.lt k hk).1



end Go.Proofs.YtnkbfgnmodfemaaGreatDoor
