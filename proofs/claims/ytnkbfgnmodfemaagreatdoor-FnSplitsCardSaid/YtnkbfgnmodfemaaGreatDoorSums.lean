/- The three sums of four points: both programs' functions. -/
import Derived.Test.YtnkbfgnmodfemaaGreatDoorIsUltra
namespace Go.Proofs.YtnkbfgnmodfemaaGreatDoor
open Go.RowKit
open Go.Lib (hid)

def sumA (M : List (List Int)) (i j k l : Nat) : Int := ent M i j + ent M k l
def sumsL (M : List (List Int)) (i j k l : Nat) : List Int := [sumA M i j k l, sumA M i k j l, sumA M i l j k]

theorem three_fints (w : World) (lo : Nat) (hlo : lo ≤ w.heap.size) (a b c : Int) : FInts (w.alloc (.cells #[.int .i64 a, .int .i64 b, .int .i64 c] 3)) lo (w.heap.size + 1) (.slice (some ⟨w.heap.size, 0, none⟩) 3 3) [a, b, c] := by
  have := ints_lit w lo hlo [a, b, c] (by simp)
  simpa using this

set_option maxRecDepth 100000 in
set_option maxHeartbeats 2000000 in
theorem meSums_c (v : Value) (M : List (List Int)) (w : World) (hm : metB M = true) (h : RMat w v M) (i j k l : Nat) (hi : i < M.length) (hj : j < M.length) (hk : k < M.length) (hl : l < M.length) :
    Calls Tryz.prog 84 #[v, .int .i64 i, .int .i64 j, .int .i64 k, .int .i64 l] w (RetInts w (sumsL M i j k l)) := by
  have hp := metB_parts hm
  obtain ⟨g, o, cap, G, O, C, rfl, q1, q2, hsq⟩ := met_open h hm
  obtain ⟨wq, hwq⟩ : ∃ wq : World, wq = w.drew := ⟨_, rfl⟩
  have hs : SqIn wq g o M.length G O C M := by rw [hwq]; exact hsq.keep (Below.refl _ _).drew
  have ri := hs.row i hi
  have rj := hs.row j hj
  have rk := hs.row k hk
  have b1 := symB_bound hp.2.2.2.1 hi hj
  have b2 := symB_bound hp.2.2.2.1 hk hl
  have b3 := symB_bound hp.2.2.2.1 hi hk
  have b4 := symB_bound hp.2.2.2.1 hj hl
  have b5 := symB_bound hp.2.2.2.1 hi hl
  have b6 := symB_bound hp.2.2.2.1 hj hk
  have c1 := hs.at_ i j hi hj
  have c2 := hs.at_ k l hk hl
  have c3 := hs.at_ i k hi hk
  have c4 := hs.at_ j l hj hl
  have c5 := hs.at_ i l hi hl
  have c6 := hs.at_ j k hj hk
  obtain ⟨x1, h1⟩ : ∃ x, ent M i j = x := ⟨_, rfl⟩
  obtain ⟨x2, h2⟩ : ∃ x, ent M k l = x := ⟨_, rfl⟩
  obtain ⟨x3, h3⟩ : ∃ x, ent M i k = x := ⟨_, rfl⟩
  obtain ⟨x4, h4⟩ : ∃ x, ent M j l = x := ⟨_, rfl⟩
  obtain ⟨x5, h5⟩ : ∃ x, ent M i l = x := ⟨_, rfl⟩
  obtain ⟨x6, h6⟩ : ∃ x, ent M j k = x := ⟨_, rfl⟩
  rw [h1] at c1 b1
  rw [h2] at c2 b2
  rw [h3] at c3 b3
  rw [h4] at c4 b4
  rw [h5] at c5 b5
  rw [h6] at c6 b6
  have HS : Hid (sumsL M i j k l = [x1 + x2, x3 + x4, x5 + x6]) := by show _ = _; rw [sumsL, sumA, sumA, sumA, h1, h2, h3, h4, h5, h6]
  have f1 : IntKind.i64.wrap (x1 + x2) = x1 + x2 := IntWalk.i64_in _ (by omega)
  have f2 : IntKind.i64.wrap (x3 + x4) = x3 + x4 := IntWalk.i64_in _ (by omega)
  have f3 : IntKind.i64.wrap (x5 + x6) = x5 + x6 := IntWalk.i64_in _ (by omega)
  have hF := hid (three_fints wq wq.heap.size (Nat.le_refl _) (x1 + x2) (x3 + x4) (x5 + x6))
  have hab : Below wq.heap.size wq (wq.alloc (.cells #[.int .i64 (x1 + x2), .int .i64 (x3 + x4), .int .i64 (x5 + x6)] 3)) := (Below.refl _ _).alloc (Nat.le_refl _) _
  have hsz : wq.heap.size = w.heap.size := by rw [hwq]; rfl
  have HSZ := hid hsz
  have HBA : Hid (Below w.heap.size w (wq.alloc (.cells #[.int .i64 (x1 + x2), .int .i64 (x3 + x4), .int .i64 (x5 + x6)] 3))) := below_of_drew (by rw [← hwq]; exact hwq ▸ hab)
  have HWQ := hid hwq
  have hi1 : (i : Int) < (M.length : Int) := by omega
  have hj1 : (j : Int) < (M.length : Int) := by omega
  have hk1 : (k : Int) < (M.length : Int) := by omega
  have hl1 : (l : Int) < (M.length : Int) := by omega
  clear h1 h2 h3 h4 h5 h6 hs hab hwq hsq h hm hp hsz
  go_enter Tryz.func84, Tryz.ntmps84
  go_wp2
  refine wp_region_still_tail 45 (by kernel_rfl) (by kernel_rfl) ?_
  change wpStill _ _ w.drew _ _ _
  rw [← HWQ.out]
  simp only [List.take_succ_cons, List.take_zero, List.drop_succ_cons, List.drop_zero]
  repeat still_step
  refine wpStill_nil ?_
  change wpList _ _ _ _ _ w.drew
  rw [← HWQ.out]
  clear f1 f2 f3
  go_wp2
  go_ret
  exact ⟨_, rfl, by rw [HS.out, ← HSZ.out]; exact fints_new hF.out, HBA.out⟩

set_option maxRecDepth 100000 in
set_option maxHeartbeats 2000000 in
theorem fourSums_c (v : Value) (M : List (List Int)) (w : World) (hm : metB M = true) (h : RMat w v M) (i j k l : Nat) (hi : i < M.length) (hj : j < M.length) (hk : k < M.length) (hl : l < M.length) :
    Calls Tryz.prog 80 #[v, .int .i64 i, .int .i64 j, .int .i64 k, .int .i64 l] w (RetInts w (sumsL M i j k l)) := by
  have hp := metB_parts hm
  obtain ⟨g, o, cap, G, O, C, rfl, q1, q2, hsq⟩ := met_open h hm
  obtain ⟨wq, hwq⟩ : ∃ wq : World, wq = w.drew := ⟨_, rfl⟩
  have hs : SqIn wq g o M.length G O C M := by rw [hwq]; exact hsq.keep (Below.refl _ _).drew
  have ri := hs.row i hi
  have rj := hs.row j hj
  have rk := hs.row k hk
  have b1 := symB_bound hp.2.2.2.1 hi hj
  have b2 := symB_bound hp.2.2.2.1 hk hl
  have b3 := symB_bound hp.2.2.2.1 hi hk
  have b4 := symB_bound hp.2.2.2.1 hj hl
  have b5 := symB_bound hp.2.2.2.1 hi hl
  have b6 := symB_bound hp.2.2.2.1 hj hk
  have c1 := hs.at_ i j hi hj
  have c2 := hs.at_ k l hk hl
  have c3 := hs.at_ i k hi hk
  have c4 := hs.at_ j l hj hl
  have c5 := hs.at_ i l hi hl
  have c6 := hs.at_ j k hj hk
  obtain ⟨x1, h1⟩ : ∃ x, ent M i j = x := ⟨_, rfl⟩
  obtain ⟨x2, h2⟩ : ∃ x, ent M k l = x := ⟨_, rfl⟩
  obtain ⟨x3, h3⟩ : ∃ x, ent M i k = x := ⟨_, rfl⟩
  obtain ⟨x4, h4⟩ : ∃ x, ent M j l = x := ⟨_, rfl⟩
  obtain ⟨x5, h5⟩ : ∃ x, ent M i l = x := ⟨_, rfl⟩
  obtain ⟨x6, h6⟩ : ∃ x, ent M j k = x := ⟨_, rfl⟩
  rw [h1] at c1 b1
  rw [h2] at c2 b2
  rw [h3] at c3 b3
  rw [h4] at c4 b4
  rw [h5] at c5 b5
  rw [h6] at c6 b6
  have HS : Hid (sumsL M i j k l = [x1 + x2, x3 + x4, x5 + x6]) := by show _ = _; rw [sumsL, sumA, sumA, sumA, h1, h2, h3, h4, h5, h6]
  have f1 : IntKind.i64.wrap (x1 + x2) = x1 + x2 := IntWalk.i64_in _ (by omega)
  have f2 : IntKind.i64.wrap (x3 + x4) = x3 + x4 := IntWalk.i64_in _ (by omega)
  have f3 : IntKind.i64.wrap (x5 + x6) = x5 + x6 := IntWalk.i64_in _ (by omega)
  have hF := hid (three_fints wq wq.heap.size (Nat.le_refl _) (x1 + x2) (x3 + x4) (x5 + x6))
  have hab : Below wq.heap.size wq (wq.alloc (.cells #[.int .i64 (x1 + x2), .int .i64 (x3 + x4), .int .i64 (x5 + x6)] 3)) := (Below.refl _ _).alloc (Nat.le_refl _) _
  have hsz : wq.heap.size = w.heap.size := by rw [hwq]; rfl
  have HSZ := hid hsz
  have HBA : Hid (Below w.heap.size w (wq.alloc (.cells #[.int .i64 (x1 + x2), .int .i64 (x3 + x4), .int .i64 (x5 + x6)] 3))) := below_of_drew (by rw [← hwq]; exact hwq ▸ hab)
  have HWQ := hid hwq
  have hi1 : (i : Int) < (M.length : Int) := by omega
  have hj1 : (j : Int) < (M.length : Int) := by omega
  have hk1 : (k : Int) < (M.length : Int) := by omega
  have hl1 : (l : Int) < (M.length : Int) := by omega
  clear h1 h2 h3 h4 h5 h6 hs hab hwq hsq h hm hp hsz
  go_enter Tryz.func80, Tryz.ntmps80
  go_wp2
  refine wp_region_still_tail 45 (by kernel_rfl) (by kernel_rfl) ?_
  change wpStill _ _ w.drew _ _ _
  rw [← HWQ.out]
  simp only [List.take_succ_cons, List.take_zero, List.drop_succ_cons, List.drop_zero]
  repeat still_step
  refine wpStill_nil ?_
  change wpList _ _ _ _ _ w.drew
  rw [← HWQ.out]
  clear f1 f2 f3
  go_wp2
  go_ret
  exact ⟨_, rfl, by rw [HS.out, ← HSZ.out]; exact fints_new hF.out, HBA.out⟩

end Go.Proofs.YtnkbfgnmodfemaaGreatDoor
