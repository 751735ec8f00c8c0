/- Contracts of the laws' own helpers that make, mark or compare slices. -/
import Derived.Test.YtnkbfgnmodfemaaDoorLeaf
namespace Go.Proofs.YtnkbfgnmodfemaaDoor
open Go.RowKit
open Go.Lib (hid)

theorem ints_start (w : World) (n : Nat) (hn : n ≤ 1048576) (l : List Int) :
    (w.alloc (.cells (madeCells #[.int .i64 0] n) 3)).ownsRow w.heap.size 3 1 (.slice (some ⟨w.heap.size, 0, none⟩) n n) n ((l.take 0 ++ List.replicate (n - 0) 0).map (Value.int .i64)) := by
  have h := World.ownsRow_lit (base := w.heap.size) (e := 3) (size := 1) w (madeCells #[.int .i64 0] n) n (Nat.le_refl _) (by unfold maxLen; omega) (by rw [size_madeCells]; omega)
  rw [toList_madeCells_one] at h
  simpa using h

set_option maxHeartbeats 400000 in
theorem toIntS_c (v : Value) (l : List Int) (w : World) (h : RInts w v l) (hl : l.length ≤ 1048576) :
    Calls Tryd.prog 5 #[v] w (RetInts w l) := by
  have hR := h
  obtain ⟨a, cap, rfl, h1, h2, hc⟩ := h
  unfold maxLen at h2
  have hmk := run_make_row' (P := Tryd.prog) 22 3 (.int .i64 0) 8 Tryd.underlying22 Tryd.infoInt rfl .i64 .i64 l.length (by omega) (by omega)
  go_enter Tryd.func5, Tryd.ntmps5
  go_wp2
  clear hmk
  go_loopg [4] l.length (fun gk i wr => ∃ k : Nat, k ≤ l.length ∧ gk = l.length - k ∧ i = .int .i64 k ∧
    wr.ownsRow w.heap.size 3 1 (.slice (some ⟨w.heap.size, 0, none⟩) l.length l.length) l.length ((l.take k ++ List.replicate (l.length - k) 0).map (Value.int .i64)) ∧ Below w.heap.size w wr ∧ wr.heap.size = w.heap.size + 1)
  case atStart => exact ⟨0, Nat.zero_le _, rfl, rfl, ints_start w _ hl l, (Below.refl _ _).alloc (Nat.le_refl _) _, by simp⟩
  case round =>
    obtain ⟨k, hk, rfl, rfl, hown, hb, hsz⟩ := hrel
    by_cases hlt : k < l.length
    · obtain ⟨g, o, x, rfl, hk, HD, HX⟩ := ints_at hc hlt
      have hkr : wr.cell? ⟨g, o + k, none⟩ = some (.int .i64 x) := by rw [hb.cell (p := ⟨g, o + k, none⟩) (cell_lt hk)]; exact hk
      have hcl := hown.cellAt k (by omega)
      have hcl' : ∃ u, wr.cell? ⟨w.heap.size, k, none⟩ = some u := by
        rw [hcl]; exact ⟨_, List.getElem?_eq_getElem (by simp; omega)⟩
      obtain ⟨u, hcell⟩ := hcl'
      have hfr := hown.frozenAt k
      have hst := hown.stored k (.int .i64 x)
      have hset := set_mid l k hlt l.length rfl
      rw [HX.out] at hset
      rw [hset] at hst
      have HO : Aside ((wr.setCell ⟨w.heap.size, k, none⟩ (.int .i64 x)).ownsRow w.heap.size 3 1 (.slice (some ⟨w.heap.size, 0, none⟩) l.length l.length) l.length ((l.take (k + 1) ++ List.replicate (l.length - (k + 1)) 0).map (Value.int .i64))
        ∧ Below w.heap.size w (wr.setCell ⟨w.heap.size, k, none⟩ (.int .i64 x)) ∧ (wr.setCell ⟨w.heap.size, k, none⟩ (.int .i64 x)).heap.size = w.heap.size + 1) :=
        ⟨hst.1, hb.setCell (Nat.le_refl _) _, by simp [hsz]⟩
      clear hc hown hcl hst hset hk hb hsz
      go_wp2
      go_roundg (l.length - (k + 1))
      case rel => exact ⟨k + 1, by omega, rfl, by go_num, HO.out⟩
      case measure => omega
    · obtain rfl : k = l.length := by omega
      have HO : Aside (FInts wr w.heap.size wr.heap.size (.slice (some ⟨w.heap.size, 0, none⟩) l.length l.length) l ∧ Below w.heap.size w wr) := by
        refine ⟨⟨?_, fun g hg => ?_⟩, hb⟩
        · simpa using hown
        · simp [Value.ownBlock] at hg; omega
      clear hc hown hb hsz
      go_wp2
      go_ret
      exact ⟨_, rfl, HO.out.1, HO.out.2⟩

end Go.Proofs.YtnkbfgnmodfemaaDoor
