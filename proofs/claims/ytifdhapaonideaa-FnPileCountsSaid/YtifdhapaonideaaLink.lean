/- Links of graphs in memory, and the laws' own helpers on them. -/
import Derived.Test.YtifdhapaonideaaMark
import Derived.StillTailTactics
import Derived.OpenShut
namespace Go.Proofs.Ytifdhapaonideaa
open Go.RowKit
open Go.Lib (hid)

/-- a link: its two vertices, its number of edges -/
structure Lnk where
  a : Int
  b : Int
  n : Int
def noLnk : Lnk := ⟨0, 0, 0⟩

/-- v is a slice of links that reads as L. -/
def RLinks (w : World) (v : Value) (L : List Lnk) : Prop :=
  ∃ a cap, v = .slice a L.length cap ∧ L.length ≤ cap ∧ cap ≤ maxLen ∧
    ∀ i, i < L.length → ∃ g o, a = some ⟨g, o, none⟩ ∧ w.cell? ⟨g, o + i * 3, none⟩ = some (.int .i64 (L.getD i noLnk).a) ∧ w.cell? ⟨g, o + i * 3 + 1, none⟩ = some (.int .i64 (L.getD i noLnk).b) ∧ w.cell? ⟨g, o + i * 3 + 2, none⟩ = some (.int .i64 (L.getD i noLnk).n)

theorem RLinks.keep {w w' : World} {v : Value} {L : List Lnk} (h : RLinks w v L) (hb : Below w.heap.size w w') : RLinks w' v L := by
  obtain ⟨a, cap, rfl, h1, h2, hc⟩ := h
  refine ⟨a, cap, rfl, h1, h2, fun i hi => ?_⟩
  obtain ⟨g, o, ha, c1, c2, c3⟩ := hc i hi
  exact ⟨g, o, ha, by rw [hb.cell (p := ⟨g, o + i * 3, none⟩) (cell_lt c1)]; exact c1, by rw [hb.cell (p := ⟨g, o + i * 3 + 1, none⟩) (cell_lt c2)]; exact c2, by rw [hb.cell (p := ⟨g, o + i * 3 + 2, none⟩) (cell_lt c3)]; exact c3⟩
theorem RLinks.len {w : World} {v : Value} {L : List Lnk} (h : RLinks w v L) : L.length ≤ 9223372036854775807 := by
  obtain ⟨a, cap, rfl, h1, h2, hc⟩ := h; unfold maxLen at h2; omega
theorem RLinks.form {w : World} {v : Value} {L : List Lnk} (h : RLinks w v L) : ∃ a cap, v = .slice a L.length cap := by
  obtain ⟨a, cap, rfl, _⟩ := h; exact ⟨a, cap, rfl⟩

theorem links_at {w : World} {a : Option Addr} {L : List Lnk}
    (hc : ∀ i, i < L.length → ∃ g o, a = some ⟨g, o, none⟩ ∧ w.cell? ⟨g, o + i * 3, none⟩ = some (.int .i64 (L.getD i noLnk).a) ∧ w.cell? ⟨g, o + i * 3 + 1, none⟩ = some (.int .i64 (L.getD i noLnk).b) ∧ w.cell? ⟨g, o + i * 3 + 2, none⟩ = some (.int .i64 (L.getD i noLnk).n)) {k : Nat} (hk : k < L.length) :
    ∃ g o, ∃ x y z : Int, a = some ⟨g, o, none⟩ ∧ w.cell? ⟨g, o + k * 3, none⟩ = some (.int .i64 x) ∧ w.cell? ⟨g, o + k * 3 + 1, none⟩ = some (.int .i64 y) ∧ w.cell? ⟨g, o + k * 3 + 2, none⟩ = some (.int .i64 z) ∧ Hid (L.drop k = ⟨x, y, z⟩ :: L.drop (k + 1)) ∧ Hid (L.getD k noLnk = ⟨x, y, z⟩) := by
  obtain ⟨g, o, h1, h2, h3, h4⟩ := hc k hk
  exact ⟨g, o, _, _, _, h1, h2, h3, h4, drop_cons L noLnk k hk, rfl⟩

/-! ### szLinkS -/
theorem szL_small {L : List Lnk} {left : Int} (h : ¬ szI (L.length : Int) left < 0) (hl : left ≤ 1048576) : L.length ≤ 1048576 := by
  unfold szI at h; split at h <;> omega

/-! ### toLink -/
/-! ### Own links -/
/-- v is a slice of links, whole in a block of its own. -/
def FLinks (w : World) (lo hi : Nat) (v : Value) (L : List Lnk) : Prop :=
  ∃ g cur, v = .slice (some ⟨g, 0, none⟩) L.length L.length ∧ lo ≤ g ∧ g < hi ∧ L.length ≤ 1048576 ∧ w.heap[g]? = some (.cells cur 104 (0, 0)) ∧ cur.size = L.length * 3 ∧
    ∀ i, i < L.length → cur[i * 3]? = some (.int .i64 (L.getD i noLnk).a) ∧ cur[i * 3 + 1]? = some (.int .i64 (L.getD i noLnk).b) ∧ cur[i * 3 + 2]? = some (.int .i64 (L.getD i noLnk).n)

theorem FLinks.r {w : World} {lo hi : Nat} {v : Value} {L : List Lnk} (h : FLinks w lo hi v L) : RLinks w v L := by
  obtain ⟨g, cur, rfl, _, _, hl, hg, hs, hi'⟩ := h
  refine ⟨_, _, rfl, Nat.le_refl _, by unfold maxLen; omega, fun i hi => ?_⟩
  obtain ⟨h1, h2, h3⟩ := hi' i hi
  exact ⟨g, 0, rfl, by rw [Nat.zero_add, cell_of_row w g _ cur _ _ hg]; exact h1, by rw [Nat.zero_add, cell_of_row w g _ cur _ _ hg]; exact h2, by rw [Nat.zero_add, cell_of_row w g _ cur _ _ hg]; exact h3⟩
theorem FLinks.same {w w' : World} {lo hi : Nat} {v : Value} {L : List Lnk} (h : FLinks w lo hi v L) (hs : Same lo hi w w') : FLinks w' lo hi v L := by
  obtain ⟨g, cur, rfl, h1, h2, hl, hg, hc⟩ := h
  exact ⟨g, cur, rfl, h1, h2, hl, by rw [hs g h1 h2 (Array.getElem?_eq_some_iff.1 hg).1]; exact hg, hc⟩
theorem FLinks.keep {w w' : World} {lo hi : Nat} {v : Value} {L : List Lnk} (h : FLinks w lo hi v L) (hb : Below w.heap.size w w') : FLinks w' lo hi v L := h.same (.of_below hb)
theorem FLinks.mono {w : World} {lo hi lo' hi' : Nat} {v : Value} {L : List Lnk} (h : FLinks w lo hi v L) (h1 : lo' ≤ lo) (h2 : hi ≤ hi') : FLinks w lo' hi' v L := by
  obtain ⟨g, cur, rfl, h3, h4, hl, hg, hc⟩ := h
  exact ⟨g, cur, rfl, by omega, by omega, hl, hg, hc⟩
theorem FLinks.form {w : World} {lo hi : Nat} {v : Value} {L : List Lnk} (h : FLinks w lo hi v L) : ∃ a cap, v = .slice a L.length cap := by
  obtain ⟨g, cur, rfl, _⟩ := h; exact ⟨_, _, rfl⟩
def RetLinks (w : World) (L : List Lnk) (e : Ending) (w' : World) : Prop := ∃ v, e = .returned v ∧ FLinks w' w.heap.size w'.heap.size v L ∧ Below w.heap.size w w'

theorem Try.infoLink : (Try.prog.info? 104).map (fun i => (i.zero, i.size, i.bytes)) = some (some (.agg #[.int .i64 0, .int .i64 0, .int .i64 0]), 3, 24) := by kernel_rfl
theorem run_make_link (n : Nat) (hn : n ≤ 1048576) (w : World) :
    (Instr.makeSlice 24 (.int .i64 (n : Int)) (.int .i64 (n : Int))).run Try.prog w = .ok (.slice (some ⟨w.heap.size, 0, none⟩) n n) (w.alloc (.cells (madeCells #[.int .i64 0, .int .i64 0, .int .i64 0] (n * 3)) 104)) := by
  obtain ⟨i, hi, hzz⟩ := Option.map_eq_some_iff.1 Try.infoLink
  simp only [Prod.mk.injEq] at hzz
  obtain ⟨hz, hs, hb⟩ := hzz
  have hr := run_make (P := Try.prog) w 24 104 i _ Try.underlying24 hi hz .i64 .i64 n n (by omega) (Int.le_refl _) (by rw [hb]; omega) (by omega)
  simp only [Int.toNat_natCast, hs] at hr
  exact hr

/-- k links of the new slice are made -/
def MadeL (w : World) (B n : Nat) (L : List Lnk) (k : Nat) (wr : World) : Prop :=
  ∃ cur, wr.heap[B]? = some (.cells cur 104 (0, 0)) ∧ cur.size = n * 3 ∧
    (∀ i, i < k → cur[i * 3]? = some (.int .i64 (L.getD i noLnk).a) ∧ cur[i * 3 + 1]? = some (.int .i64 (L.getD i noLnk).b) ∧ cur[i * 3 + 2]? = some (.int .i64 (L.getD i noLnk).n)) ∧ Below B w wr ∧ B + 1 ≤ wr.heap.size
theorem madeL_start (w : World) (n : Nat) (L : List Lnk) : MadeL w w.heap.size n L 0 (w.alloc (.cells (madeCells #[.int .i64 0, .int .i64 0, .int .i64 0] (n * 3)) 104)) :=
  ⟨_, heap_alloc_new _ _, size_madeCells _ _, fun i hi => by omega, (Below.refl _ _).alloc (Nat.le_refl _) _, by simp⟩
theorem madeL_cells {w wr w1 : World} {B n k : Nat} {L : List Lnk} (h : MadeL w B n L k wr) (hk : k < n) (hb : Below wr.heap.size wr w1) :
    ((∃ u, w1.cell? ⟨B, k * 3, none⟩ = some u) ∧ (∃ u, w1.cell? ⟨B, k * 3 + 1, none⟩ = some u) ∧ (∃ u, w1.cell? ⟨B, k * 3 + 2, none⟩ = some u)) ∧ w1.frozen? ⟨B, k * 3, none⟩ = false ∧ w1.frozen? ⟨B, k * 3 + 1, none⟩ = false ∧ w1.frozen? ⟨B, k * 3 + 2, none⟩ = false := by
  obtain ⟨cur, hg, hs, _, _, hz⟩ := h
  have hg1 := (hb.block B (by omega)).trans hg
  refine ⟨⟨?_, ?_, ?_⟩, frozen_of_row _ _ _ _ _ hg1, frozen_of_row _ _ _ _ _ hg1, frozen_of_row _ _ _ _ _ hg1⟩
  · rw [cell_of_row _ _ _ _ _ _ hg1]; exact ⟨_, Array.getElem?_eq_getElem (by omega)⟩
  · rw [cell_of_row _ _ _ _ _ _ hg1]; exact ⟨_, Array.getElem?_eq_getElem (by omega)⟩
  · rw [cell_of_row _ _ _ _ _ _ hg1]; exact ⟨_, Array.getElem?_eq_getElem (by omega)⟩
theorem madeL_step {w wr w1 : World} {B n k : Nat} {L : List Lnk} {x y z : Int} (h : MadeL w B n L k wr) (hk : k < n) (hb : Below wr.heap.size wr w1) (hL : L.getD k noLnk = ⟨x, y, z⟩) :
    MadeL w B n L (k + 1) (((w1.setCell ⟨B, k * 3, none⟩ (.int .i64 x)).setCell ⟨B, k * 3 + 1, none⟩ (.int .i64 y)).setCell ⟨B, k * 3 + 2, none⟩ (.int .i64 z)) := by
  obtain ⟨cur, hg, hs, hi', hB, hz⟩ := h
  have hsz := hb.size
  have hg1 := (hb.block B (by omega)).trans hg
  have hg2 := heap_setCell_same w1 B (k * 3) cur _ (.int .i64 x) hg1
  have hg3 := heap_setCell_same _ B (k * 3 + 1) _ _ (.int .i64 y) hg2
  have hg4 := heap_setCell_same _ B (k * 3 + 2) _ _ (.int .i64 z) hg3
  have hsz' : (((w1.setCell ⟨B, k * 3, none⟩ (.int .i64 x)).setCell ⟨B, k * 3 + 1, none⟩ (.int .i64 y)).setCell ⟨B, k * 3 + 2, none⟩ (.int .i64 z)).heap.size = w1.heap.size := by simp [World.setCell]
  refine ⟨_, hg4, by simpa using hs, fun i hi => ?_, (((hB.trans (hb.mono (by omega))).setCell (Nat.le_refl _) _).setCell (Nat.le_refl _) _).setCell (Nat.le_refl _) _, by rw [hsz']; omega⟩
  by_cases e : i = k
  · subst e
    rw [hL]
    refine ⟨?_, ?_, ?_⟩
    · simp [Array.getElem?_setIfInBounds, hs]; omega
    · simp [Array.getElem?_setIfInBounds, hs]; omega
    · simp [Array.getElem?_setIfInBounds, hs]; omega
  · obtain ⟨h1, h2, h3⟩ := hi' i (by omega)
    refine ⟨?_, ?_, ?_⟩
    · rw [Array.getElem?_setIfInBounds, if_neg (by omega), Array.getElem?_setIfInBounds, if_neg (by omega), Array.getElem?_setIfInBounds, if_neg (by omega)]; exact h1
    · rw [Array.getElem?_setIfInBounds, if_neg (by omega), Array.getElem?_setIfInBounds, if_neg (by omega), Array.getElem?_setIfInBounds, if_neg (by omega)]; exact h2
    · rw [Array.getElem?_setIfInBounds, if_neg (by omega), Array.getElem?_setIfInBounds, if_neg (by omega), Array.getElem?_setIfInBounds, if_neg (by omega)]; exact h3
theorem madeL_done {w wr : World} {n : Nat} {L : List Lnk} (hn : n = L.length) (hl : L.length ≤ 1048576) (h : MadeL w w.heap.size n L n wr) : FLinks wr w.heap.size wr.heap.size (.slice (some ⟨w.heap.size, 0, none⟩) n n) L ∧ Below w.heap.size w wr := by
  subst hn
  obtain ⟨cur, hg, hs, hi', hB, hz⟩ := h
  exact ⟨⟨_, cur, rfl, Nat.le_refl _, by omega, hl, hg, hs, hi'⟩, hB⟩

/-! ### eqLinkS -/
/-! ### markLinkS -/
theorem FLinks.at {w : World} {lo hi g n : Nat} {L : List Lnk} (h : FLinks w lo hi (.slice (some ⟨g, 0, none⟩) n n) L) {i : Nat} (hi' : i < L.length) :
    ((∃ u, w.cell? ⟨g, i * 3, none⟩ = some u) ∧ (∃ u, w.cell? ⟨g, i * 3 + 1, none⟩ = some u) ∧ (∃ u, w.cell? ⟨g, i * 3 + 2, none⟩ = some u)) ∧ w.frozen? ⟨g, i * 3, none⟩ = false ∧ w.frozen? ⟨g, i * 3 + 1, none⟩ = false ∧ w.frozen? ⟨g, i * 3 + 2, none⟩ = false ∧ lo ≤ g ∧ g < hi ∧
      ∀ x y z : Int, FLinks (((w.setCell ⟨g, i * 3, none⟩ (.int .i64 x)).setCell ⟨g, i * 3 + 1, none⟩ (.int .i64 y)).setCell ⟨g, i * 3 + 2, none⟩ (.int .i64 z)) lo hi (.slice (some ⟨g, 0, none⟩) n n) (L.set i ⟨x, y, z⟩) := by
  obtain ⟨g', cur, hv, h1, h2, hl, hg, hc, hx⟩ := h
  simp only [Value.slice.injEq, Option.some.injEq, Addr.mk.injEq, and_true] at hv
  obtain ⟨rfl, rfl, _⟩ := hv
  refine ⟨⟨?_, ?_, ?_⟩, frozen_of_row _ _ _ _ _ hg, frozen_of_row _ _ _ _ _ hg, frozen_of_row _ _ _ _ _ hg, h1, h2, fun x y z => ?_⟩
  · rw [cell_of_row _ _ _ _ _ _ hg]; exact ⟨_, (hx i hi').1⟩
  · rw [cell_of_row _ _ _ _ _ _ hg]; exact ⟨_, (hx i hi').2.1⟩
  · rw [cell_of_row _ _ _ _ _ _ hg]; exact ⟨_, (hx i hi').2.2⟩
  · have hg2 := heap_setCell_same w g (i * 3) cur _ (.int .i64 x) hg
    have hg3 := heap_setCell_same _ g (i * 3 + 1) _ _ (.int .i64 y) hg2
    have hg4 := heap_setCell_same _ g (i * 3 + 2) _ _ (.int .i64 z) hg3
    refine ⟨g, _, by simp, h1, h2, by simpa using hl, hg4, by simpa using hc, fun j hj => ?_⟩
    rw [List.length_set] at hj
    obtain ⟨m1, m2, m3⟩ := hx j hj
    by_cases e : i = j
    · subst e
      have : (L.set i ⟨x, y, z⟩).getD i noLnk = ⟨x, y, z⟩ := by simp [List.getD, hi']
      rw [this]
      refine ⟨?_, ?_, ?_⟩
      · simp [Array.getElem?_setIfInBounds, hc]; omega
      · simp [Array.getElem?_setIfInBounds, hc]; omega
      · simp [Array.getElem?_setIfInBounds, hc]; omega
    · have : (L.set i ⟨x, y, z⟩).getD j noLnk = L.getD j noLnk := by simp [List.getD, e]
      rw [this]
      refine ⟨?_, ?_, ?_⟩
      · rw [Array.getElem?_setIfInBounds, if_neg (by omega), Array.getElem?_setIfInBounds, if_neg (by omega), Array.getElem?_setIfInBounds, if_neg (by omega)]; exact m1
      · rw [Array.getElem?_setIfInBounds, if_neg (by omega), Array.getElem?_setIfInBounds, if_neg (by omega), Array.getElem?_setIfInBounds, if_neg (by omega)]; exact m2
      · rw [Array.getElem?_setIfInBounds, if_neg (by omega), Array.getElem?_setIfInBounds, if_neg (by omega), Array.getElem?_setIfInBounds, if_neg (by omega)]; exact m3

end Go.Proofs.Ytifdhapaonideaa
