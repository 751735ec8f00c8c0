/- Tasks in memory, and the laws' own helpers on them. -/
import Derived.Test.YtegeelldcomnnaaMark
import Derived.StillTailTactics
import Derived.OpenShut
namespace Go.Proofs.Ytegeelldcomnnaa
open Go.RowKit
open Go.Lib (hid)

/-- a task: what it needs, how long it takes -/
structure Tsk where
  needs : List Int
  time : Int
def noTsk : Tsk := ⟨[], 0⟩

/-- v is a slice of tasks that reads as L. -/
def RTasks (w : World) (v : Value) (L : List Tsk) : Prop :=
  ∃ a cap, v = .slice a L.length cap ∧ L.length ≤ cap ∧ cap ≤ maxLen ∧
    ∀ i, i < L.length → ∃ g o r, a = some ⟨g, o, none⟩ ∧ w.cell? ⟨g, o + i * 2, none⟩ = some r ∧ w.cell? ⟨g, o + i * 2 + 1, none⟩ = some (.int .i64 (L.getD i noTsk).time) ∧ RInts w r (L.getD i noTsk).needs

theorem RTasks.keep {w w' : World} {v : Value} {L : List Tsk} (h : RTasks w v L) (hb : Below w.heap.size w w') : RTasks w' v L := by
  obtain ⟨a, cap, rfl, h1, h2, hc⟩ := h
  refine ⟨a, cap, rfl, h1, h2, fun i hi => ?_⟩
  obtain ⟨g, o, r, ha, c1, c2, hr⟩ := hc i hi
  exact ⟨g, o, r, ha, by rw [hb.cell (p := ⟨g, o + i * 2, none⟩) (cell_lt c1)]; exact c1, by rw [hb.cell (p := ⟨g, o + i * 2 + 1, none⟩) (cell_lt c2)]; exact c2, hr.keep hb⟩
theorem RTasks.len {w : World} {v : Value} {L : List Tsk} (h : RTasks w v L) : L.length ≤ 9223372036854775807 := by
  obtain ⟨a, cap, rfl, h1, h2, hc⟩ := h; unfold maxLen at h2; omega

theorem tasks_at {w : World} {a : Option Addr} {L : List Tsk}
    (hc : ∀ i, i < L.length → ∃ g o r, a = some ⟨g, o, none⟩ ∧ w.cell? ⟨g, o + i * 2, none⟩ = some r ∧ w.cell? ⟨g, o + i * 2 + 1, none⟩ = some (.int .i64 (L.getD i noTsk).time) ∧ RInts w r (L.getD i noTsk).needs) {k : Nat} (hk : k < L.length) :
    ∃ g o r l, ∃ tm : Int, a = some ⟨g, o, none⟩ ∧ w.cell? ⟨g, o + k * 2, none⟩ = some r ∧ w.cell? ⟨g, o + k * 2 + 1, none⟩ = some (.int .i64 tm) ∧ RInts w r l ∧ Hid (L.drop k = ⟨l, tm⟩ :: L.drop (k + 1)) ∧ Hid (L.getD k noTsk = ⟨l, tm⟩) := by
  obtain ⟨g, o, r, h1, h2, h3, h4⟩ := hc k hk
  exact ⟨g, o, r, _, _, h1, h2, h3, h4, drop_cons L noTsk k hk, rfl⟩

/-! ### szTaskS -/
def szRowsT : List Tsk → Int → Int
  | [], left => left
  | r :: rs, left => if szI r.needs.length left < 0 then -1 else szRowsT rs (szI r.needs.length left)
theorem szRowsT_neg (r : Tsk) (rs : List Tsk) (left : Int) (h : szI r.needs.length left < 0) : szRowsT (r :: rs) left = -1 := by rw [szRowsT, if_pos h]
theorem szRowsT_pos (r : Tsk) (rs : List Tsk) (left : Int) (h : ¬ szI r.needs.length left < 0) : szRowsT (r :: rs) left = szRowsT rs (szI r.needs.length left) := by rw [szRowsT, if_neg h]
def szT (L : List Tsk) (left : Int) : Int := if left - L.length < 0 then -1 else szRowsT L (left - L.length)
theorem szRowsT_ge {L : List Tsk} {left : Int} (h : 0 ≤ szRowsT L left) : szRowsT L left ≤ left ∧ ∀ r ∈ L, (r.needs.length : Int) ≤ left := by
  induction L generalizing left with
  | nil => exact ⟨Int.le_refl _, by simp⟩
  | cons r rs ih =>
    by_cases hn : szI r.needs.length left < 0
    · rw [szRowsT_neg r rs left hn] at h; omega
    · rw [szRowsT_pos r rs left hn] at h ⊢
      have hs : szI r.needs.length left = left - r.needs.length := by unfold szI at hn ⊢; split <;> simp_all
      have h1 := ih h
      refine ⟨by omega, fun x hx => ?_⟩
      cases List.mem_cons.1 hx with
      | inl e => subst e; omega
      | inr e => have := h1.2 x e; omega
/-- small enough -/
def SmallT (L : List Tsk) : Prop := L.length ≤ 1048576 ∧ ∀ r ∈ L, r.needs.length ≤ 1048576
theorem szT_small {L : List Tsk} {left : Int} (h : ¬ szT L left < 0) : (L.length : Int) ≤ left ∧ ∀ r ∈ L, (r.needs.length : Int) ≤ left := by
  unfold szT at h
  split at h
  · omega
  · have h1 := szRowsT_ge (L := L) (left := left - L.length) (by omega)
    exact ⟨by omega, fun r hr => by have := h1.2 r hr; omega⟩
theorem szT_lim {L : List Tsk} {left : Int} (h : (L.length : Int) ≤ left ∧ ∀ r ∈ L, (r.needs.length : Int) ≤ left) (hl : left ≤ 1048576) : SmallT L :=
  ⟨by omega, fun r hr => by have := h.2 r hr; omega⟩
theorem szT_range {M : List Tsk} {left : Int} (h : 0 ≤ left) : szT M left ≤ left ∧ -1 ≤ szT M left := by
  by_cases hn : szT M left < 0
  · unfold szT at hn ⊢
    split at hn
    · rw [if_pos ‹_›]; omega
    · rw [if_neg ‹_›]
      have : ∀ (M : List Tsk) (l : Int), 0 ≤ l → -1 ≤ szRowsT M l := by
        intro M; induction M with
        | nil => intro l hl; show -1 ≤ l; omega
        | cons r rs ih =>
          intro l hl
          by_cases hn : szI r.needs.length l < 0
          · rw [szRowsT_neg r rs l hn]; omega
          · rw [szRowsT_pos r rs l hn]; exact ih _ (by omega)
      have := this M (left - M.length) (by omega)
      omega
  · unfold szT at hn ⊢
    split at hn
    · omega
    · rw [if_neg ‹_›]
      have h1 := szRowsT_ge (L := M) (left := left - M.length) (by omega)
      omega



/-! ### toTask -/
theorem blk3 (w : World) (A B C : Obj) : (((w.alloc A).alloc B).alloc C).heap[w.heap.size]? = some A ∧ (((w.alloc A).alloc B).alloc C).heap[w.heap.size + 1]? = some B ∧
    (((w.alloc A).alloc B).alloc C).heap[w.heap.size + 1 + 1]? = some C ∧ (((w.alloc A).alloc B).alloc C).heap.size = w.heap.size + 1 + 1 + 1 := by
  have s1 : (w.alloc A).heap.size = w.heap.size + 1 := by simp
  have s2 : ((w.alloc A).alloc B).heap.size = w.heap.size + 1 + 1 := by simp
  refine ⟨?_, ?_, ?_, by simp⟩
  · rw [Below.heap_alloc _ _ _ (by omega), Below.heap_alloc _ _ _ (by omega), heap_alloc_new]
  · rw [Below.heap_alloc _ _ _ (by omega), ← s1, heap_alloc_new]
  · rw [← s2, heap_alloc_new]


/-! ### Own tasks -/
/-- v is a slice of tasks, whole in a block of its own, the lists of its tasks in blocks of their own. -/
def FTasks (w : World) (lo hi : Nat) (v : Value) (L : List Tsk) : Prop :=
  ∃ g cur, ∃ rs : Nat → Value, v = .slice (some ⟨g, 0, none⟩) L.length L.length ∧ lo ≤ g ∧ g < hi ∧ L.length ≤ 1048576 ∧ w.heap[g]? = some (.cells cur 67 (0, 0)) ∧ cur.size = L.length * 2 ∧
    (∀ i, i < L.length → cur[i * 2]? = some (rs i) ∧ cur[i * 2 + 1]? = some (.int .i64 (L.getD i noTsk).time) ∧ FInts w lo hi (rs i) (L.getD i noTsk).needs) ∧
    ∀ i j, i < j → j < L.length → ∀ b, (rs i).ownBlock = some b → (rs j).ownBlock ≠ some b

theorem FTasks.r {w : World} {lo hi : Nat} {v : Value} {L : List Tsk} (h : FTasks w lo hi v L) : RTasks w v L := by
  obtain ⟨g, cur, rs, rfl, _, _, hl, hg, hs, hi', _⟩ := h
  refine ⟨_, _, rfl, Nat.le_refl _, by unfold maxLen; omega, fun i hi => ?_⟩
  obtain ⟨h1, h2, h3⟩ := hi' i hi
  exact ⟨g, 0, rs i, rfl, by rw [Nat.zero_add, cell_of_row w g _ cur _ _ hg]; exact h1, by rw [Nat.zero_add, cell_of_row w g _ cur _ _ hg]; exact h2, h3.r⟩
theorem FTasks.same {w w' : World} {lo hi : Nat} {v : Value} {L : List Tsk} (h : FTasks w lo hi v L) (hs : Same lo hi w w') : FTasks w' lo hi v L := by
  obtain ⟨g, cur, rs, rfl, h1, h2, hl, hg, hc, hi', hd⟩ := h
  exact ⟨g, cur, rs, rfl, h1, h2, hl, by rw [hs g h1 h2 (Array.getElem?_eq_some_iff.1 hg).1]; exact hg, hc, fun i hi => ⟨(hi' i hi).1, (hi' i hi).2.1, (hi' i hi).2.2.same hs⟩, hd⟩
theorem FTasks.keep {w w' : World} {lo hi : Nat} {v : Value} {L : List Tsk} (h : FTasks w lo hi v L) (hb : Below w.heap.size w w') : FTasks w' lo hi v L := h.same (.of_below hb)
theorem FTasks.mono {w : World} {lo hi lo' hi' : Nat} {v : Value} {L : List Tsk} (h : FTasks w lo hi v L) (h1 : lo' ≤ lo) (h2 : hi ≤ hi') : FTasks w lo' hi' v L := by
  obtain ⟨g, cur, rs, rfl, h3, h4, hl, hg, hc, hi', hd⟩ := h
  exact ⟨g, cur, rs, rfl, by omega, by omega, hl, hg, hc, fun i hi => ⟨(hi' i hi).1, (hi' i hi).2.1, (hi' i hi).2.2.mono h1 h2⟩, hd⟩
theorem FTasks.form {w : World} {lo hi : Nat} {v : Value} {L : List Tsk} (h : FTasks w lo hi v L) : ∃ a cap, v = .slice a L.length cap := by
  obtain ⟨g, cur, rs, rfl, _⟩ := h; exact ⟨_, _, rfl⟩
def RetTasks (w : World) (L : List Tsk) (e : Ending) (w' : World) : Prop := ∃ v, e = .returned v ∧ FTasks w' w.heap.size w'.heap.size v L ∧ Below w.heap.size w w'

theorem Try.infoTask : (Try.prog.info? 67).map (fun i => (i.zero, i.size, i.bytes)) = some (some (.agg #[.slice none 0 0, .int .i64 0]), 2, 32) := by kernel_rfl
theorem run_make_task (n : Nat) (hn : n ≤ 1048576) (w : World) :
    (Instr.makeSlice 52 (.int .i64 (n : Int)) (.int .i64 (n : Int))).run Try.prog w = .ok (.slice (some ⟨w.heap.size, 0, none⟩) n n) (w.alloc (.cells (madeCells #[.slice none 0 0, .int .i64 0] (n * 2)) 67)) := by
  obtain ⟨i, hi, hzz⟩ := Option.map_eq_some_iff.1 Try.infoTask
  simp only [Prod.mk.injEq] at hzz
  obtain ⟨hz, hs, hb⟩ := hzz
  have hr := run_make (P := Try.prog) w 52 67 i _ Try.underlying52 hi hz .i64 .i64 n n (by omega) (Int.le_refl _) (by rw [hb]; omega) (by omega)
  simp only [Int.toNat_natCast, hs] at hr
  exact hr

/-- k tasks of the new slice are made -/
def MadeT (w : World) (B n : Nat) (L : List Tsk) (k : Nat) (wr : World) : Prop :=
  ∃ cur, ∃ rs : Nat → Value, wr.heap[B]? = some (.cells cur 67 (0, 0)) ∧ cur.size = n * 2 ∧
    (∀ i, i < k → cur[i * 2]? = some (rs i) ∧ cur[i * 2 + 1]? = some (.int .i64 (L.getD i noTsk).time) ∧ FInts wr (B + 1) wr.heap.size (rs i) (L.getD i noTsk).needs) ∧
    (∀ i j, i < j → j < k → ∀ b, (rs i).ownBlock = some b → (rs j).ownBlock ≠ some b) ∧ Below B w wr ∧ B + 1 ≤ wr.heap.size
theorem madeT_start (w : World) (n : Nat) (L : List Tsk) : MadeT w w.heap.size n L 0 (w.alloc (.cells (madeCells #[.slice none 0 0, .int .i64 0] (n * 2)) 67)) :=
  ⟨_, fun _ => .nilFunc, heap_alloc_new _ _, size_madeCells _ _, fun i hi => by omega, fun i j _ hj => by omega, (Below.refl _ _).alloc (Nat.le_refl _) _, by simp⟩
theorem madeT_cells {w wr w1 : World} {B n k : Nat} {L : List Tsk} (h : MadeT w B n L k wr) (hk : k < n) (hb : Below wr.heap.size wr w1) :
    (∃ u, w1.cell? ⟨B, k * 2, none⟩ = some u) ∧ (∃ u, w1.cell? ⟨B, k * 2 + 1, none⟩ = some u) ∧ w1.frozen? ⟨B, k * 2, none⟩ = false ∧ w1.frozen? ⟨B, k * 2 + 1, none⟩ = false := by
  obtain ⟨cur, rs, hg, hs, _, _, _, hz⟩ := h
  have hg1 := (hb.block B (by omega)).trans hg
  refine ⟨?_, ?_, frozen_of_row _ _ _ _ _ hg1, frozen_of_row _ _ _ _ _ hg1⟩
  · rw [cell_of_row _ _ _ _ _ _ hg1]; exact ⟨_, Array.getElem?_eq_getElem (by omega)⟩
  · rw [cell_of_row _ _ _ _ _ _ hg1]; exact ⟨_, Array.getElem?_eq_getElem (by omega)⟩
theorem madeT_step {w wr w1 : World} {B n k : Nat} {L : List Tsk} {u : Value} {l : List Int} {tm : Int} (h : MadeT w B n L k wr) (hk : k < n) (hb : Below wr.heap.size wr w1) (hu : FInts w1 wr.heap.size w1.heap.size u l) (hL : L.getD k noTsk = ⟨l, tm⟩) :
    MadeT w B n L (k + 1) ((w1.setCell ⟨B, k * 2, none⟩ u).setCell ⟨B, k * 2 + 1, none⟩ (.int .i64 tm)) := by
  obtain ⟨cur, rs, hg, hs, hi', hd, hB, hz⟩ := h
  have hsz := hb.size
  have hg1 := (hb.block B (by omega)).trans hg
  have hg2 := heap_setCell_same w1 B (k * 2) cur _ u hg1
  have hg3 := heap_setCell_same _ B (k * 2 + 1) _ _ (.int .i64 tm) hg2
  have hsame : Same (B + 1) w1.heap.size w1 ((w1.setCell ⟨B, k * 2, none⟩ u).setCell ⟨B, k * 2 + 1, none⟩ (.int .i64 tm)) := fun b h1 _ _ => by
    rw [heap_setCell_other _ _ _ _ (by show b ≠ B; omega), heap_setCell_other _ _ _ _ (by show b ≠ B; omega)]
  have hsz' : ((w1.setCell ⟨B, k * 2, none⟩ u).setCell ⟨B, k * 2 + 1, none⟩ (.int .i64 tm)).heap.size = w1.heap.size := by simp [World.setCell]
  refine ⟨_, fun i => if i = k then u else rs i, hg3, by simpa using hs, fun i hi => ?_, fun i j hij hj b hbi => ?_, ((hB.trans (hb.mono (by omega))).setCell (Nat.le_refl _) _).setCell (Nat.le_refl _) _, by rw [hsz']; omega⟩
  · rw [hsz']
    by_cases e : i = k
    · subst e
      rw [hL]
      refine ⟨?_, ?_, ?_⟩
      · simp [Array.getElem?_setIfInBounds, hs]; omega
      · simp [Array.getElem?_setIfInBounds, hs]; omega
      · simp only [if_pos]; exact (hu.mono (by omega) (Nat.le_refl _)).same hsame
    · obtain ⟨h1, h2, h3⟩ := hi' i (by omega)
      simp only [if_neg e]
      refine ⟨?_, ?_, ((h3.keep hb).mono (Nat.le_refl _) hsz).same hsame⟩
      · rw [Array.getElem?_setIfInBounds, if_neg (by omega), Array.getElem?_setIfInBounds, if_neg (by omega)]; exact h1
      · rw [Array.getElem?_setIfInBounds, if_neg (by omega), Array.getElem?_setIfInBounds, if_neg (by omega)]; exact h2
  · have e1 : ¬ i = k := by omega
    simp only [if_neg e1] at hbi
    by_cases e : j = k
    · subst e
      simp only [if_pos]
      intro hu'
      have h1 := (hu.1.lt b hu').1
      have h2 := (hi' i hij).2.2.2 b hbi
      omega
    · simp only [if_neg e]
      exact hd i j hij (by omega) b hbi
theorem madeT_done {w wr : World} {n : Nat} {L : List Tsk} (hn : n = L.length) (hl : L.length ≤ 1048576) (h : MadeT w w.heap.size n L n wr) : FTasks wr w.heap.size wr.heap.size (.slice (some ⟨w.heap.size, 0, none⟩) n n) L ∧ Below w.heap.size w wr := by
  subst hn
  obtain ⟨cur, rs, hg, hs, hi', hd, hB, hz⟩ := h
  exact ⟨⟨_, cur, rs, rfl, Nat.le_refl _, by omega, hl, hg, hs, fun i hi => ⟨(hi' i hi).1, (hi' i hi).2.1, (hi' i hi).2.2.mono (by omega) (Nat.le_refl _)⟩, hd⟩, hB⟩


/-! ### eqTaskS -/
def eqTB (a b : Tsk) : Bool := decide (a.needs = b.needs) && (a.time == b.time)
theorem eqTB_iff (a b : Tsk) : eqTB a b = true ↔ a = b := by
  cases a; cases b; simp [eqTB]

def eqTL : List Tsk → List Tsk → Bool
  | [], _ => true
  | _ :: _, [] => true
  | x :: xs, y :: ys => eqTB x y && eqTL xs ys
theorem eqTL_cons (x y : Tsk) (xs ys : List Tsk) : eqTL (x :: xs) (y :: ys) = (eqTB x y && eqTL xs ys) := rfl
theorem eqTL_nil (ys : List Tsk) : eqTL [] ys = true := by cases ys <;> rfl
theorem eqTL_refl (a : List Tsk) : eqTL a a = true := by
  induction a with
  | nil => rfl
  | cons x xs ih => rw [eqTL_cons, ih, (eqTB_iff x x).2 rfl]; rfl


/-! ### markTaskS -/
def totT : List Tsk → Nat
  | [] => 0
  | r :: rs => r.needs.length + 1 + totT rs
theorem totT_append (A B : List Tsk) : totT (A ++ B) = totT A + totT B := by
  induction A with
  | nil => simp [totT]
  | cons r rs ih => simp [totT, ih]; omega
theorem totT_take (L : List Tsk) (i : Nat) (h : i < L.length) : totT (L.take (i + 1)) = totT (L.take i) + (L.getD i noTsk).needs.length + 1 := by
  rw [List.take_succ_eq_append_getElem h, totT_append]; simp [totT, List.getD, List.getElem?_eq_getElem h]; omega
theorem totT_take_le (L : List Tsk) (i : Nat) : totT (L.take i) ≤ totT L := by
  have := totT_append (L.take i) (L.drop i)
  rw [List.take_append_drop] at this; omega
theorem totT_small {L : List Tsk} (h : SmallT L) : totT L ≤ 1099512676352 := by
  have : ∀ (L : List Tsk), (∀ r ∈ L, r.needs.length ≤ 1048576) → totT L ≤ L.length * 1048577 := by
    intro L
    induction L with
    | nil => intro _; simp [totT]
    | cons r rs ih =>
      intro h
      have h3 := h r (by simp)
      have h4 := ih (fun x hx => h x (by simp [hx]))
      simp only [totT, List.length_cons, Nat.succ_mul]; omega
  have h1 := this L h.2
  have h2 := h.1
  have h3 : L.length * 1048577 ≤ 1048576 * 1048577 := Nat.mul_le_mul_right _ h2
  omega

theorem FTasks.at {w : World} {lo hi g n : Nat} {L : List Tsk} (h : FTasks w lo hi (.slice (some ⟨g, 0, none⟩) n n) L) {i : Nat} (hi' : i < L.length) :
    ∃ r y, ∃ tm : Int, w.cell? ⟨g, i * 2, none⟩ = some r ∧ lo ≤ g ∧ g < hi ∧ FInts w lo hi r y ∧ Hid (L.getD i noTsk = ⟨y, tm⟩) ∧
      ∀ w1 z, ∀ q : Int, FInts w1 lo hi r z → w.grownBy w1 r.ownBlock → w1.cell? ⟨g, i * 2 + 1, none⟩ = some (.int .i64 tm) ∧ w1.frozen? ⟨g, i * 2 + 1, none⟩ = false ∧
        FTasks (w1.setCell ⟨g, i * 2 + 1, none⟩ (.int .i64 q)) lo hi (.slice (some ⟨g, 0, none⟩) n n) (L.set i ⟨z, q⟩) := by
  obtain ⟨g', cur, rs, hv, h1, h2, hl, hg, hc, hx, hd⟩ := h
  simp only [Value.slice.injEq, Option.some.injEq, Addr.mk.injEq, and_true] at hv
  obtain ⟨rfl, rfl, _⟩ := hv
  obtain ⟨k1, k2, k3⟩ := hx i hi'
  have hgs : g < w.heap.size := (Array.getElem?_eq_some_iff.1 hg).1
  refine ⟨rs i, (L.getD i noTsk).needs, (L.getD i noTsk).time, by rw [cell_of_row _ _ _ _ _ _ hg]; exact k1, h1, h2, k3, rfl, fun w1 z q hz hgr => ?_⟩
  have hne : some g ≠ (rs i).ownBlock := by
    intro e
    rcases k3.1.2 with ⟨e', _⟩ | ⟨g2, c2, cur2, e', _, hg2, _⟩
    · rw [e'] at e; simp [Value.ownBlock] at e
    · rw [e'] at e
      simp [Value.ownBlock] at e
      subst e
      rw [hg] at hg2
      simp at hg2
  have hg1 := (hgr.block g hgs hne).trans hg
  have hg2 := heap_setCell_same w1 g (i * 2 + 1) cur _ (.int .i64 q) hg1
  refine ⟨by rw [cell_of_row _ _ _ _ _ _ hg1]; exact k2, frozen_of_row _ _ _ _ _ hg1, ?_⟩
  have hsame : ∀ b, b ≠ g → (w1.setCell ⟨g, i * 2 + 1, none⟩ (.int .i64 q)).heap[b]? = w1.heap[b]? := fun b hb => heap_setCell_other _ _ _ _ hb
  have hown : ∀ b, (∃ j z', FInts w1 lo hi (rs j) z' ∧ (rs j).ownBlock = some b) → b ≠ g := by
    rintro b ⟨j, z', hf, hb⟩ rfl
    rcases hf.1.2 with ⟨e', _⟩ | ⟨g2, c2, cur2, e', _, hg3, _⟩
    · rw [e'] at hb; simp [Value.ownBlock] at hb
    · rw [e'] at hb
      simp [Value.ownBlock] at hb
      subst hb
      rw [hg1] at hg3
      simp at hg3
  refine ⟨g, _, rs, by simp, h1, h2, by simpa using hl, hg2, by simpa using hc, fun j hj => ?_, fun j k hjk hk => hd j k hjk (by simpa using hk)⟩
  rw [List.length_set] at hj
  obtain ⟨m1, m2, m3⟩ := hx j hj
  by_cases e : i = j
  · subst e
    have : (L.set i ⟨z, q⟩).getD i noTsk = ⟨z, q⟩ := by simp [List.getD, hi']
    rw [this]
    refine ⟨?_, ?_, ⟨own_same hz.1 (fun b hb => hsame b (hown b ⟨i, z, hz, hb⟩)), hz.2⟩⟩
    · rw [Array.getElem?_setIfInBounds, if_neg (by omega)]; exact m1
    · simp [Array.getElem?_setIfInBounds, hc]; omega
  · have : (L.set i ⟨z, q⟩).getD j noTsk = L.getD j noTsk := by simp [List.getD, e]
    rw [this]
    have hf1 : FInts w1 lo hi (rs j) (L.getD j noTsk).needs := ⟨own_same m3.1 (fun b hb => hgr.block b (m3.1.lt b hb).2 (fun e' => by
      by_cases hlt : i < j
      · exact hd i j hlt hj b e'.symm hb
      · exact hd j i (by omega) hi' b hb e'.symm)), m3.2⟩
    refine ⟨?_, ?_, ⟨own_same hf1.1 (fun b hb => hsame b (hown b ⟨j, _, hf1, hb⟩)), hf1.2⟩⟩
    · rw [Array.getElem?_setIfInBounds, if_neg (by omega)]; exact m1
    · rw [Array.getElem?_setIfInBounds, if_neg (by omega)]; exact m2


end Go.Proofs.Ytegeelldcomnnaa
