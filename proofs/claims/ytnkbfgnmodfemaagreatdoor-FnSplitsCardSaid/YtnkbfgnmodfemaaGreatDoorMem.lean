/- Predicates on memory: what a slice of ints, and a slice of slices of ints, reads as; how these facts are kept; lemmas on lists. -/
import Derived.Test.YtnkbfgnmodfemaaGreatDoorRows
import Derived.WalkKit
import Derived.WalkSpells
import Derived.WalkLawsBesides
import Derived.Lib.Hide
import Derived.Deep.OwnRows
import Derived.Deep.Draws
namespace Go.Proofs.YtnkbfgnmodfemaaGreatDoor
open Go.RowKit
open Go.Lib (hid)

/-! ### Reading -/

/-- v is a slice that reads as the ints xs. -/
def RInts (w : World) (v : Value) (xs : List Int) : Prop :=
  ∃ a cap, v = .slice a xs.length cap ∧ xs.length ≤ cap ∧ cap ≤ maxLen ∧
    ∀ i, i < xs.length → ∃ g o, a = some ⟨g, o, none⟩ ∧ w.cell? ⟨g, o + i, none⟩ = some (.int .i64 (xs.getD i 0))

/-- v is a slice of slices that reads as M. -/
def RMat (w : World) (v : Value) (M : List (List Int)) : Prop :=
  ∃ a cap, v = .slice a M.length cap ∧ M.length ≤ cap ∧ cap ≤ maxLen ∧
    ∀ i, i < M.length → ∃ g o r, a = some ⟨g, o, none⟩ ∧ w.cell? ⟨g, o + i, none⟩ = some r ∧ RInts w r (M.getD i [])

theorem drop_cons {α : Type} (l : List α) (d : α) (k : Nat) (h : k < l.length) : l.drop k = l.getD k d :: l.drop (k + 1) := by
  rw [List.drop_eq_getElem_cons h]; simp [List.getD, List.getElem?_eq_getElem h]

/-- what a round of a loop over ints wants at index k -/
theorem ints_at {w : World} {a : Option Addr} {xs : List Int} (hc : ∀ i, i < xs.length → ∃ g o, a = some ⟨g, o, none⟩ ∧ w.cell? ⟨g, o + i, none⟩ = some (.int .i64 (xs.getD i 0))) {k : Nat} (hk : k < xs.length) :
    ∃ g o x, a = some ⟨g, o, none⟩ ∧ w.cell? ⟨g, o + k, none⟩ = some (.int .i64 x) ∧ Hid (xs.drop k = x :: xs.drop (k + 1)) ∧ Hid (xs.getD k 0 = x) := by
  obtain ⟨g, o, h1, h2⟩ := hc k hk
  exact ⟨g, o, _, h1, h2, drop_cons xs 0 k hk, rfl⟩

theorem mat_at {w : World} {a : Option Addr} {M : List (List Int)} (hc : ∀ i, i < M.length → ∃ g o r, a = some ⟨g, o, none⟩ ∧ w.cell? ⟨g, o + i, none⟩ = some r ∧ RInts w r (M.getD i [])) {k : Nat} (hk : k < M.length) :
    ∃ g o r x, a = some ⟨g, o, none⟩ ∧ w.cell? ⟨g, o + k, none⟩ = some r ∧ RInts w r x ∧ Hid (M.drop k = x :: M.drop (k + 1)) ∧ Hid (M.getD k [] = x) := by
  obtain ⟨g, o, r, h1, h2, h3⟩ := hc k hk
  exact ⟨g, o, r, _, h1, h2, h3, drop_cons M [] k hk, rfl⟩

theorem cell_lt {w : World} {g o : Nat} {v : Value} (h : w.cell? ⟨g, o, none⟩ = some v) : g < w.heap.size := World.block_lt_of_cell? w ⟨g, o, none⟩ h

theorem cell_new (w : World) (v : Value) (t : TypeId) : (w.alloc (.cells #[v] t)).cell? ⟨w.heap.size, 0, none⟩ = some v := by
  rw [cell_of_row _ _ _ #[v] t (0, 0) (heap_alloc_new w _)]; rfl

theorem cell_q {w wr : World} {q : Nat} (h : wr = w.drewN q) {p : Addr} {x : Value} (hc : w.cell? p = some x) : wr.cell? p = some x := by rw [h]; exact hc
theorem below_q {w wr W : World} {q B : Nat} (h : wr = w.drewN q) (hb : Below B W w) (k : Nat) : Below B W (wr.drewN k) := by
  rw [h]; exact ⟨hb.os, hb.tape, hb.output, hb.size, hb.block⟩
theorem drew_q {w wr : World} {q : Nat} (h : wr = w.drewN q) (k : Nat) : wr.drewN k = w.drewN (q + k) := by rw [h]; exact World.drewN_drewN _ _ _

theorem below_of_drew {w w' : World} {B : Nat} (h : Below B w.drew w') : Below B w w' := ⟨h.os, h.tape, h.output, h.size, h.block⟩

theorem RInts.keep {w w' : World} {v : Value} {xs : List Int} (h : RInts w v xs) (hb : Below w.heap.size w w') : RInts w' v xs := by
  obtain ⟨a, cap, rfl, h1, h2, hc⟩ := h
  refine ⟨a, cap, rfl, h1, h2, fun i hi => ?_⟩
  obtain ⟨g, o, ha, hcell⟩ := hc i hi
  exact ⟨g, o, ha, by rw [hb.cell (p := ⟨g, o + i, none⟩) (cell_lt hcell)]; exact hcell⟩

theorem RMat.keep {w w' : World} {v : Value} {M : List (List Int)} (h : RMat w v M) (hb : Below w.heap.size w w') : RMat w' v M := by
  obtain ⟨a, cap, rfl, h1, h2, hc⟩ := h
  refine ⟨a, cap, rfl, h1, h2, fun i hi => ?_⟩
  obtain ⟨g, o, r, ha, hcell, hr⟩ := hc i hi
  exact ⟨g, o, r, ha, by rw [hb.cell (p := ⟨g, o + i, none⟩) (cell_lt hcell)]; exact hcell, hr.keep hb⟩

theorem RInts.drewN {w : World} {v : Value} {xs : List Int} {n : Nat} (h : RInts w v xs) : RInts (w.drewN n) v xs := h
theorem RMat.drewN {w : World} {v : Value} {xs : List (List Int)} {n : Nat} (h : RMat w v xs) : RMat (w.drewN n) v xs := h
theorem RInts.len {w : World} {v : Value} {xs : List Int} (h : RInts w v xs) : xs.length ≤ 9223372036854775807 := by
  obtain ⟨a, cap, rfl, h1, h2, hc⟩ := h; unfold maxLen at h2; omega
theorem RMat.len {w : World} {v : Value} {xs : List (List Int)} (h : RMat w v xs) : xs.length ≤ 9223372036854775807 := by
  obtain ⟨a, cap, rfl, h1, h2, hc⟩ := h; unfold maxLen at h2; omega

/-- a slice of literal numbers in a new block -/
theorem rints_new (w : World) (xs : List Int) (hx : xs.length ≤ 1048576) : RInts (w.alloc (.cells (xs.map (Value.int .i64)).toArray 3)) (.slice (some ⟨w.heap.size, 0, none⟩) xs.length xs.length) xs := by
  refine ⟨_, _, rfl, Nat.le_refl _, by unfold maxLen; omega, fun i hi => ⟨_, _, rfl, ?_⟩⟩
  rw [cell_of_row _ _ _ _ 3 (0, 0) (heap_alloc_new w _)]
  simp [List.getD, hi]

/-! ### Memory of the call's own -/

/-- Blocks from lo on and below hi alone may have been written; the rest is as it was. -/
structure Touch (lo hi : Nat) (w w' : World) : Prop where
  os : w'.os = w.os
  tape : w'.tape = w.tape
  output : w'.output = w.output
  size : w.heap.size ≤ w'.heap.size
  block : ∀ b, b < w.heap.size → ¬ (lo ≤ b ∧ b < hi) → w'.heap[b]? = w.heap[b]?

theorem Touch.below {lo hi B : Nat} {w w' : World} (h : Touch lo hi w w') (hB : B ≤ lo) (hs : B ≤ w.heap.size) : Below B w w' :=
  ⟨h.os, h.tape, h.output, h.size, fun k hk => h.block k (by omega) (by omega)⟩
theorem Touch.of_below {lo hi : Nat} {w w' : World} (h : Below w.heap.size w w') : Touch lo hi w w' :=
  ⟨h.os, h.tape, h.output, h.size, fun k hk _ => h.block k hk⟩
theorem Touch.of_grown {lo hi : Nat} {w w' : World} {row : Option Nat} (h : w.grownBy w' row) (hr : ∀ k, row = some k → lo ≤ k ∧ k < hi) : Touch lo hi w w' :=
  ⟨h.os, h.tape, h.output, h.size, fun k hk hn => h.block k hk (fun e => hn (hr k e.symm))⟩
theorem Touch.refl (lo hi : Nat) (w : World) : Touch lo hi w w := ⟨rfl, rfl, rfl, Nat.le_refl _, fun _ _ _ => rfl⟩
theorem Touch.trans {lo hi : Nat} {a b c : World} (h : Touch lo hi a b) (k : Touch lo hi b c) : Touch lo hi a c :=
  ⟨k.os.trans h.os, k.tape.trans h.tape, k.output.trans h.output, Nat.le_trans h.size k.size, fun i hi hn => (k.block i (Nat.lt_of_lt_of_le hi h.size) hn).trans (h.block i hi hn)⟩
theorem Touch.mono {lo hi lo' hi' : Nat} {w w' : World} (h : Touch lo hi w w') (h1 : lo' ≤ lo) (h2 : hi ≤ hi') : Touch lo' hi' w w' :=
  ⟨h.os, h.tape, h.output, h.size, fun b hb hn => h.block b hb (fun hh => hn ⟨by omega, by omega⟩)⟩
theorem Touch.drew {lo hi : Nat} {a w : World} (h : Touch lo hi a w) : Touch lo hi a w.drew := ⟨h.os, h.tape, h.output, h.size, h.block⟩
theorem Touch.drewN {lo hi n : Nat} {a w : World} (h : Touch lo hi a w) : Touch lo hi a (w.drewN n) := ⟨h.os, h.tape, h.output, h.size, h.block⟩

/-- v is a slice of ints, whole in a block of its own from lo on and below hi, and reads as xs. -/
def FInts (w : World) (lo hi : Nat) (v : Value) (xs : List Int) : Prop :=
  w.ownsRow lo 3 1 v xs.length (xs.map (Value.int .i64)) ∧ ∀ g, v.ownBlock = some g → g < hi

/-- v is a slice of slices of ints, each in a block of its own from lo on and below hi, and reads as M. -/
def FMat (w : World) (lo hi : Nat) (v : Value) (M : List (List Int)) : Prop :=
  ∃ vs : List Value, w.ownsRow lo 27 1 v M.length vs ∧ (∀ g, v.ownBlock = some g → g < hi) ∧ vs.length = M.length ∧
    (∀ i, i < M.length → FInts w lo hi (vs.getD i .nilFunc) (M.getD i [])) ∧
    ∀ i j, i < j → j < M.length → ∀ g, (vs.getD i .nilFunc).ownBlock = some g → (vs.getD j .nilFunc).ownBlock ≠ some g

theorem own_form {w : World} {lo : Nat} {e : TypeId} {v : Value} {n : Nat} {xs : List Value} (h : w.ownsRow lo e 1 v n xs) :
    ∃ a cap, v = .slice a n cap ∧ n ≤ cap ∧ cap ≤ maxLen ∧ xs.length = n ∧ (a = none → n = 0) ∧ ∀ i, i < n → ∃ g, a = some ⟨g, 0, none⟩ ∧ lo ≤ g ∧ g < w.heap.size ∧ w.cell? ⟨g, i, none⟩ = xs[i]? ∧ w.frozen? ⟨g, i, none⟩ = false := by
  have h1 := h.1
  rcases h.2 with ⟨rfl, rfl⟩ | ⟨g, cap, cur, rfl, hb, hg, hnc, hcm, hcs, htake⟩
  · exact ⟨none, 0, rfl, Nat.le_refl _, by unfold maxLen; omega, by simpa using h1, fun _ => rfl, fun i hi => by omega⟩
  · refine ⟨_, cap, rfl, hnc, hcm, by simpa using h1, (fun e => by cases e), fun i hi => ⟨g, rfl, hb, (Array.getElem?_eq_some_iff.1 hg).1, ?_, frozen_of_row w g i cur e hg⟩⟩
    exact h.cellAt i (by omega)

theorem FInts.r {w : World} {lo hi : Nat} {v : Value} {xs : List Int} (h : FInts w lo hi v xs) : RInts w v xs := by
  obtain ⟨a, cap, rfl, h1, h2, h3, _, h4⟩ := own_form h.1
  refine ⟨a, cap, rfl, h1, h2, fun i hi => ?_⟩
  obtain ⟨g, ha, _, _, hc, _⟩ := h4 i hi
  refine ⟨g, 0, ha, ?_⟩
  rw [Nat.zero_add, hc]
  simp [List.getD, List.getElem?_eq_getElem hi]

theorem FInts.form {w : World} {lo hi : Nat} {v : Value} {xs : List Int} (h : FInts w lo hi v xs) : ∃ a cap, v = .slice a xs.length cap := by
  obtain ⟨a, cap, rfl, _⟩ := own_form h.1; exact ⟨a, cap, rfl⟩
/-- its form, the length behind a name -/
theorem FInts.form3 {w : World} {lo hi : Nat} {v : Value} {xs : List Int} (h : FInts w lo hi v xs) : ∃ a n cap, v = .slice a n cap := by
  obtain ⟨a, cap, rfl⟩ := h.form; exact ⟨a, _, cap, rfl⟩
theorem FMat.form {w : World} {lo hi : Nat} {v : Value} {M : List (List Int)} (h : FMat w lo hi v M) : ∃ a cap, v = .slice a M.length cap := by
  obtain ⟨vs, h0, _⟩ := h
  obtain ⟨a, cap, rfl, _⟩ := own_form h0; exact ⟨a, cap, rfl⟩
theorem FMat.form3 {w : World} {lo hi : Nat} {v : Value} {M : List (List Int)} (h : FMat w lo hi v M) : ∃ a n cap, v = .slice a n cap := by
  obtain ⟨a, cap, rfl⟩ := h.form; exact ⟨a, _, cap, rfl⟩
theorem FMat.r {w : World} {lo hi : Nat} {v : Value} {M : List (List Int)} (h : FMat w lo hi v M) : RMat w v M := by
  obtain ⟨vs, h0, _, hl, hr, _⟩ := h
  obtain ⟨a, cap, rfl, h1, h2, h3, _, h4⟩ := own_form h0
  refine ⟨a, cap, rfl, h1, h2, fun i hi => ?_⟩
  obtain ⟨g, ha, _, _, hc, _⟩ := h4 i hi
  refine ⟨g, 0, vs.getD i .nilFunc, ha, ?_, (hr i hi).r⟩
  rw [Nat.zero_add, hc]
  simp [List.getD, List.getElem?_eq_getElem (show i < vs.length by omega)]

theorem own_same {w w' : World} {lo : Nat} {e : TypeId} {v : Value} {n : Nat} {xs : List Value} (h : w.ownsRow lo e 1 v n xs) (hs : ∀ g, v.ownBlock = some g → w'.heap[g]? = w.heap[g]?) : w'.ownsRow lo e 1 v n xs := by
  refine ⟨h.1, ?_⟩
  rcases h.2 with h2 | ⟨g, cap, cur, rfl, hb, hg, r⟩
  · exact Or.inl h2
  · exact Or.inr ⟨g, cap, cur, rfl, hb, (hs g rfl).trans hg, r⟩

theorem own_mono {w : World} {lo lo' : Nat} {e : TypeId} {v : Value} {n : Nat} {xs : List Value} (h : w.ownsRow lo e 1 v n xs) (hl : lo' ≤ lo) : w.ownsRow lo' e 1 v n xs := by
  refine ⟨h.1, ?_⟩
  rcases h.2 with h2 | ⟨g, cap, cur, rfl, hb, r⟩
  · exact Or.inl h2
  · exact Or.inr ⟨g, cap, cur, rfl, by omega, r⟩

/-- what lies in [lo, hi) is as it was -/
def Same (lo hi : Nat) (w w' : World) : Prop := ∀ b, lo ≤ b → b < hi → b < w.heap.size → w'.heap[b]? = w.heap[b]?
theorem Same.of_below {lo hi : Nat} {w w' : World} (h : Below w.heap.size w w') : Same lo hi w w' := fun b _ _ h3 => h.block b h3
theorem Same.of_touch {lo hi a b : Nat} {w w' : World} (h : Touch a b w w') (hd : hi ≤ a ∨ b ≤ lo) : Same lo hi w w' := fun k _ _ h3 => h.block k h3 (by omega)
theorem Same.of_belowB {lo hi B : Nat} {w w' : World} (h : Below B w w') (hB : hi ≤ B) : Same lo hi w w' := fun k _ h2 _ => h.block k (by omega)

theorem FInts.same {w w' : World} {lo hi : Nat} {v : Value} {xs : List Int} (h : FInts w lo hi v xs) (hs : Same lo hi w w') : FInts w' lo hi v xs :=
  ⟨own_same h.1 (fun g hg => hs g (h.1.lt g hg).1 (h.2 g hg) (h.1.lt g hg).2), h.2⟩
theorem FMat.same {w w' : World} {lo hi : Nat} {v : Value} {M : List (List Int)} (h : FMat w lo hi v M) (hs : Same lo hi w w') : FMat w' lo hi v M := by
  obtain ⟨vs, h0, h1, hl, hr, hd⟩ := h
  exact ⟨vs, own_same h0 (fun g hg => hs g (h0.lt g hg).1 (h1 g hg) (h0.lt g hg).2), h1, hl, fun i hi => (hr i hi).same hs, hd⟩
theorem FInts.keep {w w' : World} {lo hi : Nat} {v : Value} {xs : List Int} (h : FInts w lo hi v xs) (hb : Below w.heap.size w w') : FInts w' lo hi v xs := h.same (.of_below hb)
theorem FMat.keep {w w' : World} {lo hi : Nat} {v : Value} {M : List (List Int)} (h : FMat w lo hi v M) (hb : Below w.heap.size w w') : FMat w' lo hi v M := h.same (.of_below hb)
theorem FInts.mono {w : World} {lo hi lo' hi' : Nat} {v : Value} {xs : List Int} (h : FInts w lo hi v xs) (h1 : lo' ≤ lo) (h2 : hi ≤ hi') : FInts w lo' hi' v xs :=
  ⟨own_mono h.1 h1, fun g hg => Nat.lt_of_lt_of_le (h.2 g hg) h2⟩
theorem FMat.mono {w : World} {lo hi lo' hi' : Nat} {v : Value} {M : List (List Int)} (h : FMat w lo hi v M) (h1 : lo' ≤ lo) (h2 : hi ≤ hi') : FMat w lo' hi' v M := by
  obtain ⟨vs, h0, h3, hl, hr, hd⟩ := h
  exact ⟨vs, own_mono h0 h1, fun g hg => Nat.lt_of_lt_of_le (h3 g hg) h2, hl, fun i hi => (hr i hi).mono h1 h2, hd⟩
theorem FInts.drewN {w : World} {lo hi n : Nat} {v : Value} {xs : List Int} (h : FInts w lo hi v xs) : FInts (w.drewN n) lo hi v xs := h
theorem FMat.drewN {w : World} {lo hi n : Nat} {v : Value} {M : List (List Int)} (h : FMat w lo hi v M) : FMat (w.drewN n) lo hi v M := h

/-- a result in new memory -/
def RetInts (w : World) (xs : List Int) (e : Ending) (w' : World) : Prop := ∃ v, e = .returned v ∧ FInts w' w.heap.size w'.heap.size v xs ∧ Below w.heap.size w w'
def RetMat (w : World) (M : List (List Int)) (e : Ending) (w' : World) : Prop := ∃ v, e = .returned v ∧ FMat w' w.heap.size w'.heap.size v M ∧ Below w.heap.size w w'

theorem Tryz.infoInt : (Tryz.prog.info? 3).map (fun i => (i.zero, i.size, i.bytes)) = some (some (.int .i64 0), 1, 8) := by kernel_rfl
theorem Tryz.infoInts : (Tryz.prog.info? 27).map (fun i => (i.zero, i.size, i.bytes)) = some (some (.slice none 0 0), 1, 24) := by kernel_rfl

/-- a slice of n ints in its own block g, its first cells xs, the rest 0 -/
theorem set_mid (xs : List Int) (k : Nat) (hk : k < xs.length) (n : Nat) (hn : n = xs.length) :
    (((xs.take k ++ List.replicate (n - k) 0).map (Value.int .i64)).set k (.int .i64 (xs.getD k 0))) = (xs.take (k + 1) ++ List.replicate (n - (k + 1)) 0).map (Value.int .i64) := by
  subst hn
  apply List.ext_getElem?
  intro i
  simp only [List.getElem?_set, List.length_map, List.length_append, List.length_take, List.length_replicate, List.getElem?_map, List.getElem?_append, List.getElem?_take, List.getElem?_replicate]
  have h1 : min k xs.length = k := by omega
  have h2 : min (k + 1) xs.length = k + 1 := by omega
  rw [h1, h2]
  by_cases hik : k = i
  · subst hik
    simp [List.getD, hk, show k < k + (xs.length - k) by omega]
  · by_cases hlt : i < k
    · simp [hik, hlt, show i < k + 1 by omega]
    · simp only [hik, hlt, show ¬ i < k + 1 by omega, if_false]
      by_cases hin : i < xs.length
      · simp [show i - k < xs.length - k by omega, show i - (k + 1) < xs.length - (k + 1) by omega]
      · simp [show ¬ i - k < xs.length - k by omega, show ¬ i - (k + 1) < xs.length - (k + 1) by omega]

end Go.Proofs.YtnkbfgnmodfemaaGreatDoor
