/- What is drawn: a cursor, and what its steps leave as it was. -/
import Derived.Test.YtnkbfgnmodfemaaGreatDoorCur
import Derived.Test.YtnkbfgnmodfemaaGreatDoorMark
import Derived.Test.YtnkbfgnmodfemaaGreatDoorPush
namespace Go.Proofs.YtnkbfgnmodfemaaGreatDoor
open Go.RowKit
open Go.Lib (hid)

/-- only the cursor's block and what is new from lo on is written -/
structure Dr (b lo : Nat) (w w' : World) : Prop where
  os : w'.os = w.os
  tape : w'.tape = w.tape
  output : w'.output = w.output
  size : w.heap.size ≤ w'.heap.size
  block : ∀ c, c < lo → c ≠ b → w'.heap[c]? = w.heap[c]?
theorem Dr.refl (b lo : Nat) (w : World) : Dr b lo w w := ⟨rfl, rfl, rfl, Nat.le_refl _, fun _ _ _ => rfl⟩
theorem Dr.trans {b lo : Nat} {w w1 w2 : World} (h : Dr b lo w w1) (k : Dr b lo w1 w2) : Dr b lo w w2 :=
  ⟨k.os.trans h.os, k.tape.trans h.tape, k.output.trans h.output, Nat.le_trans h.size k.size, fun c h1 h2 => (k.block c h1 h2).trans (h.block c h1 h2)⟩
theorem Dr.low {b lo lo' : Nat} {w w' : World} (h : Dr b lo w w') (hl : lo' ≤ lo) : Dr b lo' w w' := ⟨h.os, h.tape, h.output, h.size, fun c h1 h2 => h.block c (by omega) h2⟩
theorem Dr.touch {b lo : Nat} {a w w' : World} (h : Dr b lo a w) (hlo : lo ≤ a.heap.size) (k : Touch b (b + 1) w w') : Dr b lo a w' :=
  h.trans ⟨k.os, k.tape, k.output, k.size, fun c h1 h2 => k.block c (by have := h.size; omega) (by omega)⟩
theorem Dr.below {b lo : Nat} {a w w' : World} (h : Dr b lo a w) (k : Below lo w w') : Dr b lo a w' :=
  h.trans ⟨k.os, k.tape, k.output, k.size, fun c h1 _ => k.block c h1⟩
theorem Cur.low {w w' : World} {b k : Nat} (h : Cur w b k) (hb : Below (b + 1) w w') : Cur w' b k := by
  obtain ⟨a, n, cap, at_, sd, h1, h2, h3, h4, h5, h6, h7, h8, h9⟩ := h
  refine ⟨a, n, cap, at_, sd, (hb.block _ (by omega)).trans h1, h2, h3, h4, h5, h6, h7, h8, fun i hi => ?_⟩
  obtain ⟨g, o, x, ha, hg, hc, hx⟩ := h9 i hi
  exact ⟨g, o, x, ha, hg, (hb.cell (p := ⟨g, o + i, none⟩) (show g < b + 1 by omega)).trans hc, hx⟩

theorem wpList_push_dr {W0 W : World} {ops : Array Oper} {rest : List Oper} {o : Oper} {a : Act} {Q : Exit → Act → World → Prop} (hgd : o.guard = none) (s x : Operand)
    (ho : o.op = .call { callee := .builtin .append, args := #[s, x], argTypes := #[27, 27] }) (b k lo : Nat) (v : Value) (xs : List Int) (y : Int) (hs : a.eval s = v) (hx : a.eval x = .slice (some ⟨W.heap.size, 0, none⟩) 1 1)
    (hF : FInts W lo W.heap.size v xs) (hd : Dr b lo W0 W) (hC : Cur W b k) (hb : b < lo) (hlo : lo ≤ W.heap.size) (m : Nat) (hm : Hid (xs.length = m)) (hl : m ≤ 1048576)
    (h : ∀ g c w', FInts w' lo w'.heap.size (.slice (some ⟨g, 0, none⟩) (m + 1) c) (xs ++ [y]) → Dr b lo W0 w' → Cur w' b k → lo ≤ w'.heap.size → wpList Tryz.prog ops Q rest (a.put o.dst (.slice (some ⟨g, 0, none⟩) (m + 1) c)) w') :
    wpList Tryz.prog ops Q (o :: rest) a (W.alloc (.cells #[.int .i64 y] 3)) :=
  wpList_push_r (W0 := W) hgd s x ho lo v xs y hs hx hF (Below.refl _ _) hlo m hm hl (xs ++ [y]) (hid rfl) fun g c w' h1 h2 =>
    h g c w' h1 (hd.below h2) (hC.low (h2.mono hb)) (Nat.le_trans hlo h2.size)
theorem FInts.tch {w w' : World} {lo b : Nat} {v : Value} {xs : List Int} (h : FInts w lo w.heap.size v xs) (ht : Touch b (b + 1) w w') (hb : b < lo) : FInts w' lo w'.heap.size v xs :=
  (h.same (.of_touch ht (.inr hb))).mono (Nat.le_refl _) ht.size
theorem FInts.grw {w w' : World} {lo : Nat} {v : Value} {xs : List Int} (h : FInts w lo w.heap.size v xs) (hb : Below w.heap.size w w') : FInts w' lo w'.heap.size v xs :=
  (h.keep hb).mono (Nat.le_refl _) hb.size

/-- drawn numbers -/
def RetNumsL (b k lo : Nat) (w : World) (e : Ending) (w' : World) : Prop := ∃ (v : Value) (xs : List Int), e = .returned v ∧ xs.length ≤ 20 ∧ FInts w' lo w'.heap.size v xs ∧ Cur w' b k ∧ Dr b lo w w'
def RetNums (b k : Nat) (w : World) : Ending → World → Prop := RetNumsL b k w.heap.size w
theorem retNums_mk {b k lo : Nat} {w w' : World} {v : Value} (xs : List Int) (h1 : xs.length ≤ 20) (h2 : FInts w' lo w'.heap.size v xs) (h3 : Cur w' b k) (h4 : Dr b lo w w') : RetNumsL b k lo w (.returned v) w' := ⟨v, xs, rfl, h1, h2, h3, h4⟩

/-- a new cursor -/
theorem cur_new {w : World} {v : Value} {n : Nat} (h : RBytes w v n) : Cur (w.alloc (.cells #[v, .int .i64 0, .int .u64 0] 51)) w.heap.size 0 := by
  obtain ⟨a, cap, rfl, h1, h2, hc⟩ := h
  refine ⟨a, n, cap, 0, 0, heap_alloc_new w _, Int.le_refl _, Int.le_refl _, h1, h1, h2, Int.le_refl _, by decide, fun i hi => ?_⟩
  obtain ⟨g, o, x, rfl, hcell, hx⟩ := hc i hi
  have hlt := cell_lt hcell
  refine ⟨g, o, x, rfl, hlt, ?_, hx⟩
  rw [((Below.refl w.heap.size w).alloc (Nat.le_refl _) _).cell (p := ⟨g, o + i, none⟩) hlt]; exact hcell
theorem RBytes.keep {w w' : World} {v : Value} {n : Nat} (h : RBytes w v n) (hb : Below w.heap.size w w') : RBytes w' v n := by
  obtain ⟨a, cap, rfl, h1, h2, hc⟩ := h
  refine ⟨a, cap, rfl, h1, h2, fun i hi => ?_⟩
  obtain ⟨g, o, x, ha, hcell, hx⟩ := hc i hi
  exact ⟨g, o, x, ha, by rw [hb.cell (p := ⟨g, o + i, none⟩) (cell_lt hcell)]; exact hcell, hx⟩
theorem RBytes.form {w : World} {v : Value} {n : Nat} (h : RBytes w v n) : ∃ a cap, v = .slice a n cap ∧ n ≤ cap ∧ cap ≤ maxLen := by
  obtain ⟨a, cap, rfl, h1, h2, _⟩ := h; exact ⟨a, cap, rfl, h1, h2⟩
/-- what is drawn with a new cursor touches nothing that was there -/
theorem Dr.fresh {w w' : World} {o : Obj} (h : Dr w.heap.size (w.alloc o).heap.size (w.alloc o) w') : Below w.heap.size w w' := by
  have ha := (Below.refl w.heap.size w).alloc (Nat.le_refl _) o
  have hs := ha.size
  exact ha.trans ⟨h.os, h.tape, h.output, h.size, fun c hc => h.block c (by omega) (by omega)⟩
theorem FInts.dr {w w' : World} {lo b : Nat} {v : Value} {xs : List Int} (h : FInts w lo w.heap.size v xs) (hd : Dr b w.heap.size w w') (hb : b < lo) : FInts w' lo w'.heap.size v xs :=
  (h.same (fun k h1 h2 _ => hd.block k h2 (by omega))).mono (Nat.le_refl _) hd.size


theorem Dr.touch0 {b lo : Nat} {w w' : World} (k : Touch b (b + 1) w w') (hlo : lo ≤ w.heap.size) : Dr b lo w w' := (Dr.refl b lo w).touch hlo k
end Go.Proofs.YtnkbfgnmodfemaaGreatDoor
