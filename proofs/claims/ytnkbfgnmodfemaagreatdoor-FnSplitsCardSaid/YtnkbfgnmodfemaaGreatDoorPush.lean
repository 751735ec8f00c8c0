/- One number appended to an own slice: the law as a walk wants it. -/
import Derived.Test.YtnkbfgnmodfemaaGreatDoorAppend
namespace Go.Proofs.YtnkbfgnmodfemaaGreatDoor
open Go.RowKit
open Go.Lib (hid)

theorem wpList_push_r {W0 W : World} {ops : Array Oper} {rest : List Oper} {o : Oper} {a : Act} {Q : Exit → Act → World → Prop} (hgd : o.guard = none) (s x : Operand)
    (ho : o.op = .call { callee := .builtin .append, args := #[s, x], argTypes := #[27, 27] }) (B : Nat) (v : Value) (xs : List Int) (y : Int) (hs : a.eval s = v) (hx : a.eval x = .slice (some ⟨W.heap.size, 0, none⟩) 1 1)
    (hF : FInts W B W.heap.size v xs) (hb : Below B W0 W) (hB : B ≤ W.heap.size) (m : Nat) (hm : Hid (xs.length = m)) (hl : m ≤ 1048576) (ys : List Int) (hy : Hid (xs ++ [y] = ys))
    (h : ∀ g c w', FInts w' B w'.heap.size (.slice (some ⟨g, 0, none⟩) (m + 1) c) ys → Below B W0 w' → wpList Tryz.prog ops Q rest (a.put o.dst (.slice (some ⟨g, 0, none⟩) (m + 1) c)) w') :
    wpList Tryz.prog ops Q (o :: rest) a (W.alloc (.cells #[.int .i64 y] 3)) := by
  have hm := hm.out
  subst hm
  have hy := hy.out
  subst hy
  obtain ⟨p1, p2, p3⟩ := push_pre hF y
  refine wpList_append_ints hgd s x ho B _ v _ xs [y] hs hx p1 p2 (by simp; omega) (by simp; omega) ?_
  intro v' w' h1 h2 _
  obtain ⟨av, cv, rfl⟩ := h1.form
  have h3 := h1
  obtain ⟨g, _, rfl, _⟩ := h1.at (i := 0) (by simp)
  have e : (xs ++ [y]).length = xs.length + 1 := by simp
  rw [e] at h3 ⊢
  exact h g cv w' h3 (hb.trans ((push_post hF h2).below (Nat.le_refl _) hB))

end Go.Proofs.YtnkbfgnmodfemaaGreatDoor
