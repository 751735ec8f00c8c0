/- Reduced divisors: the reference's rdReduce. -/
import Derived.Test.YtifdhapaonideaaBurn
namespace Go.Proofs.Ytifdhapaonideaa
open Go.RowKit
open Go.Lib (hid)

/-- a reduced divisor and some script -/
def RetRed (w : World) (xs : List Int) (e : Ending) (w' : World) : Prop := ∃ v s, e = .returned (.tuple #[v, s]) ∧ RInts w' v xs ∧ Below w.heap.size w w'

theorem pay_step {n q : Nat} {L : List Lnk} {hG : GoodL n L} (W : (grL n L hG).Wt q) {S : Int} {g : Nat → Int} (h : Gr.Inv1 (grL n L hG) S g) (hc : (grL n L hG).owes q g = true) :
    Gr.loopW ((grL n L hG).owes q) ((grL n L hG).p1 q) (Gr.mu1 W g) g = Gr.loopW ((grL n L hG).owes q) ((grL n L hG).p1 q) (Gr.mu1 W ((grL n L hG).p1 q g)) ((grL n L hG).p1 q g) ∧ Gr.Inv1 (grL n L hG) S ((grL n L hG).p1 q g) ∧ Gr.mu1 W ((grL n L hG).p1 q g) < Gr.mu1 W g :=
  ⟨Gr.loopW_yes (Gr.step1 W S) h hc, (Gr.step1 W S g h hc).1, (Gr.step1 W S g h hc).2⟩
theorem win_step {n q : Nat} {L : List Lnk} {hG : GoodL n L} (W : (grL n L hG).Wt q) {S : Int} {g : Nat → Int} (h : Gr.Inv2 (grL n L hG) q S g) (hc : (grL n L hG).more q g = true) :
    Gr.loopW ((grL n L hG).more q) ((grL n L hG).p2 q) (Gr.mu2 W g) g = Gr.loopW ((grL n L hG).more q) ((grL n L hG).p2 q) (Gr.mu2 W ((grL n L hG).p2 q g)) ((grL n L hG).p2 q g) ∧ Gr.Inv2 (grL n L hG) q S ((grL n L hG).p2 q g) ∧ Gr.mu2 W ((grL n L hG).p2 q g) < Gr.mu2 W g ∧ g q ≤ (grL n L hG).p2 q g q :=
  ⟨Gr.loopW_yes (Gr.step2 W S) h hc, (Gr.step2 W S g h hc).1, (Gr.step2 W S g h hc).2, Gr.fA_ma _ ((grL n L hG).burnt_spec g q).1⟩
theorem inv1_range {n : Nat} {L : List Lnk} {hG : GoodL n L} {S : Int} {g : Nat → Int} (h : Gr.Inv1 (grL n L hG) S g) (hS : -320 ≤ S ∧ S ≤ 320) {v : Nat} (hv : v < n) : -600 ≤ g v ∧ g v ≤ 40 := by
  have h1 := h.up v hv
  have h2 := h.low (v := v) hv
  omega
theorem inv2_range {n q : Nat} {L : List Lnk} {hG : GoodL n L} {S : Int} {g : Nat → Int} (h : Gr.Inv2 (grL n L hG) q S g) (hS : -320 ≤ S ∧ S ≤ 320) (hq : q < n) (h0 : -700 ≤ g q) {v : Nat} (hv : v < n) : -700 ≤ g v ∧ g v ≤ 1020 := by
  have h1 := sumN_but g hq
  have h2 : sumN n g = S := h.sum
  have hnn : ∀ i, i < n → 0 ≤ (if i = q then 0 else g i) := fun i hi => by
    by_cases e : i = q
    · rw [if_pos e]; exact Int.le_refl _
    · rw [if_neg e]; exact h.pos i hi e
  have h3 : 0 ≤ sumN n (fun i => if i = q then 0 else g i) := sumN_nonneg hnn
  by_cases e : v = q
  · rw [e]; omega
  · have h4 := h.pos v hv e
    have h5 := le_sumN (f := fun i => if i = q then 0 else g i) hv (fun i hi _ => hnn i hi)
    rw [if_neg e] at h5
    omega
theorem prod_bound {t m T M : Int} (h1 : 0 ≤ t) (h2 : t ≤ T) (h3 : -M ≤ m) (h4 : m ≤ M) (hM : 0 ≤ M) : -(T * M) ≤ t * m ∧ t * m ≤ T * M := by
  have a1 : t * m ≤ t * M := Int.mul_le_mul_of_nonneg_left h4 h1
  have a2 : t * M ≤ T * M := Int.mul_le_mul_of_nonneg_right h2 hM
  have a3 : t * (-M) ≤ t * m := Int.mul_le_mul_of_nonneg_left h3 h1
  rw [Int.mul_neg] at a3
  omega
/-- the first j are done -/
def partF (f g : Nat → Int) (j : Nat) : Nat → Int := fun i => if i < j then g i else f i
theorem part_zero (n : Nat) (f g : Nat → Int) : lst n (partF f g 0) = lst n f := lst_congr (fun i _ => by unfold partF; rw [if_neg (by omega)])
theorem part_all (n : Nat) (f g : Nat → Int) : lst n (partF f g n) = lst n g := lst_congr (fun i hi => by unfold partF; rw [if_pos hi])
theorem part_at (f g : Nat → Int) (j : Nat) : partF f g j j = f j := by unfold partF; rw [if_neg (Nat.lt_irrefl j)]
theorem part_set (n : Nat) (f g : Nat → Int) {j : Nat} {y : Int} (hy : y = g j) : lst n (upd (partF f g j) j y) = lst n (partF f g (j + 1)) := lst_congr (fun i _ => by
  unfold upd partF
  by_cases e : i = j
  · subst e; rw [if_pos rfl, if_pos (by omega), hy]
  · rw [if_neg e]
    by_cases e2 : i < j
    · rw [if_pos e2, if_pos (by omega)]
    · rw [if_neg e2, if_neg (by omega)])

end Go.Proofs.Ytifdhapaonideaa
