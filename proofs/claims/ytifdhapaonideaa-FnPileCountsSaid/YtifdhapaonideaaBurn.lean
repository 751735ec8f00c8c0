/- The fire: the reference's rdOwes and rdBurnt. -/
import Derived.Test.YtifdhapaonideaaRankS2
import Derived.Test.YtifdhapaonideaaPut2
namespace Go.Proofs.Ytifdhapaonideaa
open Go.RowKit
open Go.Lib (hid)

/-- the edges to the marked ones -/
def edgS (L : List Lnk) (v : Nat) (l : List Int) : Int := (l.map fun x => mulL L v x.toNat).sum
theorem edgS_snoc (L : List Lnk) (v : Nat) (l : List Int) (x : Int) : edgS L v (l ++ [x]) = edgS L v l + mulL L v x.toNat := by simp [edgS]
theorem edgS_setL {n : Nat} {L : List Lnk} (h : GoodL n L) (v : Nat) (b : Nat → Bool) : edgS L v (setL b n) = (grL n L h).edges b v := by
  have : ∀ m, edgS L v (setL b m) = sumN m (fun u => if b u then mulL L v u else 0) := by
    intro m
    induction m with
    | zero => rfl
    | succ m ih =>
      rw [sumN]
      cases hb : b m with
      | true => rw [setL_succ_yes hb, edgS_snoc, ih]; simp
      | false => rw [setL_succ_no hb, ih]; simp
  exact this n
theorem edgS_bound {n : Nat} {L : List Lnk} (h : GoodL n L) (v : Nat) (l : List Int) : 0 ≤ edgS L v l ∧ edgS L v l ≤ 5 * (l.length : Int) := by
  induction l with
  | nil => simp [edgS]
  | cons x xs ih =>
    have := mulL_bound h.each h.sorted v x.toNat
    unfold edgS at ih ⊢
    rw [List.map_cons, List.sum_cons, List.length_cons]; omega

end Go.Proofs.Ytifdhapaonideaa
