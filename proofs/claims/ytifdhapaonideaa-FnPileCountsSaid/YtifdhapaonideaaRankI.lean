/- Small graphs and divisors, duals: the program's functions. -/
import Derived.Test.YtifdhapaonideaaRankS2
import Derived.Test.YtifdhapaonideaaConn2
import Derived.Test.YtifdhapaonideaaFuncs
namespace Go.Proofs.Ytifdhapaonideaa
open Go.RowKit
open Go.Lib (hid)


theorem any_not_in (l : List Int) (lo hi : Int) : (l.any fun x => !inB x lo hi) = !allB l lo hi := by
  unfold allB
  induction l with
  | nil => rfl
  | cons x xs ih => simp only [List.any_cons, List.all_cons, ih]; cases inB x lo hi <;> simp

/-- a graph and that it is one -/
def RetG (w : World) (n : Nat) (L : List Lnk) (e : Ending) (w' : World) : Prop := ∃ g, e = .returned (.tuple #[.pointer (some ⟨g, 0, none⟩), .bool true]) ∧ RG w' (.pointer (some ⟨g, 0, none⟩)) n L ∧ Below w.heap.size w w'
/-- some pointer, and that it is none -/
def RetNoG (w : World) (e : Ending) (w' : World) : Prop := ∃ a, e = .returned (.tuple #[.pointer a, .bool false]) ∧ Below w.heap.size w w'

end Go.Proofs.Ytifdhapaonideaa
