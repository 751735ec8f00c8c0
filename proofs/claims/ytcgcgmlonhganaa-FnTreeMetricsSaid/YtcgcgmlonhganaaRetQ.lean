/- Results in plain words: lists, numbers and truth values that are known by name; laws.big; AreTasks. -/
import Derived.Test.YtcgcgmlonhganaaLawQ
import Derived.Test.YtcgcgmlonhganaaOpenB
import Derived.Test.YtcgcgmlonhganaaDrawL
namespace Go.Proofs.Ytcgcgmlonhganaa
open Go.RowKit
open Go.Lib (hid)

/-- a list that reads as xs, and b -/
def RetL (w : World) (xs : List Int) (b : Bool) (e : Ending) (w' : World) : Prop := ∃ a n c, e = .returned (.tuple #[.slice a n c, .bool b]) ∧ RInts w' (.slice a n c) xs ∧ Below w.heap.size w w'
theorem retL_of {w w' : World} {p : List Int × Bool} {e : Ending} (h : ∃ v, e = .returned (.tuple #[v, .bool p.2]) ∧ FInts w' w.heap.size w'.heap.size v p.1 ∧ Below w.heap.size w w') {xs : List Int} {b : Bool} (hp : p = (xs, b)) : RetL w xs b e w' := by
  subst hp
  obtain ⟨v, h1, h2, h3⟩ := h
  obtain ⟨a, n, c, rfl⟩ := h2.r.form3
  exact ⟨a, n, c, h1, h2.r, h3⟩
def RetZ (w : World) (x : Int) (b : Bool) (e : Ending) (w' : World) : Prop := e = .returned (.tuple #[.int .i64 x, .bool b]) ∧ Below w.heap.size w w'
theorem retZ_of {w w' : World} {p : Int × Bool} {e : Ending} (h : e = .returned (.tuple #[.int .i64 p.1, .bool p.2]) ∧ Below w.heap.size w w') {x : Int} {b : Bool} (hp : p = (x, b)) : RetZ w x b e w' := by subst hp; exact h
def RetT (w : World) (x : Bool) (b : Bool) (e : Ending) (w' : World) : Prop := e = .returned (.tuple #[.bool x, .bool b]) ∧ Below w.heap.size w w'
theorem retT_of {w w' : World} {p : Bool × Bool} {e : Ending} (h : e = .returned (.tuple #[.bool p.1, .bool p.2]) ∧ Below w.heap.size w w') {x : Bool} {b : Bool} (hp : p = (x, b)) : RetT w x b e w' := by subst hp; exact h
def RetZZ (w : World) (x y : Int) (b : Bool) (e : Ending) (w' : World) : Prop := e = .returned (.tuple #[.int .i64 x, .int .i64 y, .bool b]) ∧ Below w.heap.size w w'
theorem retZZ_of {w w' : World} {p : Int × Int × Bool} {e : Ending} (h : e = .returned (.tuple #[.int .i64 p.1, .int .i64 p.2.1, .bool p.2.2]) ∧ Below w.heap.size w w') {x y : Int} {b : Bool} (hp : p = (x, y, b)) : RetZZ w x y b e w' := by subst hp; exact h

/-- more bytes than a million and a bit -/
def bigB (n m : Nat) : Bool := decide (1048576 < n) || decide (1048576 - (n : Int) < m)
set_option maxHeartbeats 1000000 in
theorem big_c (v u : Value) (n m : Nat) (w : World) (h : RBytes w v n) (h' : RBytes w u m) :
    Calls Try.prog 19 #[v, u] w fun e w' => e = .returned (.bool (bigB n m)) ∧ ∃ q, w' = w.drewN q := by
  obtain ⟨a, cap, rfl, h1, h2⟩ := h.form
  obtain ⟨a', cap', rfl, h3, h4⟩ := h'.form
  unfold maxLen at h2 h4
  clear h h'
  by_cases t1 : (1048576 : Int) < (n : Int)
  · go_enter Try.func19, Try.ntmps19
    go_wp2
    go_ret
    exact ⟨ret_bool (by unfold bigB; simp; omega), 0, rfl⟩
  · have f1 : IntKind.i64.wrap (1048576 - (n : Int)) = 1048576 - (n : Int) := IntWalk.i64_in _ (by omega)
    by_cases t2 : 1048576 - (n : Int) < (m : Int)
    all_goals
      go_enter Try.func19, Try.ntmps19
      go_wp2
      go_ret
      exact ⟨ret_bool (by unfold bigB; simp; omega), 0, rfl⟩

end Go.Proofs.Ytcgcgmlonhganaa
