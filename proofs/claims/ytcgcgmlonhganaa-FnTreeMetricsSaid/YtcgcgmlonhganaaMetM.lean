/- Results of the functions of metrics, with names for what is known. -/
import Derived.Test.YtcgcgmlonhganaaMetT3
import Derived.Test.YtcgcgmlonhganaaMetDr
import Derived.Test.YtcgcgmlonhganaaSameM
import Derived.Test.YtcgcgmlonhganaaRetQ
namespace Go.Proofs.Ytcgcgmlonhganaa
open Go.RowKit
open Go.Lib (hid)

theorem RetMatB.lp {w : World} {p : List (List Int) × Bool} {e : Ending} {w' : World} (h : RetMatB w p e w') {X : List (List Int)} {b : Bool} (hp : p = (X, b)) : ∃ a n c, e = .returned (.tuple #[.slice a n c, .bool b]) ∧ RMat w' (.slice a n c) X ∧ Below w.heap.size w w' := by
  subst hp
  obtain ⟨v, rfl, hF, hb⟩ := h
  obtain ⟨a, n, c, rfl⟩ := hF.form3
  exact ⟨a, n, c, rfl, hF.r, hb⟩
theorem RetIntsB2.lp {w : World} {p : List Int × Bool} {e : Ending} {w' : World} (h : RetIntsB2 w p e w') {X : List Int} {b : Bool} (hp : p = (X, b)) : ∃ a n c, e = .returned (.tuple #[.slice a n c, .bool b]) ∧ RInts w' (.slice a n c) X ∧ Below w.heap.size w w' := by
  subst hp
  obtain ⟨v, rfl, hF, hb⟩ := h
  obtain ⟨a, n, c, rfl⟩ := hF.form3
  exact ⟨a, n, c, rfl, hF.r, hb⟩
theorem bbLp {w w' : World} {e : Ending} {p : Bool × Bool} (h : e = .returned (.tuple #[.bool p.1, .bool p.2]) ∧ Below w.heap.size w w') {x b : Bool} (hp : p = (x, b)) : e = .returned (.tuple #[.bool x, .bool b]) ∧ Below w.heap.size w w' := by subst hp; exact h
theorem zbLp {w w' : World} {e : Ending} {p : Int × Bool} (h : e = .returned (.tuple #[.int .i64 p.1, .bool p.2]) ∧ Below w.heap.size w w') {x : Int} {b : Bool} (hp : p = (x, b)) : e = .returned (.tuple #[.int .i64 x, .bool b]) ∧ Below w.heap.size w w' := by subst hp; exact h
theorem zzbLp {w w' : World} {e : Ending} {p : (Int × Int) × Bool} (h : e = .returned (.tuple #[.int .i64 p.1.1, .int .i64 p.1.2, .bool p.2]) ∧ Below w.heap.size w w') {x y : Int} {b : Bool} (hp : p = ((x, y), b)) : e = .returned (.tuple #[.int .i64 x, .int .i64 y, .bool b]) ∧ Below w.heap.size w w' := by subst hp; exact h
theorem rmat_n {w : World} {a : Option Addr} {n c : Nat} {M : List (List Int)} (h : RMat w (.slice a n c) M) : n = M.length ∧ n ≤ 9223372036854775807 := by
  obtain ⟨_, _, he, h1, h2, _⟩ := h
  simp only [Value.slice.injEq] at he
  unfold maxLen at h2
  exact ⟨he.2.1, by omega⟩

set_option maxHeartbeats 1000000 in
theorem iIsMetric_u (v : Value) (M : List (List Int)) (w : World) (h : RMat w v M) :
    Calls Try.prog 26 #[v] w fun e w' => e = .returned (.bool (metB M)) ∧ Below w.heap.size w w' := by
  have HH := hid h
  obtain ⟨a, c, rfl, -, -, -⟩ := id h
  clear h
  go_enter Try.func26, Try.ntmps26
  go_wp2_with fail
  refine (isMetric_lift _ M _ HH.out).mono ?_
  rintro e w1 ⟨rfl, hb⟩
  have HB := hid hb
  clear hb
  go_wp2
  go_ret
  exact ⟨rfl, HB.out⟩
theorem ult_no {M : List (List Int)} (h : metB M = false) : ultB M = ([], false) ∧ isUltB M = (false, false) := ⟨ultB_no M h, isUltB_no h⟩
end Go.Proofs.Ytcgcgmlonhganaa
