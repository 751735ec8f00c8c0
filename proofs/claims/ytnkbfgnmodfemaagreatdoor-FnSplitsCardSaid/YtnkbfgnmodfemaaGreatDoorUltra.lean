/- The greatest ultrametric below a metric: both programs' functions. -/
import Derived.Test.YtnkbfgnmodfemaaGreatDoorOwn
import Derived.Test.YtnkbfgnmodfemaaGreatDoorFm
import Derived.Test.YtnkbfgnmodfemaaGreatDoorIsMetric
import Derived.Test.YtnkbfgnmodfemaaGreatDoorWithout2
import Derived.StillTailTactics
namespace Go.Proofs.YtnkbfgnmodfemaaGreatDoor
open Go.RowKit
open Go.Lib (hid)

/-! ### Ultrametrics -/
def ultJ (k i j : Nat) (s : List (List Int)) : List (List Int) := setEnt s i j (min (ent s i j) (max (ent s i k) (ent s k j)))
def ultI (n k i : Nat) (s : List (List Int)) : List (List Int) := iterFrom n 0 (ultJ k i) s
def ultK (n k : Nat) (s : List (List Int)) : List (List Int) := iterFrom n 0 (ultI n k) s
def ultB (M : List (List Int)) : List (List Int) × Bool := if metB M then (iterFrom M.length 0 (ultK M.length) M, true) else ([], false)
theorem ultB_no (M : List (List Int)) (h : metB M = false) : ultB M = ([], false) := by rw [ultB, h]; rfl
theorem ultB_yes (M : List (List Int)) (h : metB M = true) : ultB M = (iterFrom M.length 0 (ultK M.length) M, true) := by rw [ultB, h]; rfl
theorem ult_sq {M : List (List Int)} {n : Nat} (hl : M.length = n) (hsq : sqB M n = true) : (iterFrom n 0 (ultK n) M).length = n ∧ sqB (iterFrom n 0 (ultK n) M) n = true := by
  refine iterFrom_inv (n := n) (fun s => s.length = n ∧ sqB s n = true) (fun k s hk hs => ?_) n 0 M (by omega) ⟨hl, hsq⟩
  refine iterFrom_inv (n := n) (fun s => s.length = n ∧ sqB s n = true) (fun i s hi hs => ?_) n 0 s (by omega) hs
  refine iterFrom_inv (n := n) (fun s => s.length = n ∧ sqB s n = true) (fun j s hj hs => ?_) n 0 s (by omega) hs
  exact ⟨by unfold ultJ; rw [setEnt_len]; exact hs.1, setEnt_sq hs.2 hs.1 hi _ _⟩
theorem ult_tot (M : List (List Int)) : tot (ultB M).1 ≤ 1099511627776 := by
  rcases Bool.eq_false_or_eq_true (metB M) with h | h
  · obtain ⟨_, hn7, hsq, _⟩ := metB_parts h
    rw [ultB_yes M h]
    obtain ⟨h1, h2⟩ := ult_sq rfl hsq
    have := tot_le (M := iterFrom M.length 0 (ultK M.length) M) (a := 7) (by omega) (fun r hr => by have := sqB_iff.1 h2 r hr; omega)
    show tot (iterFrom M.length 0 (ultK M.length) M) ≤ _
    omega
  · rw [ultB_no M h]; simp [tot]

theorem l1Most_s (a b : Int) (w : World) : Calls Tryz.prog 62 #[.int .i64 a, .int .i64 b] w fun e w' => e = .returned (.int .i64 (max a b)) ∧ w' = w := (l1Most_c a b w).mono fun _ _ h => ⟨h.1, h.2.symm⟩
theorem l1Least_s (a b : Int) (w : World) : Calls Tryz.prog 61 #[.int .i64 a, .int .i64 b] w fun e w' => e = .returned (.int .i64 (min a b)) ∧ w' = w := (l1Least_c a b w).mono fun _ _ h => ⟨h.1, h.2.symm⟩
theorem isMetric_lift (v : Value) (M : List (List Int)) (w : World) (h : RMat w v M) :
    Calls Tryz.prog 55 #[v] w fun e w' => e = .returned (.bool (metB M)) ∧ Below w.heap.size w w' := isMetric_c v M w h
theorem small_of_metB {M : List (List Int)} (h : metB M = true) : (M.length : Int) ≤ 1048576 ∧ ∀ r ∈ M, (r.length : Int) ≤ 1048576 := by
  obtain ⟨_, h7, hsq, _⟩ := metB_parts h
  exact ⟨by omega, fun r hr => by have := sqB_iff.1 hsq r hr; omega⟩

end Go.Proofs.YtnkbfgnmodfemaaGreatDoor
