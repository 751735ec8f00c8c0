/- Numbers added to the distances of points: both programs' functions. -/
import Derived.Test.YtnkbfgnmodfemaaGreatDoorUltra
namespace Go.Proofs.YtnkbfgnmodfemaaGreatDoor
open Go.RowKit
open Go.Lib (hid)

def addJ (b : List Int) (i j : Nat) (s : List (List Int)) : List (List Int) := if i = j then s else setEnt s i j (ent s i j + (b.getD i 0 + b.getD j 0))
def addI (b : List Int) (n i : Nat) (s : List (List Int)) : List (List Int) := iterFrom n 0 (addJ b i) s
def addM (b : List Int) (M : List (List Int)) : List (List Int) := iterFrom M.length 0 (addI b M.length) M
def pendOk (M : List (List Int)) (b : List Int) : Bool := metB M && ((b.length == M.length) && allB b 0 10000)
def pendB (M : List (List Int)) (b : List Int) : List (List Int) × Bool := if pendOk M b then (if metB (addM b M) then (addM b M, true) else ([], false)) else ([], false)
theorem pendB_bad (M : List (List Int)) (b : List Int) (h : pendOk M b = false) : pendB M b = ([], false) := by rw [pendB, h]; rfl
theorem pendB_no (M : List (List Int)) (b : List Int) (h : pendOk M b = true) (h' : metB (addM b M) = false) : pendB M b = ([], false) := by rw [pendB, h, h']; rfl
theorem pendB_yes (M : List (List Int)) (b : List Int) (h : pendOk M b = true) (h' : metB (addM b M) = true) : pendB M b = (addM b M, true) := by rw [pendB, h, h']; rfl
theorem metB_tot {M : List (List Int)} (h : metB M = true) : tot M ≤ 1099511627776 := by
  obtain ⟨_, h7, hsq, _⟩ := metB_parts h
  have := tot_le (M := M) (a := 7) (by omega) (fun r hr => by have := sqB_iff.1 hsq r hr; omega)
  omega
theorem pend_tot (M : List (List Int)) (b : List Int) : tot (pendB M b).1 ≤ 1099511627776 := by
  rcases Bool.eq_false_or_eq_true (pendOk M b) with h | h
  · rcases Bool.eq_false_or_eq_true (metB (addM b M)) with h' | h'
    · rw [pendB_yes M b h h']; exact metB_tot h'
    · rw [pendB_no M b h h']; simp [tot]
  · rw [pendB_bad M b h]; simp [tot]

theorem allB_at {l : List Int} {lo hi : Int} (h : allB l lo hi = true) {i : Nat} (hi' : i < l.length) : lo ≤ l.getD i 0 ∧ l.getD i 0 ≤ hi := by
  unfold allB at h
  rw [List.all_eq_true] at h
  exact inB_iff.1 (h (l.getD i 0) (by simp [List.getD, List.getElem?_eq_getElem hi']))

set_option maxHeartbeats 400000 in
theorem toldMetric_yes (v : Value) (M : List (List Int)) (w : World) (h : RMat w v M) (t : metB M = true) :
    Calls Tryz.prog 45 #[v] w fun e w' => e = .returned (.tuple #[v, .bool true]) ∧ Below w.heap.size w w' := by
  go_enter Tryz.func45, Tryz.ntmps45
  go_wp2_with fail
  refine (isMetric_c _ M _ h).mono ?_
  rintro e w1 ⟨rfl, hb1⟩
  rw [t]
  go_wp2
  go_ret2
  exact ⟨rfl, hb1⟩

set_option maxHeartbeats 400000 in
theorem toldMetric_no (v : Value) (M : List (List Int)) (w : World) (h : RMat w v M) (t : metB M = false) :
    Calls Tryz.prog 45 #[v] w fun e w' => e = .returned (.tuple #[.slice none 0 0, .bool false]) ∧ Below w.heap.size w w' := by
  go_enter Tryz.func45, Tryz.ntmps45
  go_wp2_with fail
  refine (isMetric_c _ M _ h).mono ?_
  rintro e w1 ⟨rfl, hb1⟩
  rw [t]
  go_wp2
  go_ret2
  exact ⟨rfl, hb1⟩

/-- what is untouched yet at row i, column j -/
def Fresh2 (M s : List (List Int)) (n i j : Nat) : Prop := ∀ a b, a < n → b < n → (i < a ∨ (a = i ∧ j ≤ b)) → ent s a b = ent M a b

theorem addJ_all {M s : List (List Int)} {b : List Int} {n i j : Nat} (hsl : s.length = n) (hss : sqB s n = true) (hf : Fresh2 M s n i j) (hi : i < n) (hj : j < n) :
    (addJ b i j s).length = n ∧ sqB (addJ b i j s) n = true ∧ Fresh2 M (addJ b i j s) n i (j + 1) := by
  unfold addJ
  split
  · exact ⟨hsl, hss, fun x y hx hy h => hf x y hx hy (by omega)⟩
  · refine ⟨by rw [setEnt_len]; exact hsl, setEnt_sq hss hsl hi _ _, fun x y hx hy h => ?_⟩
    rw [ent_setEnt hss hsl hi hj, if_neg (by omega)]
    exact hf x y hx hy (by omega)

end Go.Proofs.YtnkbfgnmodfemaaGreatDoor
