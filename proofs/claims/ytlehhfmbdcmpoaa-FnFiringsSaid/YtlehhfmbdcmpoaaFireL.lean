/- The plain law of firings: scripts taken back, all vertices, legal firings, debts; laws.big. -/
import Derived.Test.YtlehhfmbdcmpoaaFireR
import Derived.Test.YtlehhfmbdcmpoaaFireT
import Derived.Test.YtlehhfmbdcmpoaaLawQ
import Derived.Test.YtlehhfmbdcmpoaaOpenB
import Derived.Test.YtlehhfmbdcmpoaaDrawG3
namespace Go.Proofs.Ytlehhfmbdcmpoaa
open Go.RowKit
open Go.Lib (hid)

/-- results known by name -/
def RetLI (w : World) (xs : List Int) (b : Bool) (e : Ending) (w' : World) : Prop := ∃ a n c, e = .returned (.tuple #[.slice a n c, .bool b]) ∧ RInts w' (.slice a n c) xs ∧ Below w.heap.size w w'
theorem RetIB.li {w w' : World} {p : List Int × Bool} {e : Ending} (h : RetIB w p e w') {xs : List Int} {b : Bool} (hp : p = (xs, b)) : RetLI w xs b e w' := by
  subst hp
  obtain ⟨v, h1, h2, h3⟩ := h
  obtain ⟨a, n, c, rfl⟩ := h2.r.form3
  exact ⟨a, n, c, h1, h2.r, h3⟩
def RetZI (w : World) (x : Int) (b : Bool) (e : Ending) (w' : World) : Prop := e = .returned (.tuple #[.int .i64 x, .bool b]) ∧ Below w.heap.size w w'
theorem RetZB.li {w w' : World} {p : Int × Bool} {e : Ending} (h : RetZB w p e w') {x : Int} {b : Bool} (hp : p = (x, b)) : RetZI w x b e w' := by subst hp; exact h
theorem allB_ofF {l : List Int} {lo hi : Int} (h : ∀ x ∈ l, lo ≤ x ∧ x ≤ hi) : allB l lo hi = true := by
  unfold allB; rw [List.all_eq_true]; intro x hx; rw [inB_iff]; exact h x hx
/-- what was made since a world -/
def Since (a w : World) : Prop := Below a.heap.size a w
theorem Since.keep {a w w' : World} (h : Since a w) (hb : Below w.heap.size w w') : Since a w' := Below.trans h (hb.mono (Below.size h))
theorem lstD {n : Nat} {f : Nat → Int} {i : Nat} (h : i < n) : (lst n f).getD i 0 = f i := by simp [lst, List.getD, h]
theorem lst_bd {n : Nat} {f : Nat → Int} {B : Int} (h : ∀ i, i < n → -B ≤ f i ∧ f i ≤ B) : allB (lst n f) (-B) B = true := allB_ofF fun x hx => by
  obtain ⟨i, hi, rfl⟩ := mem_lst.1 hx; exact h i hi
theorem told_parts {xs F : List Int} (h : toldB xs = (F, true)) : F = xs ∧ allB xs (-1000) 1000 = true := by
  unfold toldB at h
  cases ha : allB xs (-1000) 1000 with
  | true => rw [ha] at h; simp at h; exact ⟨h.symm, rfl⟩
  | false => rw [ha] at h; simp at h
/-- a divisor of the same graph -/
theorem div_lst {m : Nat} {L : List Lnk} {d : List Int} {f : Nat → Int} (t : divB (m : Int) L d = true) (ha : allB (lst m f) (-1000) 1000 = true) : divB (m : Int) L (lst m f) = true := by
  unfold divB
  rw [(div_len t).2, lst_len, ha]; simp

theorem fsc_cases (m : Nat) {L : List Lnk} {d : List Int} (t : divB (m : Int) L d = true) (s : List Int) :
    fscB (m : Int) L d s = ([], false) ∨ (fscB (m : Int) L d s = (aftL m L d (fun i => s.getD i 0), true) ∧ s.length = m ∧ allB s (-20) 20 = true ∧ allB (aftL m L d (fun i => s.getD i 0)) (-1000) 1000 = true) := by
  unfold fscB
  rw [t, Bool.true_and]
  cases h : (((s.length : Int) == (m : Int)) && allB s (-20) 20) with
  | false => exact .inl rfl
  | true =>
    rw [Bool.and_eq_true, beq_iff_eq] at h
    rw [Int.toNat_natCast]
    cases ha : allB (aftL m L d (fun i => s.getD i 0)) (-1000) 1000 with
    | false => left; rw [if_pos rfl, toldB_no ha]
    | true => right; rw [if_pos rfl, toldB_yes ha]; exact ⟨rfl, by omega, h.2, rfl⟩

theorem aft_sum {m : Nat} {L : List Lnk} (hG : GoodL m L) {d : List Int} (hl : d.length = m) (s : Nat → Int) : (aftL m L d s).sum = d.sum := by
  rw [← aftL_eq hG, lst_sum]
  rw [show sumN m ((grL m L hG).after (fun i => d.getD i 0) s) = sumN m (fun i => d.getD i 0) from Gr.after_sum (grL m L hG) _ _]
  exact sum_getD hl
theorem aft_back {m : Nat} {L : List Lnk} (hG : GoodL m L) {d : List Int} (hl : d.length = m) (s : Nat → Int) :
    aftL m L (aftL m L d s) (fun i => (lst m (fun i => - s i)).getD i 0) = d := by
  rw [lst_of hl]
  rw [← aftL_eq hG]
  refine lst_congr fun v hv => ?_
  have h1 := (grL m L hG).after_congr (f := fun i => (aftL m L (lst m fun i => d.getD i 0) s).getD i 0) (g := (grL m L hG).after (fun i => d.getD i 0) s) (c := fun i => (lst m (fun i => - s i)).getD i 0) (d := fun i => - s i) (v := v)
    (by rw [← lst_of hl, ← aftL_eq hG, lstD hv]) (fun u hu => lstD hu)
  rw [h1, Gr.after_after]
  have h2 : (fun u => s u + - s u) = Gr.none0 := funext fun u => by unfold Gr.none0; omega
  rw [h2, Gr.after_none]

theorem fsc_back {m : Nat} {L : List Lnk} {d s : List Int} (t : divB (m : Int) L d = true) (hs : allB s (-20) 20 = true) :
    fscB (m : Int) L (aftL m L d (fun i => s.getD i 0)) (lst m (fun i => - s.getD i 0)) = (d, true) ∨ allB (aftL m L d (fun i => s.getD i 0)) (-1000) 1000 = false := by
  obtain ⟨k, _, hk, hG, _, hl, _, ha⟩ := divB_parts t
  obtain rfl : k = m := by omega
  cases hF : allB (aftL k L d (fun i => s.getD i 0)) (-1000) 1000 with
  | false => exact .inr rfl
  | true =>
    left
    have h1 : divB (k : Int) L (aftL k L d (fun i => s.getD i 0)) = true := by rw [← aftL_eq hG] at hF ⊢; exact div_lst t hF
    have h2 : allB (lst k (fun i => - s.getD i 0)) (-20) 20 = true := lst_bd fun i _ => by
      have := getD_bound (B := 20) (allB_mem hs) (by decide) i; omega
    unfold fscB
    rw [h1, h2, lst_len, Int.toNat_natCast, aft_back hG hl, toldB_yes ha]
    simp

theorem all_len (m : Nat) : (setL (fun _ => true) m).length = m := by
  induction m with
  | zero => rfl
  | succ n ih => rw [setL_succ_yes rfl, List.length_append, ih]; rfl
theorem ris_all {m : Nat} (h1 : 1 ≤ m) (h8 : m ≤ 8) : risB 0 ((m : Int) - 1) none (setL (fun _ => true) m) = true := by
  have : m = 1 ∨ m = 2 ∨ m = 3 ∨ m = 4 ∨ m = 5 ∨ m = 6 ∨ m = 7 ∨ m = 8 := by omega
  rcases this with rfl | rfl | rfl | rfl | rfl | rfl | rfl | rfl <;> decide
theorem fst_all {m : Nat} {L : List Lnk} {d : List Int} (t : divB (m : Int) L d = true) : fstB (m : Int) L d (setL (fun _ => true) m) = (d, true) := by
  obtain ⟨k, _, hk, hG, _, hl, _, ha⟩ := divB_parts t
  obtain rfl : k = m := by omega
  have h1 : aftL k L d (setF (setL (fun _ => true) k)) = d := by
    conv => rhs; rw [lst_of hl]
    refine lst_congr fun v hv => ?_
    have h2 : sumN k (fun u => setF (setL (fun _ => true) k) u * lapV k L u v) = 0 := by
      rw [sumN_congr (g := fun u => (grL k L hG).lap v u) (fun u hu => by
        have : setF (setL (fun _ => true) k) u = 1 := by unfold setF; rw [hasB_setL hu]; rfl
        rw [this, Int.one_mul, Gr.lap_sym]; rfl)]
      exact (grL k L hG).lap_row v hv
    rw [h2]; omega
  unfold fstB
  rw [t, ris_all hG.n1 hG.n8, Int.toNat_natCast, h1, toldB_yes ha]; rfl

theorem dbt_yes {m : Nat} {L : List Lnk} {d : List Int} (t : divB (m : Int) L d = true) : dbtB (m : Int) L d = (setL (fun v => decide (d.getD v 0 < 0)) m, true) := by unfold dbtB; rw [t]; rfl
theorem lgf_yes {m : Nat} {L : List Lnk} {d : List Int} (t : divB (m : Int) L d = true) : lgfB (m : Int) L d = (setL (fun v => decide (valV m L v ≤ d.getD v 0)) m, true) := by unfold lgfB; rw [t]; rfl
theorem csp_yes {m : Nat} {L : List Lnk} {d : List Int} (t : divB (m : Int) L d = true) : cspB (m : Int) L d = (d.sum, true) := by unfold cspB; rw [t]; rfl
theorem csp_no {n : Int} {L : List Lnk} {d : List Int} (t : divB n L d = false) : cspB n L d = (0, false) := by unfold cspB; rw [t]; rfl
theorem fsc_no {n : Int} {L : List Lnk} {d : List Int} (s : List Int) (t : divB n L d = false) : fscB n L d s = ([], false) := by unfold fscB; rw [t]; rfl
/-- chips of a vertex in debt -/
theorem debt_at (m : Nat) (d : List Int) {v : Nat} (hv : v < m) {y : Int} (hy : d.getD v 0 = y) : hasB (setL (fun v => decide (d.getD v 0 < 0)) m) v = decide (y < 0) := by rw [hasB_setL hv, hy]
theorem debt_legal {m : Nat} {L : List Lnk} (hG : GoodL m L) {d : List Int} {v : Nat} (hv : v < m) {y : Int} (hy : d.getD v 0 = y) (h : y < 0) : hasB (setL (fun v => decide (valV m L v ≤ d.getD v 0)) m) v = false := by
  rw [hasB_setL hv, hy]; have := valV_bound hG hv; simp; omega
theorem fvt_legal {m : Nat} {L : List Lnk} {d : List Int} (t : divB (m : Int) L d = true) {v : Nat} (hv : v < m) (hl : valV m L v ≤ d.getD v 0) {F : List Int} (h : fvtB (m : Int) L d v = (F, true)) : F.length = m ∧ 0 ≤ F.getD v 0 := by
  obtain ⟨k, _, hk, hG, _, hdl, _, ha⟩ := divB_parts t
  obtain rfl : k = m := by omega
  unfold fvtB at h
  rw [t, Bool.true_and, Int.toNat_natCast, inB_iff.2 (by omega), if_pos rfl] at h
  obtain ⟨rfl, _⟩ := told_parts h
  refine ⟨by unfold aftL; rw [lst_len], ?_⟩
  unfold aftL
  rw [lstD hv]
  have h2 : sumN k (fun u => setF [(v : Int)] u * lapV k L u v) = lapV k L v v := by
    rw [sumN_one (v := v) _ hv (fun i _ hi => by
      have : setF [(v : Int)] i = 0 := by unfold setF; rw [if_neg]; rw [hasB_mem]; simp; omega
      rw [this]; omega)]
    have : setF [(v : Int)] v = 1 := by unfold setF; rw [if_pos]; rw [hasB_mem]; simp
    rw [this]; omega
  rw [h2]
  have h3 : lapV k L v v = valV k L v := by
    have := go_lap hG v v
    rw [if_pos rfl] at this; exact this
  rw [h3]; omega
theorem fvt_no {m : Nat} {L : List Lnk} {d : List Int} {x : Int} {F : List Int} {b : Bool} (h : fvtB (m : Int) L d x = (F, b)) (hb : b = false) : F = [] := by
  subst hb
  unfold fvtB at h
  split at h
  · unfold toldB at h
    split at h
    · simp at h
    · simp at h; exact h
  · simp at h; exact h

/-- more bytes than a million and a bit -/
def bigB (n m : Nat) : Bool := decide (1048576 < n) || decide (1048576 - (n : Int) < m)
set_option maxHeartbeats 1000000 in
theorem big_c (v u : Value) (n m : Nat) (w : World) (h : RBytes w v n) (h' : RBytes w u m) :
    Calls Try.prog 19 #[v, u] w fun e w' => e = .returned (.bool (bigB n m)) ∧ ∃ q, w' = w.drewN q := by
  obtain ⟨a, cap, rfl, h1, h2⟩ := h.form
  obtain ⟨a', cap', rfl, h3, h4⟩ := h'.form
  unfold maxLen at h2 h4
  clear h h'
  by_cases t1 : (1048576 : Int) < (n : Int)
  · go_enter Try.func19, Try.ntmps19
    go_wp2
    go_ret
    exact ⟨ret_bool (by unfold bigB; simp; omega), 0, rfl⟩
  · have f1 : IntKind.i64.wrap (1048576 - (n : Int)) = 1048576 - (n : Int) := IntWalk.i64_in _ (by omega)
    by_cases t2 : 1048576 - (n : Int) < (m : Int)
    all_goals
      go_enter Try.func19, Try.ntmps19
      go_wp2
      go_ret
      exact ⟨ret_bool (by unfold bigB; simp; omega), 0, rfl⟩

end Go.Proofs.Ytlehhfmbdcmpoaa
