/- The other side of a split: impl.otherSide. -/
import Derived.Test.YtnkbfgnmodfemaaGreatDoorSplit
import Derived.Test.YtnkbfgnmodfemaaGreatDoorAppend
namespace Go.Proofs.YtnkbfgnmodfemaaGreatDoor
open Go.RowKit
open Go.Lib (hid)

/-- the points that are not in a list, from i on -/
def othR (S : List Int) : Nat → Nat → List Int → List Int
  | 0, _, acc => acc
  | m + 1, i, acc => othR S m (i + 1) (if hasB S (i : Int) then acc else acc ++ [(i : Int)])
theorem othR_zero (S : List Int) (i : Nat) (acc : List Int) : othR S 0 i acc = acc := rfl
theorem othR_yes {S : List Int} {m i : Nat} {acc : List Int} (h : hasB S (i : Int) = true) : othR S (m + 1) i acc = othR S m (i + 1) acc := by rw [othR, h]; rfl
theorem othR_no {S : List Int} {m i : Nat} {acc : List Int} (h : hasB S (i : Int) = false) : othR S (m + 1) i acc = othR S m (i + 1) (acc ++ [(i : Int)]) := by rw [othR, h]; rfl
def othF (n : Nat) (S : List Int) : List Int := othR S n 0 []
theorem othR_ok (S : List Int) : ∀ (m i : Nat) (acc : List Int), (∀ x ∈ acc, 0 ≤ x ∧ x < ((i + m : Nat) : Int)) → acc.length ≤ i → (∀ x ∈ othR S m i acc, 0 ≤ x ∧ x < ((i + m : Nat) : Int)) ∧ (othR S m i acc).length ≤ i + m := by
  intro m
  induction m with
  | zero => intro i acc h1 h2; rw [othR_zero]; exact ⟨h1, h2⟩
  | succ m ih =>
    intro i acc h1 h2
    rw [show i + (m + 1) = i + 1 + m by omega] at h1 ⊢
    rcases Bool.eq_false_or_eq_true (hasB S (i : Int)) with t | t
    · rw [othR_yes t]; exact ih (i + 1) acc h1 (by omega)
    · rw [othR_no t]
      refine ih (i + 1) _ (fun x hx => ?_) (by simp; omega)
      rcases List.mem_append.1 hx with h | h
      · exact h1 x h
      · simp at h; omega
theorem othF_ok (n : Nat) (S : List Int) : (∀ x ∈ othF n S, 0 ≤ x ∧ x < (n : Int)) ∧ (othF n S).length ≤ n := by
  have := othR_ok S n 0 [] (by simp) (Nat.le_refl _)
  simpa [othF] using this

theorem push_round2 {w wr : World} {B : Nat} {o : Value} {xs : List Int} (x : Int) (hl : xs.length ≤ 1048576) (hF : FInts wr B wr.heap.size o xs) (hb : Below B w wr) (hB : B ≤ wr.heap.size) :
    FInts (wr.alloc (.cells #[.int .i64 x] 3)) B wr.heap.size o xs ∧ RInts (wr.alloc (.cells #[.int .i64 x] 3)) (.slice (some ⟨wr.heap.size, 0, none⟩) 1 1) [x] ∧ xs.length + 1 ≤ 1099511627776 ∧ B ≤ (wr.alloc (.cells #[.int .i64 x] 3)).heap.size ∧
      ∀ w', (wr.alloc (.cells #[.int .i64 x] 3)).grownBy w' o.ownBlock → Below B w w' := by
  obtain ⟨p1, p2, p3⟩ := push_pre hF x
  exact ⟨p1, p2, by omega, Nat.le_trans hB p3, fun w' hg => hb.trans ((push_post hF hg).below (Nat.le_refl _) hB)⟩

set_option maxRecDepth 100000 in
set_option maxHeartbeats 1000000 in
theorem otherSide_c (n : Nat) (v : Value) (S : List Int) (w : World) (h : RInts w v S) (hn : n ≤ 1000) :
    Calls Tryz.prog 35 #[.int .i64 n, v] w (RetInts w (othF n S)) := by
  have HR := hid h
  obtain ⟨a, cap, rfl, h1, h2, hc⟩ := h
  clear hc
  unfold maxLen at h2
  go_enter Tryz.func35, Tryz.ntmps35
  go_wp2
  go_loopg [5, 9] n (fun gk o iv wr => ∃ i : Nat, ∃ acc : List Int, i ≤ n ∧ gk = n - i ∧ iv = .int .i64 i ∧ acc.length ≤ i ∧ othF n S = othR S (n - i) i acc ∧ FInts wr w.heap.size wr.heap.size o acc ∧ Below w.heap.size w wr)
  case atStart => exact ⟨0, [], Nat.zero_le _, rfl, rfl, Nat.zero_le _, rfl, (ints_empty w _ (Nat.le_refl _)).mono (Nat.le_refl _) (by simp), (Below.refl _ _).alloc (Nat.le_refl _) _⟩
  case round =>
    obtain ⟨i, acc, hi, rfl, rfl, hacc, hr, hF, hb⟩ := hrel
    have HRR := hid hr; clear hr
    by_cases hlt : i < n
    · have hltz : (i : Int) < (n : Int) := by omega
      have hR := HR.out.keep hb
      have HF := hid hF
      have HB := hid hb
      obtain ⟨au, cu, rfl⟩ := hF.form
      obtain ⟨p1, p2, p3, p4, p5⟩ := push_round2 (i : Int) (by omega) hF hb hb.size
      have P1 := hid p1
      have P2 := hid p2
      have P3 := hid p3
      have P4 := hid p4
      have P5 := hid p5
      clear hF hb p1 p2 p3 p4 p5
      rcases Bool.eq_false_or_eq_true (hasB S (i : Int)) with t | t
      · have HST : Hid (othF n S = othR S (n - (i + 1)) (i + 1) acc) := by show _ = _; rw [HRR.out, show n - i = (n - (i + 1)) + 1 by omega, othR_yes t]
        go_wp2_with fail
        refine (contains_c _ S _ _ hR).mono ?_
        rintro e w' ⟨rfl, rfl⟩
        rw [t]
        clear hR
        go_wp2
        go_roundg (n - (i + 1))
        case rel => exact ⟨i + 1, acc, by omega, rfl, by go_num, by omega, HST.out, HF.out, HB.out⟩
        case measure => omega
      · have HST : Hid (othF n S = othR S (n - (i + 1)) (i + 1) (acc ++ [(i : Int)])) := by show _ = _; rw [HRR.out, show n - i = (n - (i + 1)) + 1 by omega, othR_no t]
        go_wp2_with fail
        refine (contains_c _ S _ _ hR).mono ?_
        rintro e w' ⟨rfl, rfl⟩
        rw [t]
        clear hR
        go_wp2_with (at_builtin; refine wpList_append_ints rfl _ _ rfl _ _ _ _ _ [(i : Int)] rfl rfl P1.out P2.out P3.out P4.out ?_; intro v' w' hF' hg hn')
        go_roundg (n - (i + 1))
        case rel => exact ⟨i + 1, _, by omega, rfl, by go_num, by simp; omega, HST.out, hF', P5.out _ hg⟩
        case measure => omega
    · have HST : Hid (othF n S = acc) := by show _ = _; rw [HRR.out, show n - i = 0 by omega, othR_zero]
      have HF := hid hF
      have HB := hid hb
      clear hF hb
      go_wp2
      go_ret
      exact ⟨_, rfl, by rw [HST.out]; exact HF.out, HB.out⟩

end Go.Proofs.YtnkbfgnmodfemaaGreatDoor
