/- Whether the greatest of three numbers is there twice: both programs' functions; sums of four points. -/
import Derived.Test.YtnkbfgnmodfemaaGreatDoorVisit
import Derived.Test.YtnkbfgnmodfemaaGreatDoorSorted
import Derived.Test.YtnkbfgnmodfemaaGreatDoorMeGood
import Derived.Test.YtnkbfgnmodfemaaGreatDoorIsMetric
import Derived.Test.YtnkbfgnmodfemaaGreatDoorOwn
import Derived.StillTailTactics
namespace Go.Proofs.YtnkbfgnmodfemaaGreatDoor
open Go.RowKit
open Go.Lib (hid)

theorem l1Most_q (a b : Int) (w : World) : Calls Tryz.prog 62 #[.int .i64 a, .int .i64 b] w fun e w' => e = .returned (.int .i64 (max a b)) ∧ w' = w := (l1Most_c a b w).mono fun _ _ h => ⟨h.1, h.2.symm⟩
theorem l1Least_q (a b : Int) (w : World) : Calls Tryz.prog 61 #[.int .i64 a, .int .i64 b] w fun e w' => e = .returned (.int .i64 (min a b)) ∧ w' = w := (l1Least_c a b w).mono fun _ _ h => ⟨h.1, h.2.symm⟩
theorem below_dn2 {B : Nat} {W w : World} (hb : Below B W w) (k : Nat) : Below B W (w.drewN k) := ⟨hb.os, hb.tape, hb.output, hb.size, hb.block⟩

/-- the greatest of three numbers is there twice -/
def tw3 (a b c : Int) : Bool := decide ((a = b ∧ c ≤ a) ∨ (a = c ∧ b ≤ a) ∨ (b = c ∧ a ≤ b))
/-- how many of a list are m -/
def eqN (m : Int) : List Int → Int → Int
  | [], n => n
  | x :: xs, n => eqN m xs (if x == m then n + 1 else n)
theorem eqN_nil (m n : Int) : eqN m [] n = n := rfl
theorem eqN_yes {m x n : Int} {xs : List Int} (h : (x == m) = true) : eqN m (x :: xs) n = eqN m xs (n + 1) := by rw [eqN, h]; rfl
theorem eqN_no {m x n : Int} {xs : List Int} (h : (x == m) = false) : eqN m (x :: xs) n = eqN m xs n := by rw [eqN, h]; rfl
theorem eqN_three (a b c : Int) : decide (1 < eqN (max a (max b c)) [a, b, c] 0) = tw3 a b c := by
  rw [Bool.eq_iff_iff]
  simp only [eqN, tw3, decide_eq_true_iff, beq_iff_eq]
  split <;> split <;> split <;> constructor <;> intro h <;> omega

theorem perm_sum {l l' : List Int} (h : l.Perm l') : l.foldr (· + ·) 0 = l'.foldr (· + ·) 0 := by
  induction h with
  | nil => rfl
  | cons x _ ih => simp [ih]
  | swap x y l => simp; omega
  | trans _ _ h1 h2 => exact h1.trans h2
theorem srt_three (a b c : Int) : ((srt [a, b, c]).getD 1 0 == (srt [a, b, c]).getD 2 0) = tw3 a b c := by
  have hp := srt_perm [a, b, c]
  have hs := srt_sorted [a, b, c]
  have hl := srt_len [a, b, c]
  obtain ⟨R, hR⟩ : ∃ R, srt [a, b, c] = R := ⟨_, rfl⟩
  rw [hR] at hp hs hl ⊢
  match R, hl with
  | [x, y, z], _ =>
    have h1 := perm_sum hp
    simp at h1
    have hx := hp.mem_iff (a := x)
    have hy := hp.mem_iff (a := y)
    have hz := hp.mem_iff (a := z)
    have ha := hp.mem_iff (a := a)
    have hb := hp.mem_iff (a := b)
    have hc := hp.mem_iff (a := c)
    simp at hx hy hz ha hb hc hs
    show (y == z) = tw3 a b c
    rw [Bool.eq_iff_iff]
    simp only [tw3, decide_eq_true_iff, beq_iff_eq]
    constructor
    · intro h; subst h
      rcases ha with ha | ha | ha <;> rcases hb with hb | hb | hb <;> rcases hc with hc | hc | hc <;> omega
    · intro h
      rcases ha with ha | ha | ha <;> rcases hb with hb | hb | hb <;> rcases hc with hc | hc | hc <;> omega

set_option maxRecDepth 100000 in
set_option maxHeartbeats 1000000 in
theorem meTwice_c (v : Value) (a b c : Int) (w : World) (h : RInts w v [a, b, c]) :
    Calls Tryz.prog 83 #[v] w fun e w' => e = .returned (.bool (tw3 a b c)) ∧ Below w.heap.size w w' := by
  have HR := hid h
  obtain ⟨ad, cap, rfl, h1, h2, hc⟩ := h
  obtain ⟨g, o, rfl, c0⟩ := hc 0 (by simp)
  obtain ⟨g1, o1, he, c1⟩ := hc 1 (by simp)
  simp only [Option.some.injEq, Addr.mk.injEq, and_true] at he
  obtain ⟨rfl, rfl⟩ := he
  obtain ⟨g1, o1, he, c2⟩ := hc 2 (by simp)
  simp only [Option.some.injEq, Addr.mk.injEq, and_true] at he
  obtain ⟨rfl, rfl⟩ := he
  clear hc
  have c0 : w.cell? ⟨g, o, none⟩ = some (.int .i64 a) := c0
  have c1 : w.cell? ⟨g, o + 1, none⟩ = some (.int .i64 b) := c1
  have c2 : w.cell? ⟨g, o + 2, none⟩ = some (.int .i64 c) := c2
  unfold maxLen at h2
  simp only [List.length_cons, List.length_nil, Nat.reduceAdd] at h1 HR ⊢
  go_enter Tryz.func83, Tryz.ntmps83
  go_wp2
  go_quiet ((go_at_call 62; exact Calls.quiet_of_same (l1Most_q _ _ _)))
  obtain ⟨m, hm⟩ : ∃ m, max a (max b c) = m := ⟨_, rfl⟩
  rw [hm]
  have HM := hid hm
  clear hm c0 c1 c2
  go_wp2
  go_loopg [4, 20] 3 (fun gk nv iv wr => ∃ k : Nat, ∃ n : Int, k ≤ 3 ∧ gk = 3 - k ∧ iv = .int .i64 k ∧ nv = .int .i64 n ∧ eqN m [a, b, c] 0 = eqN m ([a, b, c].drop k) n ∧ 0 ≤ n ∧ n ≤ (k : Int) ∧ Below w.heap.size w wr)
  case atStart => exact ⟨0, 0, by omega, rfl, rfl, rfl, rfl, by omega, by omega, below_dn2 (Below.refl _ _) _⟩
  case round =>
    obtain ⟨k, n, hk, rfl, rfl, rfl, hr, hn0, hn1, hb⟩ := hrel
    have HRR := hid hr
    have HB := hid hb
    clear hr
    by_cases hlt : k < 3
    · obtain ⟨a', cap', hv, _, _, hc⟩ := HR.out.keep hb
      simp only [Value.slice.injEq] at hv
      obtain ⟨rfl, _, rfl⟩ := hv
      obtain ⟨g', o', x, he, e1, HD, HX⟩ := ints_at hc (show k < [a, b, c].length by simpa using hlt)
      simp only [Option.some.injEq, Addr.mk.injEq, and_true] at he
      obtain ⟨rfl, rfl⟩ := he
      clear hc hb
      have hltz : (k : Int) < 3 := by omega
      rcases Bool.eq_false_or_eq_true (x == m) with t | t
      · have HST : Hid (eqN m [a, b, c] 0 = eqN m ([a, b, c].drop (k + 1)) (n + 1)) := by show _ = _; rw [HRR.out, HD.out, eqN_yes t]
        go_wp2
        go_roundg (3 - (k + 1))
        case rel => exact ⟨k + 1, n + 1, by omega, rfl, by go_num, rfl, HST.out, by omega, by omega, HB.out⟩
        case measure => omega
      · have HST : Hid (eqN m [a, b, c] 0 = eqN m ([a, b, c].drop (k + 1)) n) := by show _ = _; rw [HRR.out, HD.out, eqN_no t]
        go_wp2
        go_roundg (3 - (k + 1))
        case rel => exact ⟨k + 1, n, by omega, rfl, by go_num, rfl, HST.out, by omega, by omega, HB.out⟩
        case measure => omega
    · obtain rfl : k = 3 := by omega
      have HST : Hid (tw3 a b c = decide (1 < n)) := by
        show _ = _
        rw [← eqN_three, HM.out, HRR.out]; rfl
      clear hb
      go_wp2
      all_goals
        go_ret
        exact ⟨ret_bool (by rw [HST.out]), HB.out⟩

set_option maxRecDepth 100000 in
set_option maxHeartbeats 1000000 in
theorem reachesTwice_c (v : Value) (a b c : Int) (w : World) (h : RInts w v [a, b, c]) :
    Calls Tryz.prog 79 #[v] w fun e w' => e = .returned (.bool (tw3 a b c)) ∧ Below w.heap.size w w' := by
  have HR := hid h
  clear h
  have HT := hid (srt_three a b c)
  have HL := hid (srt_len [a, b, c])
  go_enter Tryz.func79, Tryz.ntmps79
  go_wp2_with fail
  refine (slicesValues_c _ _ _ HR.out).mono ?_
  rintro e w' ⟨rfl, rfl⟩
  go_wp2_with fail
  refine (slicesSorted_c _ _ _ HR.out (by simp)).mono ?_
  rintro e w1 ⟨r, rfl, hF, hb⟩
  have HB := hid hb
  obtain ⟨R, hRR⟩ : ∃ R, srt [a, b, c] = R := ⟨_, rfl⟩
  rw [hRR] at hF HT HL
  obtain ⟨ar, nr, cr, rfl⟩ := hF.form3
  obtain rfl : nr = 3 := by have h1 := hF.form; obtain ⟨_, _, h2⟩ := h1; simp only [Value.slice.injEq] at h2; have := HL.out; simp at this; omega
  obtain ⟨g1, x1, rfl, _, _, e1, _, H1⟩ := hF.at (i := 1) (by have := HL.out; simp at this; omega)
  obtain ⟨g2, x2, he, _, _, e2, _, H2⟩ := hF.at (i := 2) (by have := HL.out; simp at this; omega)
  simp only [Option.some.injEq, Addr.mk.injEq, and_true] at he
  subst he
  have HQ : Hid ((x1 == x2) = tw3 a b c) := by show _ = _; rw [← HT.out, H1.out, H2.out]
  clear hF hb hRR
  go_wp2
  go_quiet (fail)
  go_wp2
  go_ret
  exact ⟨ret_bool HQ.out, below_dn2 HB.out _⟩

end Go.Proofs.YtnkbfgnmodfemaaGreatDoor
