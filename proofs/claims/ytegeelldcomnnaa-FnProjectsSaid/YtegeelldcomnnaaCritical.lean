/- The critical tasks: both programs' functions. -/
import Derived.Test.YtegeelldcomnnaaFloats
namespace Go.Proofs.Ytegeelldcomnnaa
open Go.RowKit
open Go.Lib (hid)

theorem push_round {w wr : World} {B : Nat} {o : Value} {xs : List Int} (x : Int) (hl : xs.length ≤ 1048576) (hF : FInts wr B wr.heap.size o xs) (hb : Below B w wr) (hB : B ≤ wr.heap.size) :
    FInts (wr.alloc (.cells #[.int .i64 x] 3)) B wr.heap.size o xs ∧ RInts (wr.alloc (.cells #[.int .i64 x] 3)) (.slice (some ⟨wr.heap.size, 0, none⟩) 1 1) [x] ∧ xs.length + 1 ≤ 1099511627776 ∧ B ≤ (wr.alloc (.cells #[.int .i64 x] 3)).heap.size ∧
      ∀ w', (wr.alloc (.cells #[.int .i64 x] 3)).grownBy w' o.ownBlock → Below B w w' := by
  obtain ⟨p1, p2, p3⟩ := push_pre hF x
  exact ⟨p1, p2, by omega, Nat.le_trans hB p3, fun w' hg => hb.trans ((push_post hF hg).below (Nat.le_refl _) hB)⟩

/-- the places of n in a list -/
def plcL (n : Int) : Nat → List Int → List Int → List Int
  | _, [], acc => acc
  | i, x :: xs, acc => plcL n (i + 1) xs (if x == n then acc ++ [(i : Int)] else acc)
theorem plcL_nil (n : Int) (i : Nat) (acc : List Int) : plcL n i [] acc = acc := rfl
theorem plcL_yes {n x : Int} (h : (x == n) = true) (i : Nat) (xs acc : List Int) : plcL n i (x :: xs) acc = plcL n (i + 1) xs (acc ++ [(i : Int)]) := by rw [plcL, h]; rfl
theorem plcL_no {n x : Int} (h : (x == n) = false) (i : Nat) (xs acc : List Int) : plcL n i (x :: xs) acc = plcL n (i + 1) xs acc := by rw [plcL, h]; rfl
theorem plcL_len (n : Int) : ∀ (l : List Int) (i : Nat) (acc : List Int), (plcL n i l acc).length ≤ acc.length + l.length := by
  intro l
  induction l with
  | nil => intro i acc; exact Nat.le_refl _
  | cons x xs ih =>
    intro i acc
    rcases Bool.eq_false_or_eq_true (x == n) with t | t
    · rw [plcL_yes t]; have := ih (i + 1) (acc ++ [(i : Int)]); simp at this ⊢; omega
    · rw [plcL_no t]; have := ih (i + 1) acc; simp at this ⊢; omega
def placesF (U : List Int) (n : Int) : List Int := plcL n 0 U []
theorem placesF_len (U : List Int) (n : Int) : (placesF U n).length ≤ U.length := by have := plcL_len n U 0 []; simpa [placesF] using this

set_option maxRecDepth 100000 in
set_option maxHeartbeats 1000000 in
theorem placesOf_c (v : Value) (U : List Int) (n : Int) (w : World) (h : RInts w v U) (hl : U.length ≤ 1048576) :
    Calls Try.prog 134 #[v, .int .i64 n] w (RetInts w (placesF U n)) := by
  have HR := hid h
  obtain ⟨a, cap, rfl, h1, h2, hc⟩ := h
  clear hc
  unfold maxLen at h2
  go_enter Try.func134, Try.ntmps134
  go_wp2
  go_loopg [5, 11] U.length (fun gk o i wr => ∃ k : Nat, ∃ acc : List Int, k ≤ U.length ∧ gk = U.length - k ∧ i = .int .i64 k ∧ acc.length ≤ k ∧ placesF U n = plcL n k (U.drop k) acc ∧ FInts wr w.heap.size wr.heap.size o acc ∧ Below w.heap.size w wr)
  case atStart => exact ⟨0, [], Nat.zero_le _, rfl, rfl, Nat.zero_le _, rfl, (ints_empty w _ (Nat.le_refl _)).mono (Nat.le_refl _) (by simp), (Below.refl _ _).alloc (Nat.le_refl _) _⟩
  case round =>
    obtain ⟨k, acc, hk, rfl, rfl, hacc, hr, hF, hb⟩ := hrel
    have HRR := hid hr; clear hr
    by_cases hlt : k < U.length
    · obtain ⟨a', cap', hv, _, _, hc⟩ := HR.out.keep hb
      simp only [Value.slice.injEq, true_and] at hv
      obtain ⟨rfl, rfl⟩ := hv
      obtain ⟨g, o, x, rfl, c1, HD, HX⟩ := ints_at hc hlt
      obtain ⟨au, cu, rfl⟩ := hF.form
      obtain ⟨p1, p2, p3, p4, p5⟩ := push_round (k : Int) (by omega) hF hb hb.size
      have HP5 := hid p5
      have HF := hid hF
      have HB := hid hb
      clear hc hF hb p5
      have hltz : (k : Int) < (U.length : Int) := by omega
      rcases Bool.eq_false_or_eq_true (x == n) with t | t
      · go_wp2_with (at_builtin; refine wpList_append_ints rfl _ _ rfl _ _ _ _ _ [(k : Int)] rfl rfl p1 p2 p3 p4 ?_; intro v' w' hF' hg hn)
        go_roundg (U.length - (k + 1))
        case rel => exact ⟨k + 1, _, by omega, rfl, by go_num, by simp; omega, by rw [HRR.out, HD.out, plcL_yes t], hF', HP5.out _ hg⟩
        case measure => omega
      · clear p1 p2 p3 p4
        go_wp2
        go_roundg (U.length - (k + 1))
        case rel => exact ⟨k + 1, _, by omega, rfl, by go_num, by omega, by rw [HRR.out, HD.out, plcL_no t], HF.out, HB.out⟩
        case measure => omega
    · have HG : Hid (placesF U n = acc) := by show _ = _; rw [HRR.out, List.drop_eq_nil_of_le (by omega), plcL_nil]
      have HF := hid hF
      have HB := hid hb
      clear hF hb
      go_wp2
      go_ret
      exact ⟨_, rfl, by rw [HG.out]; exact HF.out, HB.out⟩

def critB (L : List Tsk) : List Int × Bool := if tasksB L then (placesF (floatF L) 0, true) else ([], false)
theorem critB_yes {L : List Tsk} (h : tasksB L = true) : critB L = (placesF (floatF L) 0, true) := by rw [critB, h]; rfl
theorem critB_no {L : List Tsk} (h : tasksB L = false) : critB L = ([], false) := by rw [critB, h]; rfl
theorem critB_len (L : List Tsk) : (critB L).1.length ≤ 12 := by
  rcases Bool.eq_false_or_eq_true (tasksB L) with h | h
  · rw [critB_yes h]; have := floatF_len (good_of_tasksB h); have := (tasksB_at h).1; have := placesF_len (floatF L) 0; show (placesF (floatF L) 0).length ≤ 12; omega
  · rw [critB_no h]; simp

set_option maxHeartbeats 1000000 in
theorem iCriticalTasks_u (v : Value) (L : List Tsk) (w : World) (h : RTasks w v L) :
    Calls Try.prog 58 #[v] w (RetIntsB w (critB L)) := by
  rcases Bool.eq_false_or_eq_true (tasksB L) with t | t
  · have hg := good_of_tasksB t
    have HB := hid (critB_yes t)
    have HG := hid hg
    have HLN := hid (floatF_len hg)
    have HL12 := hid hg.1
    clear hg
    go_enter Try.func58, Try.ntmps58
    go_wp2_with fail
    refine (areTasks_c _ L _ h).mono ?_
    rintro e w1 ⟨rfl, hb1⟩
    rw [t]
    have h1 := h.keep hb1
    go_wp2_with fail
    refine (floats_c _ L _ h1 HG.out).mono ?_
    rintro e w2 ⟨u, rfl, hF, hb2⟩
    have HB2 := hid (hb1.trans (hb2.mono hb1.size))
    have hR := hF.r
    clear hb1 hb2 h h1 hF
    go_wp2_with fail
    refine (placesOf_c _ _ _ _ hR (by rw [HLN.out]; have := HL12.out; omega)).mono ?_
    rintro e w3 ⟨u3, rfl, hF3, hb3⟩
    have HB3 := hid (HB2.out.trans (hb3.mono HB2.out.size))
    have HF3 := hid (hF3.mono HB2.out.size (Nat.le_refl _))
    clear hF3 hb3 hR
    go_wp2
    go_ret2
    exact ⟨u3, by rw [HB.out]; rfl, by rw [HB.out]; exact HF3.out, HB3.out⟩
  · have HB := hid (critB_no t)
    go_enter Try.func58, Try.ntmps58
    go_wp2_with fail
    refine (areTasks_c _ L _ h).mono ?_
    rintro e w1 ⟨rfl, hb1⟩
    rw [t]
    go_wp2
    go_ret2
    exact retIntsB_no hb1 HB.out _ rfl

set_option maxRecDepth 100000 in
set_option maxHeartbeats 2000000 in
theorem sCriticalTasks_u (v : Value) (L : List Tsk) (w : World) (h : RTasks w v L) :
    Calls Try.prog 59 #[v] w (RetIntsB w (critB L)) := by
  rcases Bool.eq_false_or_eq_true (tasksB L) with t | t
  · have hg := good_of_tasksB t
    have HB := hid (critB_yes t)
    have HG := hid hg
    have HLN := hid (floatF_len hg)
    have HL12 := hid hg.1
    clear hg
    go_enter Try.func59, Try.ntmps59
    go_wp2_with fail
    refine (pjGood_c _ L _ h).mono ?_
    rintro e w1 ⟨rfl, hb1⟩
    rw [t]
    have h1 := h.keep hb1
    go_wp2_with fail
    refine (pjFloats_c _ L _ h1 HG.out).mono ?_
    rintro e w2 ⟨u, rfl, hF, hb2⟩
    have HB2 := hid (hb1.trans (hb2.mono hb1.size))
    have hR := hF.r
    clear hb1 hb2 h h1 hF
    obtain ⟨U, hU⟩ : ∃ U, floatF L = U := ⟨_, rfl⟩
    have HUL : Hid (U.length ≤ 12) := by show _ ≤ _; rw [← hU, HLN.out]; exact HL12.out
    rw [hU] at hR
    have HU := hid hU
    have HR := hid hR
    have hlen := HUL.out
    clear hU
    obtain ⟨a, cap, rfl, q1, q2, hc⟩ := hR
    clear hc
    unfold maxLen at q2
    go_wp2
    go_loopg [4, 13] U.length (fun gk o i wr => ∃ k : Nat, ∃ acc : List Int, k ≤ U.length ∧ gk = U.length - k ∧ i = .int .i64 k ∧ acc.length ≤ k ∧ placesF U 0 = plcL 0 k (U.drop k) acc ∧ FInts wr w2.heap.size wr.heap.size o acc ∧ Below w2.heap.size w2 wr)
    case atStart => exact ⟨0, [], Nat.zero_le _, rfl, rfl, Nat.zero_le _, rfl, ints_nil _ _ _, Below.refl _ _⟩
    case round =>
      obtain ⟨k, acc, hk, rfl, rfl, hacc, hr, hF, hb⟩ := hrel
      have HRR := hid hr; clear hr
      by_cases hlt : k < U.length
      · obtain ⟨a', cap', hv, _, _, hc⟩ := HR.out.keep hb
        simp only [Value.slice.injEq, true_and] at hv
        obtain ⟨rfl, rfl⟩ := hv
        obtain ⟨g, o, x, rfl, c1, HD, HX⟩ := ints_at hc hlt
        obtain ⟨au, cu, rfl⟩ := hF.form
        obtain ⟨p1, p2, p3, p4, p5⟩ := push_round (k : Int) (by omega) hF hb hb.size
        have HP5 := hid p5
        have HF := hid hF
        have HB := hid hb
        clear hc hF hb p5
        have hltz : (k : Int) < (U.length : Int) := by omega
        rcases Bool.eq_false_or_eq_true (x == 0) with t' | t'
        · go_wp2_with (at_builtin; refine wpList_append_ints rfl _ _ rfl _ _ _ _ _ [(k : Int)] rfl rfl p1 p2 p3 p4 ?_; intro v' w' hF' hg hn)
          go_roundg (U.length - (k + 1))
          case rel => exact ⟨k + 1, _, by omega, rfl, by go_num, by simp; omega, by rw [HRR.out, HD.out, plcL_yes t'], hF', HP5.out _ hg⟩
          case measure => omega
        · clear p1 p2 p3 p4
          go_wp2
          go_roundg (U.length - (k + 1))
          case rel => exact ⟨k + 1, _, by omega, rfl, by go_num, by omega, by rw [HRR.out, HD.out, plcL_no t'], HF.out, HB.out⟩
          case measure => omega
      · have HG2 : Hid (placesF (floatF L) 0 = acc) := by show _ = _; rw [HU.out, HRR.out, List.drop_eq_nil_of_le (by omega), plcL_nil]
        have HF := hid (hF.mono HB2.out.size (Nat.le_refl _))
        have HB3 := hid (HB2.out.trans (hb.mono HB2.out.size))
        clear hF hb
        go_wp2
        go_ret2
        exact ⟨_, by rw [HB.out]; rfl, by rw [HB.out]; show FInts _ _ _ _ _; rw [HG2.out]; exact HF.out, HB3.out⟩
  · have HB := hid (critB_no t)
    go_enter Try.func59, Try.ntmps59
    go_wp2_with fail
    refine (pjGood_c _ L _ h).mono ?_
    rintro e w1 ⟨rfl, hb1⟩
    rw [t]
    go_wp2
    go_ret2
    exact retIntsB_no hb1 HB.out _ rfl

end Go.Proofs.Ytegeelldcomnnaa
