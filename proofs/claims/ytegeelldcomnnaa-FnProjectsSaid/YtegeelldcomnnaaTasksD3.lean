/- The drawing functions of tasks (printed by wip/taskdraws3.py). -/
import Derived.Test.YtegeelldcomnnaaTasksD2
import Derived.Test.YtegeelldcomnnaaLawQ
namespace Go.Proofs.Ytegeelldcomnnaa
open Go.RowKit
open Go.Lib (hid)

/-- drawn tasks -/
def RetTk (w : World) (e : Ending) (w' : World) : Prop := ∃ (v : Value) (L : List Tsk), e = .returned v ∧ L.length ≤ 13 ∧ RTasks w' v L ∧ Below w.heap.size w w'
/-- .. and a number; two -/
def RetTkI (w : World) (e : Ending) (w' : World) : Prop := ∃ (v : Value) (L : List Tsk) (x : Int), e = .returned (.tuple #[v, .int .i64 x]) ∧ L.length ≤ 13 ∧ RTasks w' v L ∧ Below w.heap.size w w'
def RetTkII (w : World) (e : Ending) (w' : World) : Prop := ∃ (v : Value) (L : List Tsk) (x y : Int), e = .returned (.tuple #[v, .int .i64 x, .int .i64 y]) ∧ L.length ≤ 13 ∧ RTasks w' v L ∧ Below w.heap.size w w'
/-- .. and numbers; numbers twice -/
def RetTkS (w : World) (e : Ending) (w' : World) : Prop := ∃ (v : Value) (L : List Tsk) (u : Value) (S : List Int), e = .returned (.tuple #[v, u]) ∧ L.length ≤ 13 ∧ S.length ≤ 20 ∧ RTasks w' v L ∧ RInts w' u S ∧ Below w.heap.size w w'
def RetTkSS (w : World) (e : Ending) (w' : World) : Prop := ∃ (v : Value) (L : List Tsk) (u : Value) (S : List Int) (t : Value) (C : List Int), e = .returned (.tuple #[v, u, t]) ∧ L.length ≤ 13 ∧ S.length ≤ 20 ∧ C.length ≤ 20 ∧ RTasks w' v L ∧ RInts w' u S ∧ RInts w' t C ∧ Below w.heap.size w w'
theorem RTasks.form {w : World} {v : Value} {L : List Tsk} (h : RTasks w v L) : ∃ a c, v = .slice a L.length c := by
  obtain ⟨a, cap, rfl, _⟩ := h; exact ⟨_, _, rfl⟩

set_option maxRecDepth 100000 in
set_option maxHeartbeats 4000000 in
theorem DrawAreTasks_c (v : Value) (n : Nat) (w : World) (h : RBytes w v n) :
    Calls Try.prog 117 #[v] w (RetTk w) := by
  have HC := hid (cur_new h)
  obtain ⟨a, cap, rfl, _, _⟩ := h.form
  clear h
  obtain ⟨b, hb⟩ : ∃ b, w.heap.size = b := ⟨_, rfl⟩
  obtain ⟨w0, hw0⟩ : ∃ w0, w.alloc (.cells #[.slice a n cap, .int .i64 0, .int .u64 0] 82) = w0 := ⟨_, rfl⟩
  have HW0 := hid hw0
  have HC0 : Hid (Cur w0 b 0) := by show Cur _ _ _; rw [← hw0, ← hb]; exact HC.out
  have HB := hid hb
  obtain ⟨lo, hlo⟩ : ∃ lo, w0.heap.size = lo := ⟨_, rfl⟩
  have hlt0 := HC0.out.lt
  rw [hlo] at hlt0
  have HS0 : Hid (lo ≤ w0.heap.size) := Nat.le_of_eq hlo.symm
  have HD0 : Hid (Dr b lo w0 w0) := Dr.refl _ _ _
  have HFRESH : Hid (∀ w', Dr b lo w0 w' → Below w.heap.size w w') := fun w' hd => by
    rw [← hlo, ← hw0, ← hb] at hd; exact Dr.fresh hd
  clear hb hw0 HC hlo
  go_enter Try.func117, Try.ntmps117
  go_wp2_with fail
  rw [HB.out, HW0.out]
  refine (tasks_c b 0 _ HC0.out (by omega)).mono ?_
  rintro e w1 ⟨v1, L, rfl, hl13, hT1, hc1, hd1⟩
  have HC1 := hid (hc1.more (show _ ≤ (0 + 2000) by omega))
  have HD1 := hid (HD0.out.trans (hd1.low HS0.out))
  have HS1 : Hid (lo ≤ w1.heap.size) := Nat.le_trans HS0.out hd1.size
  have T_1 := hid ((hT1.mono HS0.out (Nat.le_refl _)))
  obtain ⟨al, cl, rfl⟩ := hT1.form
  clear hT1
  clear hc1 hd1
  go_wp2
  go_ret
  exact ⟨_, L, rfl, hl13, T_1.out.r, HFRESH.out _ HD1.out⟩

set_option maxRecDepth 100000 in
set_option maxHeartbeats 1000000 in
theorem DrawEarliestStarts_c (v : Value) (n : Nat) (w : World) (h : RBytes w v n) :
    Calls Try.prog 43 #[v] w (RetTk w) := by
  have HH := hid h
  obtain ⟨a, cap, rfl, _, _⟩ := h.form
  clear h
  go_enter Try.func43, Try.ntmps43
  go_wp2_with fail
  refine (DrawAreTasks_c _ n _ HH.out).mono ?_
  rintro e w1 ⟨u, L, rfl, hl, hT, hb⟩
  have HF := hid (And.intro hT hb)
  obtain ⟨a3, c3, rfl⟩ := hT.form
  clear hT hb
  go_wp2
  go_ret
  exact ⟨_, L, rfl, hl, HF.out.1, HF.out.2⟩

set_option maxRecDepth 100000 in
set_option maxHeartbeats 1000000 in
theorem DrawFloatsOf_c (v : Value) (n : Nat) (w : World) (h : RBytes w v n) :
    Calls Try.prog 63 #[v] w (RetTk w) := by
  have HH := hid h
  obtain ⟨a, cap, rfl, _, _⟩ := h.form
  clear h
  go_enter Try.func63, Try.ntmps63
  go_wp2_with fail
  refine (DrawAreTasks_c _ n _ HH.out).mono ?_
  rintro e w1 ⟨u, L, rfl, hl, hT, hb⟩
  have HF := hid (And.intro hT hb)
  obtain ⟨a3, c3, rfl⟩ := hT.form
  clear hT hb
  go_wp2
  go_ret
  exact ⟨_, L, rfl, hl, HF.out.1, HF.out.2⟩

set_option maxRecDepth 100000 in
set_option maxHeartbeats 4000000 in
theorem DrawAreStarts_c (v : Value) (n : Nat) (w : World) (h : RBytes w v n) :
    Calls Try.prog 141 #[v] w (RetTkS w) := by
  have HC := hid (cur_new h)
  obtain ⟨a, cap, rfl, _, _⟩ := h.form
  clear h
  obtain ⟨b, hb⟩ : ∃ b, w.heap.size = b := ⟨_, rfl⟩
  obtain ⟨w0, hw0⟩ : ∃ w0, w.alloc (.cells #[.slice a n cap, .int .i64 0, .int .u64 0] 82) = w0 := ⟨_, rfl⟩
  have HW0 := hid hw0
  have HC0 : Hid (Cur w0 b 0) := by show Cur _ _ _; rw [← hw0, ← hb]; exact HC.out
  have HB := hid hb
  obtain ⟨lo, hlo⟩ : ∃ lo, w0.heap.size = lo := ⟨_, rfl⟩
  have hlt0 := HC0.out.lt
  rw [hlo] at hlt0
  have HS0 : Hid (lo ≤ w0.heap.size) := Nat.le_of_eq hlo.symm
  have HD0 : Hid (Dr b lo w0 w0) := Dr.refl _ _ _
  have HFRESH : Hid (∀ w', Dr b lo w0 w' → Below w.heap.size w w') := fun w' hd => by
    rw [← hlo, ← hw0, ← hb] at hd; exact Dr.fresh hd
  clear hb hw0 HC hlo
  go_enter Try.func141, Try.ntmps141
  go_wp2_with fail
  rw [HB.out, HW0.out]
  refine (tasks_c b 0 _ HC0.out (by omega)).mono ?_
  rintro e w1 ⟨v1, L, rfl, hl13, hT1, hc1, hd1⟩
  have HC1 := hid (hc1.more (show _ ≤ (0 + 2000) by omega))
  have HD1 := hid (HD0.out.trans (hd1.low HS0.out))
  have HS1 : Hid (lo ≤ w1.heap.size) := Nat.le_trans HS0.out hd1.size
  have T_1 := hid ((hT1.mono HS0.out (Nat.le_refl _)))
  obtain ⟨al, cl, rfl⟩ := hT1.form
  clear hT1
  clear hc1 hd1
  go_wp2_with fail
  refine (starts_c b (0 + 2000) _ L _ HC1.out (by omega) T_1.out.r hl13).mono ?_
  rintro e w2 ⟨u2, S, rfl, hs20, hF2, hc2, hd2⟩
  have HC2 := hid (hc2.more (show _ ≤ (0 + 2100) by omega))
  have HD2 := hid (HD1.out.trans (hd2.low HS1.out))
  have T_2 := hid (T_1.out.dr hd2 hlt0)
  have HS2 : Hid (lo ≤ w2.heap.size) := Nat.le_trans HS1.out hd2.size
  have F_2 := hid ((hF2.mono HS1.out (Nat.le_refl _)))
  obtain ⟨a3, n3, c3, rfl⟩ := hF2.form3
  clear hF2
  clear hc2 hd2
  go_wp2
  go_ret2
  exact ⟨_, L, _, S, rfl, hl13, hs20, T_2.out.r, F_2.out.r, HFRESH.out _ HD2.out⟩

set_option maxRecDepth 100000 in
set_option maxHeartbeats 1000000 in
theorem DrawMostAtOnce_c (v : Value) (n : Nat) (w : World) (h : RBytes w v n) :
    Calls Try.prog 69 #[v] w (RetTkS w) := by
  have HH := hid h
  obtain ⟨a, cap, rfl, _, _⟩ := h.form
  clear h
  go_enter Try.func69, Try.ntmps69
  go_wp2_with fail
  refine (DrawAreStarts_c _ n _ HH.out).mono ?_
  rintro e w1 ⟨u, L, t, S, rfl, hl, hs, hT, hF, hb⟩
  have HF := hid (And.intro hT (And.intro hF hb))
  obtain ⟨a3, c3, rfl⟩ := hT.form
  obtain ⟨a4, n4, c4, rfl⟩ := hF.form3
  clear hT hF hb
  go_wp2
  go_ret2
  exact ⟨_, L, _, S, rfl, hl, hs, HF.out.1, HF.out.2.1, HF.out.2.2⟩

set_option maxRecDepth 100000 in
set_option maxHeartbeats 4000000 in
theorem DrawLatestStarts_c (v : Value) (n : Nat) (w : World) (h : RBytes w v n) :
    Calls Try.prog 68 #[v] w (RetTkI w) := by
  have HC := hid (cur_new h)
  obtain ⟨a, cap, rfl, _, _⟩ := h.form
  clear h
  obtain ⟨b, hb⟩ : ∃ b, w.heap.size = b := ⟨_, rfl⟩
  obtain ⟨w0, hw0⟩ : ∃ w0, w.alloc (.cells #[.slice a n cap, .int .i64 0, .int .u64 0] 82) = w0 := ⟨_, rfl⟩
  have HW0 := hid hw0
  have HC0 : Hid (Cur w0 b 0) := by show Cur _ _ _; rw [← hw0, ← hb]; exact HC.out
  have HB := hid hb
  obtain ⟨lo, hlo⟩ : ∃ lo, w0.heap.size = lo := ⟨_, rfl⟩
  have hlt0 := HC0.out.lt
  rw [hlo] at hlt0
  have HS0 : Hid (lo ≤ w0.heap.size) := Nat.le_of_eq hlo.symm
  have HD0 : Hid (Dr b lo w0 w0) := Dr.refl _ _ _
  have HFRESH : Hid (∀ w', Dr b lo w0 w' → Below w.heap.size w w') := fun w' hd => by
    rw [← hlo, ← hw0, ← hb] at hd; exact Dr.fresh hd
  clear hb hw0 HC hlo
  go_enter Try.func68, Try.ntmps68
  go_wp2_with fail
  rw [HB.out, HW0.out]
  refine (tasks_c b 0 _ HC0.out (by omega)).mono ?_
  rintro e w1 ⟨v1, L, rfl, hl13, hT1, hc1, hd1⟩
  have HC1 := hid (hc1.more (show _ ≤ (0 + 2000) by omega))
  have HD1 := hid (HD0.out.trans (hd1.low HS0.out))
  have HS1 : Hid (lo ≤ w1.heap.size) := Nat.le_trans HS0.out hd1.size
  have T_1 := hid ((hT1.mono HS0.out (Nat.le_refl _)))
  obtain ⟨al, cl, rfl⟩ := hT1.form
  clear hT1
  clear hc1 hd1
  rcases Bool.eq_false_or_eq_true (tasksB L) with tb | tb
  · go_wp2_with fail
    refine (pjGood_c _ L _ T_1.out.r).mono ?_
    rintro e w2 ⟨rfl, hb2⟩
    have HC2 := hid (HC1.out.keep hb2)
    have HD2 := hid (HD1.out.below (hb2.mono HS1.out))
    have T_2 := hid (T_1.out.grw hb2)
    have HS2 : Hid (lo ≤ w2.heap.size) := Nat.le_trans HS1.out hb2.size
    rw [tb]
    clear hb2
    have HG := hid (good_of_tasksB tb)
    have HOK := hid (earlyF_ok HG.out)
    have hl12 := HG.out.1
    have her := endF_range HG.out
    clear tb
    go_wp2_with fail
    refine (one_c b (0 + 2000) 2 _ HC2.out (by omega) (by omega)).mono ?_
    rintro e w3 ⟨x, rfl, hc3, ht3⟩
    have HC3 := hid (hc3.more (show _ ≤ (0 + 2002) by omega))
    have HD3 := hid (HD2.out.touch HS0.out ht3)
    have T_3 := hid (T_2.out.tch ht3 hlt0)
    have HS3 : Hid (lo ≤ w3.heap.size) := Nat.le_trans HS2.out ht3.size
    clear hc3 ht3
    cases x
    · have HLT := hid (ints_lit w3 w3.heap.size (Nat.le_refl _) [0, 10, 30, 100, 100000, 100001, -1] (by simp)).r
      have HAL : Hid (Below w3.heap.size w3 _) := (Below.refl w3.heap.size w3).alloc (Nat.le_refl _) (.cells ([0, 10, 30, 100, 100000, 100001, -1].map (.int .i64 ·)).toArray 3)
      go_wp2_with fail
      refine (among_c b (0 + 2002) _ [0, 10, 30, 100, 100000, 100001, -1] _ (HC3.out.keep HAL.out) (by omega) HLT.out (by simp) (by simp) (fun p hp => by simp [Value.ownBlock] at hp; have := HS3.out; omega)).mono ?_
      rintro e w4 ⟨y, rfl, _, hc4, ht4⟩
      have HC4 := hid (hc4.more (show _ ≤ (0 + 2004) by omega))
      have HD4 := hid ((HD3.out.below (HAL.out.mono HS3.out)).touch HS0.out ht4)
      have T_4 := hid (T_3.out.grw HAL.out |>.tch ht4 hlt0)
      have HS4 : Hid (lo ≤ w4.heap.size) := Nat.le_trans (Nat.le_trans HS3.out HAL.out.size) ht4.size
      clear hc4 ht4 HLT HAL
      go_wp2
      go_ret2
      exact ⟨_, L, _, rfl, hl13, T_4.out.r, HFRESH.out _ HD4.out⟩
    · go_wp2_with fail
      refine (pjEarly_c _ L _ T_3.out.r HG.out).mono ?_
      rintro e w4 ⟨u4, rfl, hF4, hb4⟩
      have HC4 := hid (HC3.out.keep hb4)
      have HD4 := hid (HD3.out.below (hb4.mono HS3.out))
      have T_4 := hid (T_3.out.grw hb4)
      have HS4 : Hid (lo ≤ w4.heap.size) := Nat.le_trans HS3.out hb4.size
      have F_4 := hid (hF4.r)
      obtain ⟨a3, n3, c3, rfl⟩ := hF4.form3
      clear hF4
      clear hb4
      go_wp2_with fail
      refine (pjEnd_c _ _ L _ _ T_4.out.r F_4.out HOK.out.1 (startsOk_bound HOK.out.2 (by rw [HOK.out.1]; exact hl12)) (good_times HG.out)).mono ?_
      rintro e w5 ⟨rfl, hb5⟩
      have HC5 := hid (HC4.out.keep hb5)
      have HD5 := hid (HD4.out.below (hb5.mono HS4.out))
      have T_5 := hid (T_4.out.grw hb5)
      have HS5 : Hid (lo ≤ w5.heap.size) := Nat.le_trans HS4.out hb5.size
      clear hb5
      obtain ⟨E, hE⟩ : ∃ E, endF L (earlyF L) = E := ⟨_, rfl⟩
      rw [hE] at her ⊢
      clear hE
      have HLT := hid (ints_lit w5 w5.heap.size (Nat.le_refl _) [0, 1, 5, -1] (by simp)).r
      have HAL : Hid (Below w5.heap.size w5 _) := (Below.refl w5.heap.size w5).alloc (Nat.le_refl _) (.cells ([0, 1, 5, -1].map (.int .i64 ·)).toArray 3)
      go_wp2_with fail
      refine (among_c b (0 + 2002) _ [0, 1, 5, -1] _ (HC5.out.keep HAL.out) (by omega) HLT.out (by simp) (by simp) (fun p hp => by simp [Value.ownBlock] at hp; have := HS5.out; omega)).mono ?_
      rintro e w6 ⟨y, rfl, hy, hc6, ht6⟩
      have HC6 := hid (hc6.more (show _ ≤ (0 + 2004) by omega))
      have HD6 := hid ((HD5.out.below (HAL.out.mono HS5.out)).touch HS0.out ht6)
      have T_6 := hid (T_5.out.grw HAL.out |>.tch ht6 hlt0)
      have HS6 : Hid (lo ≤ w6.heap.size) := Nat.le_trans (Nat.le_trans HS5.out HAL.out.size) ht6.size
      clear hc6 ht6 HLT HAL
      have hy2 : -1 ≤ y ∧ y ≤ 5 := by simp at hy; omega
      clear hy
      have f1 : IntKind.i64.wrap (E + y) = E + y := IntWalk.i64_in _ (by omega)
      go_wp2
      go_ret2
      exact ⟨_, L, _, rfl, hl13, T_6.out.r, HFRESH.out _ HD6.out⟩
  · go_wp2_with fail
    refine (pjGood_c _ L _ T_1.out.r).mono ?_
    rintro e w2 ⟨rfl, hb2⟩
    have HC2 := hid (HC1.out.keep hb2)
    have HD2 := hid (HD1.out.below (hb2.mono HS1.out))
    have T_2 := hid (T_1.out.grw hb2)
    have HS2 : Hid (lo ≤ w2.heap.size) := Nat.le_trans HS1.out hb2.size
    rw [tb]
    clear hb2
    have HLT := hid (ints_lit w2 w2.heap.size (Nat.le_refl _) [0, 10, 30, 100, 100000, 100001, -1] (by simp)).r
    have HAL : Hid (Below w2.heap.size w2 _) := (Below.refl w2.heap.size w2).alloc (Nat.le_refl _) (.cells ([0, 10, 30, 100, 100000, 100001, -1].map (.int .i64 ·)).toArray 3)
    go_wp2_with fail
    refine (among_c b (0 + 2000) _ [0, 10, 30, 100, 100000, 100001, -1] _ (HC2.out.keep HAL.out) (by omega) HLT.out (by simp) (by simp) (fun p hp => by simp [Value.ownBlock] at hp; have := HS2.out; omega)).mono ?_
    rintro e w3 ⟨y, rfl, _, hc3, ht3⟩
    have HC3 := hid (hc3.more (show _ ≤ (0 + 2002) by omega))
    have HD3 := hid ((HD2.out.below (HAL.out.mono HS2.out)).touch HS0.out ht3)
    have T_3 := hid (T_2.out.grw HAL.out |>.tch ht3 hlt0)
    have HS3 : Hid (lo ≤ w3.heap.size) := Nat.le_trans (Nat.le_trans HS2.out HAL.out.size) ht3.size
    clear hc3 ht3 HLT HAL
    go_wp2
    go_ret2
    exact ⟨_, L, _, rfl, hl13, T_3.out.r, HFRESH.out _ HD3.out⟩

set_option maxRecDepth 100000 in
set_option maxHeartbeats 4000000 in
theorem DrawEndWithDelay_c (v : Value) (n : Nat) (w : World) (h : RBytes w v n) :
    Calls Try.prog 55 #[v] w (RetTkII w) := by
  have HC := hid (cur_new h)
  obtain ⟨a, cap, rfl, _, _⟩ := h.form
  clear h
  obtain ⟨b, hb⟩ : ∃ b, w.heap.size = b := ⟨_, rfl⟩
  obtain ⟨w0, hw0⟩ : ∃ w0, w.alloc (.cells #[.slice a n cap, .int .i64 0, .int .u64 0] 82) = w0 := ⟨_, rfl⟩
  have HW0 := hid hw0
  have HC0 : Hid (Cur w0 b 0) := by show Cur _ _ _; rw [← hw0, ← hb]; exact HC.out
  have HB := hid hb
  obtain ⟨lo, hlo⟩ : ∃ lo, w0.heap.size = lo := ⟨_, rfl⟩
  have hlt0 := HC0.out.lt
  rw [hlo] at hlt0
  have HS0 : Hid (lo ≤ w0.heap.size) := Nat.le_of_eq hlo.symm
  have HD0 : Hid (Dr b lo w0 w0) := Dr.refl _ _ _
  have HFRESH : Hid (∀ w', Dr b lo w0 w' → Below w.heap.size w w') := fun w' hd => by
    rw [← hlo, ← hw0, ← hb] at hd; exact Dr.fresh hd
  clear hb hw0 HC hlo
  go_enter Try.func55, Try.ntmps55
  go_wp2_with fail
  rw [HB.out, HW0.out]
  refine (tasks_c b 0 _ HC0.out (by omega)).mono ?_
  rintro e w1 ⟨v1, L, rfl, hl13, hT1, hc1, hd1⟩
  have HC1 := hid (hc1.more (show _ ≤ (0 + 2000) by omega))
  have HD1 := hid (HD0.out.trans (hd1.low HS0.out))
  have HS1 : Hid (lo ≤ w1.heap.size) := Nat.le_trans HS0.out hd1.size
  have T_1 := hid ((hT1.mono HS0.out (Nat.le_refl _)))
  obtain ⟨al, cl, rfl⟩ := hT1.form
  clear hT1
  clear hc1 hd1
  have f1 : IntKind.i64.wrap ((L.length : Int) + 1) = (L.length : Int) + 1 := IntWalk.i64_in _ (by omega)
  have f2 : IntKind.i64.wrap ((L.length : Int) - 1) = (L.length : Int) - 1 := IntWalk.i64_in _ (by omega)
  go_wp2_with fail
  refine (pick_c b (0 + 2000) ((L.length : Int) + 1) _ HC1.out (by omega) (by omega)).mono ?_
  rintro e w2 ⟨z, rfl, ⟨hz1, hz2⟩, hc2, ht2⟩
  have HC2 := hid (hc2.more (show _ ≤ (0 + 2002) by omega))
  have HD2 := hid (HD1.out.touch HS0.out ht2)
  have T_2 := hid (T_1.out.tch ht2 hlt0)
  have HS2 : Hid (lo ≤ w2.heap.size) := Nat.le_trans HS1.out ht2.size
  clear hc2 ht2
  have HLT := hid (ints_lit w2 w2.heap.size (Nat.le_refl _) [0, z, (L.length : Int) - 1, (L.length : Int), -1] (by simp)).r
  have HAL : Hid (Below w2.heap.size w2 _) := (Below.refl w2.heap.size w2).alloc (Nat.le_refl _) (.cells ([0, z, (L.length : Int) - 1, (L.length : Int), -1].map (.int .i64 ·)).toArray 3)
  go_wp2_with fail
  refine (among_c b (0 + 2002) _ [0, z, (L.length : Int) - 1, (L.length : Int), -1] _ (HC2.out.keep HAL.out) (by omega) HLT.out (by simp) (by simp) (fun p hp => by simp [Value.ownBlock] at hp; have := HS2.out; omega)).mono ?_
  rintro e w3 ⟨y, rfl, _, hc3, ht3⟩
  have HC3 := hid (hc3.more (show _ ≤ (0 + 2004) by omega))
  have HD3 := hid ((HD2.out.below (HAL.out.mono HS2.out)).touch HS0.out ht3)
  have T_3 := hid (T_2.out.grw HAL.out |>.tch ht3 hlt0)
  have HS3 : Hid (lo ≤ w3.heap.size) := Nat.le_trans (Nat.le_trans HS2.out HAL.out.size) ht3.size
  clear hc3 ht3 HLT HAL
  have HLT := hid (ints_lit w3 w3.heap.size (Nat.le_refl _) [2, -1, 1001] (by simp)).r
  have HAL : Hid (Below w3.heap.size w3 _) := (Below.refl w3.heap.size w3).alloc (Nat.le_refl _) (.cells ([2, -1, 1001].map (.int .i64 ·)).toArray 3)
  go_wp2_with fail
  refine (among_c b (0 + 2004) _ [2, -1, 1001] _ (HC3.out.keep HAL.out) (by omega) HLT.out (by simp) (by simp) (fun p hp => by simp [Value.ownBlock] at hp; have := HS3.out; omega)).mono ?_
  rintro e w4 ⟨q, rfl, _, hc4, ht4⟩
  have HC4 := hid (hc4.more (show _ ≤ (0 + 2006) by omega))
  have HD4 := hid ((HD3.out.below (HAL.out.mono HS3.out)).touch HS0.out ht4)
  have T_4 := hid (T_3.out.grw HAL.out |>.tch ht4 hlt0)
  have HS4 : Hid (lo ≤ w4.heap.size) := Nat.le_trans (Nat.le_trans HS3.out HAL.out.size) ht4.size
  clear hc4 ht4 HLT HAL
  have HLT := hid (ints_lit w4 w4.heap.size (Nat.le_refl _) [0, 1, 5, 1000, q] (by simp)).r
  have HAL : Hid (Below w4.heap.size w4 _) := (Below.refl w4.heap.size w4).alloc (Nat.le_refl _) (.cells ([0, 1, 5, 1000, q].map (.int .i64 ·)).toArray 3)
  go_wp2_with fail
  refine (among_c b (0 + 2006) _ [0, 1, 5, 1000, q] _ (HC4.out.keep HAL.out) (by omega) HLT.out (by simp) (by simp) (fun p hp => by simp [Value.ownBlock] at hp; have := HS4.out; omega)).mono ?_
  rintro e w5 ⟨r, rfl, _, hc5, ht5⟩
  have HC5 := hid (hc5.more (show _ ≤ (0 + 2008) by omega))
  have HD5 := hid ((HD4.out.below (HAL.out.mono HS4.out)).touch HS0.out ht5)
  have T_5 := hid (T_4.out.grw HAL.out |>.tch ht5 hlt0)
  have HS5 : Hid (lo ≤ w5.heap.size) := Nat.le_trans (Nat.le_trans HS4.out HAL.out.size) ht5.size
  clear hc5 ht5 HLT HAL
  go_wp2
  go_ret3
  exact ⟨_, L, _, _, rfl, hl13, T_5.out.r, HFRESH.out _ HD5.out⟩

set_option maxRecDepth 100000 in
set_option maxHeartbeats 4000000 in
theorem DrawIsProvedEnd_c (v : Value) (n : Nat) (w : World) (h : RBytes w v n) :
    Calls Try.prog 61 #[v] w (RetTkSS w) := by
  have HC := hid (cur_new h)
  obtain ⟨a, cap, rfl, _, _⟩ := h.form
  clear h
  obtain ⟨b, hb⟩ : ∃ b, w.heap.size = b := ⟨_, rfl⟩
  obtain ⟨w0, hw0⟩ : ∃ w0, w.alloc (.cells #[.slice a n cap, .int .i64 0, .int .u64 0] 82) = w0 := ⟨_, rfl⟩
  have HW0 := hid hw0
  have HC0 : Hid (Cur w0 b 0) := by show Cur _ _ _; rw [← hw0, ← hb]; exact HC.out
  have HB := hid hb
  obtain ⟨lo, hlo⟩ : ∃ lo, w0.heap.size = lo := ⟨_, rfl⟩
  have hlt0 := HC0.out.lt
  rw [hlo] at hlt0
  have HS0 : Hid (lo ≤ w0.heap.size) := Nat.le_of_eq hlo.symm
  have HD0 : Hid (Dr b lo w0 w0) := Dr.refl _ _ _
  have HFRESH : Hid (∀ w', Dr b lo w0 w' → Below w.heap.size w w') := fun w' hd => by
    rw [← hlo, ← hw0, ← hb] at hd; exact Dr.fresh hd
  clear hb hw0 HC hlo
  go_enter Try.func61, Try.ntmps61
  go_wp2_with fail
  rw [HB.out, HW0.out]
  refine (tasks_c b 0 _ HC0.out (by omega)).mono ?_
  rintro e w1 ⟨v1, L, rfl, hl13, hT1, hc1, hd1⟩
  have HC1 := hid (hc1.more (show _ ≤ (0 + 2000) by omega))
  have HD1 := hid (HD0.out.trans (hd1.low HS0.out))
  have HS1 : Hid (lo ≤ w1.heap.size) := Nat.le_trans HS0.out hd1.size
  have T_1 := hid ((hT1.mono HS0.out (Nat.le_refl _)))
  obtain ⟨al, cl, rfl⟩ := hT1.form
  clear hT1
  clear hc1 hd1
  obtain ⟨C, ok, hC⟩ : ∃ C ok, chnB L = (C, ok) := ⟨_, _, rfl⟩
  have hC12 : C.length ≤ 12 := by have := chnB_len L; rw [hC] at this; exact this
  go_wp2_with fail
  refine (sCriticalChain_u _ L _ T_1.out.r).mono ?_
  rintro e w2 ⟨u2, rfl, hF2, hb2⟩
  have HC2 := hid (HC1.out.keep hb2)
  have HD2 := hid (HD1.out.below (hb2.mono HS1.out))
  have T_2 := hid (T_1.out.grw hb2)
  have HS2 : Hid (lo ≤ w2.heap.size) := Nat.le_trans HS1.out hb2.size
  have P_2 := hid ((show FInts _ lo _ _ C by have h := hF2; rw [hC] at h; exact h.mono HS1.out (Nat.le_refl _)))
  obtain ⟨a5, n5, c5, rfl⟩ := hF2.form3
  clear hF2
  rw [hC]
  clear hb2
  have HTB : Hid (ok = true → tasksB L = true) := fun h => by
    rcases Bool.eq_false_or_eq_true (tasksB L) with tb | tb
    · exact tb
    · rw [chnB_no tb] at hC; cases hC; cases h
  clear hC
  cases ok
  · go_wp2_with fail
    refine (pick_c b (0 + 2000) 4 _ HC2.out (by omega) (by omega)).mono ?_
    rintro e w3 ⟨z, rfl, ⟨hz1, hz2⟩, hc3, ht3⟩
    have HC3 := hid (hc3.more (show _ ≤ (0 + 2002) by omega))
    have HD3 := hid (HD2.out.touch HS0.out ht3)
    have T_3 := hid (T_2.out.tch ht3 hlt0)
    have HS3 : Hid (lo ≤ w3.heap.size) := Nat.le_trans HS2.out ht3.size
    clear hc3 ht3
    obtain ⟨N, rfl⟩ : ∃ N : Nat, z = N := ⟨z.toNat, by omega⟩
    have hN3 : N ≤ 3 := by omega
    have f2 : IntKind.i64.wrap ((L.length : Int) - 1) = (L.length : Int) - 1 := IntWalk.i64_in _ (by omega)
    obtain ⟨hT, hHT⟩ : ∃ hT, w3.heap.size = hT := ⟨_, rfl⟩
    have HHT := hid hHT
    have hltH : b < hT := by rw [← hHT]; exact Nat.lt_of_lt_of_le hlt0 HS3.out
    have hloH : lo ≤ hT := by rw [← hHT]; exact HS3.out
    have HTH : Hid (LTasks w3 lo hT (.slice al L.length cl) L) := by show LTasks _ _ _ _ _; rw [← hHT]; exact T_3.out
    clear hHT
    go_wp2
    go_loopg [9] (N + 1) (fun gk cv wr => ∃ (a3 : Option Addr) (p c3 : Nat) (xs : List Int) (s : Nat), cv = .slice a3 p c3 ∧ p ≤ N ∧ gk = N + 1 - p ∧ Hid (xs.length = p) ∧ s ≤ (0 + 2002) + 4 * p ∧ FInts wr hT wr.heap.size (.slice a3 p c3) xs ∧ LTasks wr lo hT (.slice al L.length cl) L ∧ Cur wr b s ∧ Dr b lo w0 wr ∧ hT ≤ wr.heap.size)
    case atStart => exact ⟨none, 0, 0, [], (0 + 2002), rfl, Nat.zero_le _, rfl, hid rfl, Nat.le_refl _, ints_nil _ _ _, HTH.out, HC3.out, HD3.out, Nat.le_of_eq HHT.out.symm⟩
    case round =>
      obtain ⟨w20, rfl⟩ : ∃ w' : World, w' = wr := ⟨_, rfl⟩
      obtain ⟨a3, p, c3, xs, s, rfl, hp, rfl, HLN, hs, hF, hTT, hc, hd, hsz⟩ := hrel
      have HF20 := hid hF
      have HT20 := hid hTT
      have HS20H := hid hsz
      have HC20 := hid hc
      have HD20 := hid hd
      have HS20 : Hid (lo ≤ w20.heap.size) := Nat.le_trans hloH hsz
      clear hF hTT hc hd hsz
      by_cases hlt : p < N
      · have hltz : (p : Int) < (N : Int) := by omega
        have HLT := hid (ints_lit w20 w20.heap.size (Nat.le_refl _) [0, 1, 2, (L.length : Int) - 1, (L.length : Int)] (by simp)).r
        have HAL : Hid (Below w20.heap.size w20 _) := (Below.refl w20.heap.size w20).alloc (Nat.le_refl _) (.cells ([0, 1, 2, (L.length : Int) - 1, (L.length : Int)].map (.int .i64 ·)).toArray 3)
        go_wp2_with fail
        refine (among_c b s _ [0, 1, 2, (L.length : Int) - 1, (L.length : Int)] _ (HC20.out.keep HAL.out) (by omega) HLT.out (by simp) (by simp) (fun p hp => by simp [Value.ownBlock] at hp; have := HS20.out; omega)).mono ?_
        rintro e w21 ⟨u, rfl, _, hc21, ht21⟩
        have HC21 := hid (hc21.more (show _ ≤ (s + 2) by omega))
        have HD21 := hid ((HD20.out.below (HAL.out.mono HS20.out)).touch HS0.out ht21)
        have HS21 : Hid (lo ≤ w21.heap.size) := Nat.le_trans (Nat.le_trans HS20.out HAL.out.size) ht21.size
        have F_21 := hid ((HF20.out.grw HAL.out).tch ht21 hltH)
        have T_21 := hid ((HT20.out.same (.of_below HAL.out)).same (.of_touch ht21 (.inr hlt0)))
        have HSH21 : Hid (hT ≤ w21.heap.size) := Nat.le_trans (Nat.le_trans HS20H.out HAL.out.size) ht21.size
        clear hc21 ht21 HLT HAL
        go_wp2_with (at_builtin; (refine wpList_push_r (W0 := w21) rfl _ _ rfl hT (.slice a3 p c3) xs u rfl rfl F_21.out (Below.refl _ _) HSH21.out p HLN (by omega) _ (hid rfl) ?_; intro g7 c7 w7 hF7 hb7; have HF7 := hid hF7; have HD7 := hid (HD21.out.below (hb7.mono hloH)); have HC7 := hid (HC21.out.low (hb7.mono hltH)); have HS7 : Hid (hT ≤ w7.heap.size) := Nat.le_trans HSH21.out hb7.size; have HT7 := hid (T_21.out.same (fun c h1 h2 h3 => hb7.block c h2)); clear hF7 hb7))
        go_roundg (N + 1 - (p + 1))
        case rel => exact ⟨_, p + 1, _, xs ++ [u], _, rfl, by omega, by omega, hid (by rw [List.length_append, HLN.out]; rfl), (show s + 2 ≤ (0 + 2002) + 4 * (p + 1) by omega), HF7.out, HT7.out, HC7.out, HD7.out, HS7.out⟩
        case measure => omega
      · obtain rfl : p = N := by omega
        have HX20 := hid (HF20.out.mono hloH (Nat.le_refl _))
        have HTX20 := hid (HT20.out.mono (Nat.le_refl _) HS20H.out)
        go_wp2_with fail
        refine (starts_c b s _ L _ HC20.out (by omega) HTX20.out.r hl13).mono ?_
        rintro e w21 ⟨u21, S, rfl, hs20, hF21, hc21, hd21⟩
        have HC21 := hid (hc21.more (show _ ≤ (s + 100) by omega))
        have HD21 := hid (HD20.out.trans (hd21.low HS20.out))
        have T_21 := hid (HTX20.out.dr hd21 hlt0)
        have X_21 := hid (HX20.out.dr hd21 hlt0)
        have HS21 : Hid (lo ≤ w21.heap.size) := Nat.le_trans HS20.out hd21.size
        have F_21 := hid ((hF21.mono HS20.out (Nat.le_refl _)))
        obtain ⟨a6, n6, c6, rfl⟩ := hF21.form3
        clear hF21
        clear hc21 hd21
        go_wp2
        go_ret3
        exact ⟨_, L, _, S, _, xs, rfl, hl13, hs20, (by rw [HLN.out]; omega), T_21.out.r, F_21.out.r, X_21.out.r, HFRESH.out _ HD21.out⟩
  · have HG := hid (good_of_tasksB (HTB.out rfl))
    go_wp2_with fail
    refine (one_c b (0 + 2000) 4 _ HC2.out (by omega) (by omega)).mono ?_
    rintro e w3 ⟨x, rfl, hc3, ht3⟩
    have HC3 := hid (hc3.more (show _ ≤ (0 + 2002) by omega))
    have HD3 := hid (HD2.out.touch HS0.out ht3)
    have T_3 := hid (T_2.out.tch ht3 hlt0)
    have P_3 := hid (P_2.out.tch ht3 hlt0)
    have HS3 : Hid (lo ≤ w3.heap.size) := Nat.le_trans HS2.out ht3.size
    clear hc3 ht3
    cases x
    · go_wp2_with fail
      refine (one_c b (0 + 2002) 2 _ HC3.out (by omega) (by omega)).mono ?_
      rintro e w4 ⟨y, rfl, hc4, ht4⟩
      have HC4 := hid (hc4.more (show _ ≤ (0 + 2004) by omega))
      have HD4 := hid (HD3.out.touch HS0.out ht4)
      have T_4 := hid (T_3.out.tch ht4 hlt0)
      have P_4 := hid (P_3.out.tch ht4 hlt0)
      have HS4 : Hid (lo ≤ w4.heap.size) := Nat.le_trans HS3.out ht4.size
      clear hc4 ht4
      cases y
      · go_wp2_with fail
        refine (starts_c b (0 + 2004) _ L _ HC4.out (by omega) T_4.out.r hl13).mono ?_
        rintro e w5 ⟨u5, S, rfl, hs20, hF5, hc5, hd5⟩
        have HC5 := hid (hc5.more (show _ ≤ (0 + 2104) by omega))
        have HD5 := hid (HD4.out.trans (hd5.low HS4.out))
        have T_5 := hid (T_4.out.dr hd5 hlt0)
        have P_5 := hid (P_4.out.dr hd5 hlt0)
        have HS5 : Hid (lo ≤ w5.heap.size) := Nat.le_trans HS4.out hd5.size
        have F_5 := hid ((hF5.mono HS4.out (Nat.le_refl _)))
        obtain ⟨a6, n6, c6, rfl⟩ := hF5.form3
        clear hF5
        clear hc5 hd5
        go_wp2
        go_ret3
        exact ⟨_, L, _, S, _, C, rfl, hl13, hs20, (by omega), T_5.out.r, F_5.out.r, P_5.out.r, HFRESH.out _ HD5.out⟩
      · go_wp2_with fail
        refine (pjEarly_c _ L _ T_4.out.r HG.out).mono ?_
        rintro e w5 ⟨u5, rfl, hF5, hb5⟩
        have HC5 := hid (HC4.out.keep hb5)
        have HD5 := hid (HD4.out.below (hb5.mono HS4.out))
        have T_5 := hid (T_4.out.grw hb5)
        have P_5 := hid (P_4.out.grw hb5)
        have HS5 : Hid (lo ≤ w5.heap.size) := Nat.le_trans HS4.out hb5.size
        have F_5 := hid ((hF5.mono HS4.out (Nat.le_refl _)))
        obtain ⟨a6, n6, c6, rfl⟩ := hF5.form3
        clear hF5
        clear hb5
        go_wp2
        go_ret3
        exact ⟨_, L, _, (earlyF L), _, C, rfl, hl13, (by rw [(earlyF_ok HG.out).1]; omega), (by omega), T_5.out.r, F_5.out.r, P_5.out.r, HFRESH.out _ HD5.out⟩
    · go_wp2_with fail
      refine (pick_c b (0 + 2002) 4 _ HC3.out (by omega) (by omega)).mono ?_
      rintro e w4 ⟨z, rfl, ⟨hz1, hz2⟩, hc4, ht4⟩
      have HC4 := hid (hc4.more (show _ ≤ (0 + 2004) by omega))
      have HD4 := hid (HD3.out.touch HS0.out ht4)
      have T_4 := hid (T_3.out.tch ht4 hlt0)
      have HS4 : Hid (lo ≤ w4.heap.size) := Nat.le_trans HS3.out ht4.size
      clear hc4 ht4
      obtain ⟨N, rfl⟩ : ∃ N : Nat, z = N := ⟨z.toNat, by omega⟩
      have hN3 : N ≤ 3 := by omega
      have f2 : IntKind.i64.wrap ((L.length : Int) - 1) = (L.length : Int) - 1 := IntWalk.i64_in _ (by omega)
      obtain ⟨hT, hHT⟩ : ∃ hT, w4.heap.size = hT := ⟨_, rfl⟩
      have HHT := hid hHT
      have hltH : b < hT := by rw [← hHT]; exact Nat.lt_of_lt_of_le hlt0 HS4.out
      have hloH : lo ≤ hT := by rw [← hHT]; exact HS4.out
      have HTH : Hid (LTasks w4 lo hT (.slice al L.length cl) L) := by show LTasks _ _ _ _ _; rw [← hHT]; exact T_4.out
      clear hHT
      go_wp2
      go_loopg [9] (N + 1) (fun gk cv wr => ∃ (a3 : Option Addr) (p c3 : Nat) (xs : List Int) (s : Nat), cv = .slice a3 p c3 ∧ p ≤ N ∧ gk = N + 1 - p ∧ Hid (xs.length = p) ∧ s ≤ (0 + 2004) + 4 * p ∧ FInts wr hT wr.heap.size (.slice a3 p c3) xs ∧ LTasks wr lo hT (.slice al L.length cl) L ∧ Cur wr b s ∧ Dr b lo w0 wr ∧ hT ≤ wr.heap.size)
      case atStart => exact ⟨none, 0, 0, [], (0 + 2004), rfl, Nat.zero_le _, rfl, hid rfl, Nat.le_refl _, ints_nil _ _ _, HTH.out, HC4.out, HD4.out, Nat.le_of_eq HHT.out.symm⟩
      case round =>
        obtain ⟨w20, rfl⟩ : ∃ w' : World, w' = wr := ⟨_, rfl⟩
        obtain ⟨a3, p, c3, xs, s, rfl, hp, rfl, HLN, hs, hF, hTT, hc, hd, hsz⟩ := hrel
        have HF20 := hid hF
        have HT20 := hid hTT
        have HS20H := hid hsz
        have HC20 := hid hc
        have HD20 := hid hd
        have HS20 : Hid (lo ≤ w20.heap.size) := Nat.le_trans hloH hsz
        clear hF hTT hc hd hsz
        by_cases hlt : p < N
        · have hltz : (p : Int) < (N : Int) := by omega
          have HLT := hid (ints_lit w20 w20.heap.size (Nat.le_refl _) [0, 1, 2, (L.length : Int) - 1, (L.length : Int)] (by simp)).r
          have HAL : Hid (Below w20.heap.size w20 _) := (Below.refl w20.heap.size w20).alloc (Nat.le_refl _) (.cells ([0, 1, 2, (L.length : Int) - 1, (L.length : Int)].map (.int .i64 ·)).toArray 3)
          go_wp2_with fail
          refine (among_c b s _ [0, 1, 2, (L.length : Int) - 1, (L.length : Int)] _ (HC20.out.keep HAL.out) (by omega) HLT.out (by simp) (by simp) (fun p hp => by simp [Value.ownBlock] at hp; have := HS20.out; omega)).mono ?_
          rintro e w21 ⟨u, rfl, _, hc21, ht21⟩
          have HC21 := hid (hc21.more (show _ ≤ (s + 2) by omega))
          have HD21 := hid ((HD20.out.below (HAL.out.mono HS20.out)).touch HS0.out ht21)
          have HS21 : Hid (lo ≤ w21.heap.size) := Nat.le_trans (Nat.le_trans HS20.out HAL.out.size) ht21.size
          have F_21 := hid ((HF20.out.grw HAL.out).tch ht21 hltH)
          have T_21 := hid ((HT20.out.same (.of_below HAL.out)).same (.of_touch ht21 (.inr hlt0)))
          have HSH21 : Hid (hT ≤ w21.heap.size) := Nat.le_trans (Nat.le_trans HS20H.out HAL.out.size) ht21.size
          clear hc21 ht21 HLT HAL
          go_wp2_with (at_builtin; (refine wpList_push_r (W0 := w21) rfl _ _ rfl hT (.slice a3 p c3) xs u rfl rfl F_21.out (Below.refl _ _) HSH21.out p HLN (by omega) _ (hid rfl) ?_; intro g7 c7 w7 hF7 hb7; have HF7 := hid hF7; have HD7 := hid (HD21.out.below (hb7.mono hloH)); have HC7 := hid (HC21.out.low (hb7.mono hltH)); have HS7 : Hid (hT ≤ w7.heap.size) := Nat.le_trans HSH21.out hb7.size; have HT7 := hid (T_21.out.same (fun c h1 h2 h3 => hb7.block c h2)); clear hF7 hb7))
          go_roundg (N + 1 - (p + 1))
          case rel => exact ⟨_, p + 1, _, xs ++ [u], _, rfl, by omega, by omega, hid (by rw [List.length_append, HLN.out]; rfl), (show s + 2 ≤ (0 + 2004) + 4 * (p + 1) by omega), HF7.out, HT7.out, HC7.out, HD7.out, HS7.out⟩
          case measure => omega
        · obtain rfl : p = N := by omega
          have HX20 := hid (HF20.out.mono hloH (Nat.le_refl _))
          have HTX20 := hid (HT20.out.mono (Nat.le_refl _) HS20H.out)
          go_wp2_with fail
          refine (starts_c b s _ L _ HC20.out (by omega) HTX20.out.r hl13).mono ?_
          rintro e w21 ⟨u21, S, rfl, hs20, hF21, hc21, hd21⟩
          have HC21 := hid (hc21.more (show _ ≤ (s + 100) by omega))
          have HD21 := hid (HD20.out.trans (hd21.low HS20.out))
          have T_21 := hid (HTX20.out.dr hd21 hlt0)
          have X_21 := hid (HX20.out.dr hd21 hlt0)
          have HS21 : Hid (lo ≤ w21.heap.size) := Nat.le_trans HS20.out hd21.size
          have F_21 := hid ((hF21.mono HS20.out (Nat.le_refl _)))
          obtain ⟨a6, n6, c6, rfl⟩ := hF21.form3
          clear hF21
          clear hc21 hd21
          go_wp2
          go_ret3
          exact ⟨_, L, _, S, _, xs, rfl, hl13, hs20, (by rw [HLN.out]; omega), T_21.out.r, F_21.out.r, X_21.out.r, HFRESH.out _ HD21.out⟩

end Go.Proofs.Ytegeelldcomnnaa
