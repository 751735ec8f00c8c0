/- Latest starts, floats and critical tasks: both programs' functions. -/
import Derived.Test.YtegeelldcomnnaaLate2
import Derived.Test.YtegeelldcomnnaaLateLaw
namespace Go.Proofs.Ytegeelldcomnnaa
open Go.RowKit
open Go.Lib (hid)

def lateB (L : List Tsk) (e : Int) : List Int × Bool := if tasksB L && (inB e 0 100000 && decide (endF L (earlyF L) ≤ e)) then (lateF L e, true) else ([], false)
theorem lateB_yes {L : List Tsk} {e : Int} (h : tasksB L = true) (h' : inB e 0 100000 = true) (h2 : decide (endF L (earlyF L) ≤ e) = true) : lateB L e = (lateF L e, true) := by rw [lateB, h, h', h2]; rfl
theorem lateB_no1 {L : List Tsk} {e : Int} (h : tasksB L = false) : lateB L e = ([], false) := by rw [lateB, h]; rfl
theorem lateB_no2 {L : List Tsk} {e : Int} (h : inB e 0 100000 = false) : lateB L e = ([], false) := by rw [lateB, h]; simp
theorem lateB_no3 {L : List Tsk} {e : Int} (h2 : decide (endF L (earlyF L) ≤ e) = false) : lateB L e = ([], false) := by rw [lateB, h2]; simp
theorem lateB_len (L : List Tsk) (e : Int) : (lateB L e).1.length ≤ 12 := by
  unfold lateB
  by_cases h : tasksB L = true
  · have := (lateF_ok (e := e) (good_of_tasksB h)).1
    have := (tasksB_at h).1
    split
    · show (lateF L e).length ≤ 12; omega
    · simp
  · rw [if_neg (by simp [h])]; simp

set_option maxHeartbeats 400000 in
theorem toldTimes_c (v : Value) (S : List Int) (w : World) (h : RInts w v S) :
    Calls Try.prog 128 #[v] w fun e w' => e = .returned (if allB S 0 100000 then .tuple #[v, .bool true] else .tuple #[.slice none 0 0, .bool false]) ∧ w = w' := by
  have hR := h
  obtain ⟨a, cap, rfl, _, _, hc⟩ := h
  clear hc
  rcases Bool.eq_false_or_eq_true (allB S 0 100000) with t | t
  all_goals
    rw [t]
    go_enter Try.func128, Try.ntmps128
    go_wp2_with (go_at_call 161; refine (areTimes_c _ S _ hR).mono ?_; rintro e w' ⟨rfl, rfl⟩)
    go_ret2
    exact ⟨rfl, rfl⟩

set_option maxHeartbeats 2000000 in
theorem iLatestStarts_u (v : Value) (L : List Tsk) (e : Int) (w : World) (h : RTasks w v L) :
    Calls Try.prog 52 #[v, .int .i64 e] w (RetIntsB w (lateB L e)) := by
  rcases Bool.eq_false_or_eq_true (tasksB L) with t | t
  · rcases Bool.eq_false_or_eq_true (inB e 0 100000) with t2 | t2
    · have hg := good_of_tasksB t
      have he := inB_iff.1 t2
      have HE := hid (late_iff hg he.1 he.2)
      have HG := hid hg; clear hg
      have HT := hid t
      have HT2 := hid t2
      go_enter Try.func52, Try.ntmps52
      go_wp2_with fail
      refine (areTasks_c _ L _ h).mono ?_
      rintro r w1 ⟨rfl, hb1⟩
      rw [t]
      have h1 := h.keep hb1
      go_wp2_with (go_at_call 98; refine (within_c _ _ _ _).mono ?_; rintro r w' ⟨rfl, rfl⟩)
      refine (latest_c _ L e _ h1 HG.out he.1 he.2).mono ?_
      rintro r w2 ⟨u, rfl, hF, hb2⟩
      have HB2 := hid (hb1.trans (hb2.mono hb1.size))
      have HF := hid (hF.mono hb1.size (Nat.le_refl _))
      have hR := hF.r
      clear hb1 hb2 h h1 hF
      go_wp2_with fail
      refine (toldTimes_c _ _ _ hR).mono ?_
      rintro r w3 ⟨rfl, rfl⟩
      clear hR
      rcases Bool.eq_false_or_eq_true (allB (lateF L e) 0 100000) with t3 | t3
      · rw [t3]
        have HB := hid (lateB_yes HT.out HT2.out (HE.out.symm.trans t3))
        clear HE
        go_wp2
        go_ret2
        exact ⟨u, by rw [HB.out]; rfl, by rw [HB.out]; exact HF.out, HB2.out⟩
      · rw [t3]
        have HB := hid (lateB_no3 (HE.out.symm.trans t3))
        clear HE
        go_wp2
        go_ret2
        exact retIntsB_no HB2.out HB.out _ rfl
    · have HB := hid (lateB_no2 (L := L) t2)
      go_enter Try.func52, Try.ntmps52
      go_wp2_with fail
      refine (areTasks_c _ L _ h).mono ?_
      rintro r w1 ⟨rfl, hb1⟩
      rw [t]
      go_wp2_with (go_at_call 98; refine (within_c _ _ _ _).mono ?_; rintro r w' ⟨rfl, rfl⟩)
      go_ret2
      exact retIntsB_no hb1 HB.out _ rfl
  · have HB := hid (lateB_no1 (e := e) t)
    go_enter Try.func52, Try.ntmps52
    go_wp2_with fail
    refine (areTasks_c _ L _ h).mono ?_
    rintro r w1 ⟨rfl, hb1⟩
    rw [t]
    go_wp2
    go_ret2
    exact retIntsB_no hb1 HB.out _ rfl

set_option maxHeartbeats 2000000 in
theorem sLatestStarts_u (v : Value) (L : List Tsk) (e : Int) (w : World) (h : RTasks w v L) :
    Calls Try.prog 53 #[v, .int .i64 e] w (RetIntsB w (lateB L e)) := by
  rcases Bool.eq_false_or_eq_true (tasksB L) with t | t
  · rcases Bool.eq_false_or_eq_true (inB e 0 100000) with t2 | t2
    · have hg := good_of_tasksB t
      have he := inB_iff.1 t2
      have HOK := hid (earlyF_ok hg)
      have HG := hid hg; clear hg
      have HT := hid t
      have HT2 := hid t2
      have HL12 := hid (HG.out.1)
      go_enter Try.func53, Try.ntmps53
      go_wp2_with fail
      refine (pjGood_c _ L _ h).mono ?_
      rintro r w1 ⟨rfl, hb1⟩
      rw [t]
      have h1 := h.keep hb1
      go_wp2_with (go_at_call 103; refine (l1In_c _ _ _ _).mono ?_; rintro r w' ⟨rfl, rfl⟩)
      refine (pjEarly_c _ L _ h1 HG.out).mono ?_
      rintro r w2 ⟨u, rfl, hF, hb2⟩
      have h2 := h1.keep hb2
      have HB2 := hid (hb1.trans (hb2.mono hb1.size))
      have hR := hF.r
      clear hb1 hb2 h h1 hF
      go_wp2_with fail
      refine (pjEnd_c _ _ L _ _ h2 hR HOK.out.1 (startsOk_bound HOK.out.2 (by rw [HOK.out.1]; exact HL12.out)) (good_times HG.out)).mono ?_
      rintro r w3 ⟨rfl, hb3⟩
      have h3 := h2.keep hb3
      have HB3 := hid (HB2.out.trans (hb3.mono HB2.out.size))
      clear h2 hb3 hR
      obtain ⟨q, hq⟩ : ∃ q, endF L (earlyF L) = q := ⟨_, rfl⟩
      rw [hq]
      have HQ := hid hq; clear hq
      by_cases t3 : q ≤ e
      · have HB := hid (lateB_yes HT.out HT2.out (by rw [HQ.out]; exact decide_eq_true t3))
        go_wp2_with fail
        refine (pjLate_c _ L e _ h3 HG.out he.1 he.2).mono ?_
        rintro r w4 ⟨u4, rfl, hF4, hb4⟩
        have HB4 := hid (HB3.out.trans (hb4.mono HB3.out.size))
        have HF4 := hid (hF4.mono HB3.out.size (Nat.le_refl _))
        clear hF4 hb4 h3
        go_wp2
        go_ret2
        exact ⟨u4, by rw [HB.out]; rfl, by rw [HB.out]; exact HF4.out, HB4.out⟩
      · have HB := hid (lateB_no3 (L := L) (e := e) (by rw [HQ.out]; exact decide_eq_false t3))
        have t3' : e < q := by omega
        clear t3
        go_wp2
        go_ret2
        exact retIntsB_no HB3.out HB.out _ rfl
    · have HB := hid (lateB_no2 (L := L) t2)
      go_enter Try.func53, Try.ntmps53
      go_wp2_with fail
      refine (pjGood_c _ L _ h).mono ?_
      rintro r w1 ⟨rfl, hb1⟩
      rw [t]
      go_wp2_with (go_at_call 103; refine (l1In_c _ _ _ _).mono ?_; rintro r w' ⟨rfl, rfl⟩)
      go_ret2
      exact retIntsB_no hb1 HB.out _ rfl
  · have HB := hid (lateB_no1 (e := e) t)
    go_enter Try.func53, Try.ntmps53
    go_wp2_with fail
    refine (pjGood_c _ L _ h).mono ?_
    rintro r w1 ⟨rfl, hb1⟩
    rw [t]
    go_wp2
    go_ret2
    exact retIntsB_no hb1 HB.out _ rfl

/-! ### differences -/
def diffF (U V : List Int) : List Int := (List.range U.length).map fun i => U.getD i 0 - V.getD i 0
theorem diffF_len (U V : List Int) : (diffF U V).length = U.length := by simp [diffF]
theorem diffF_take {U V : List Int} {k : Nat} {x y : Int} (hk : k < U.length) (hx : U.getD k 0 = x) (hy : V.getD k 0 = y) : (diffF U V).take (k + 1) = (diffF U V).take k ++ [x - y] := by
  have hl : k < (diffF U V).length := by rw [diffF_len]; exact hk
  rw [List.take_succ_eq_append_getElem hl]
  congr 2
  rw [← hx, ← hy]
  simp [diffF]
theorem diffF_full {U V : List Int} {k : Nat} (hk : U.length ≤ k) : (diffF U V).take k = diffF U V := List.take_of_length_le (by rw [diffF_len]; exact hk)
/-- both lists' numbers are not great -/
def NearB (U V : List Int) : Prop := V.length = U.length ∧ U.length ≤ 1048576 ∧ ∀ j, j < U.length → -1000000 ≤ U.getD j 0 ∧ U.getD j 0 ≤ 1000000 ∧ -1000000 ≤ V.getD j 0 ∧ V.getD j 0 ≤ 1000000

theorem diff_round {w wr : World} {U V : List Int} {k : Nat} {o : Value} {x y : Int} (hk : k < U.length) (hx : U.getD k 0 = x) (hy : V.getD k 0 = y) (hU : U.length ≤ 1048576) (hF : FInts wr w.heap.size wr.heap.size o ((diffF U V).take k)) (hb : Below w.heap.size w wr) :
    ∃ xs, FInts (wr.alloc (.cells #[.int .i64 (x - y)] 3)) w.heap.size wr.heap.size o xs ∧ RInts (wr.alloc (.cells #[.int .i64 (x - y)] 3)) (.slice (some ⟨wr.heap.size, 0, none⟩) 1 1) [x - y] ∧ xs.length + 1 ≤ 1099511627776 ∧ w.heap.size ≤ (wr.alloc (.cells #[.int .i64 (x - y)] 3)).heap.size ∧
      ∀ w' v', FInts w' w.heap.size w'.heap.size v' (xs ++ [x - y]) → (wr.alloc (.cells #[.int .i64 (x - y)] 3)).grownBy w' o.ownBlock → FInts w' w.heap.size w'.heap.size v' ((diffF U V).take (k + 1)) ∧ Below w.heap.size w w' := by
  obtain ⟨p1, p2, p3⟩ := push_pre hF (x - y)
  refine ⟨_, p1, p2, by rw [List.length_take, diffF_len]; omega, Nat.le_trans hb.size p3, fun w' v' hF' hg => ?_⟩
  rw [diffF_take hk hx hy]
  exact ⟨hF', hb.trans ((push_post hF hg).below (Nat.le_refl _) hb.size)⟩

set_option maxRecDepth 100000 in
set_option maxHeartbeats 1000000 in
theorem differences_c (v u : Value) (U V : List Int) (w : World) (h : RInts w v U) (h' : RInts w u V) (hn : NearB U V) :
    Calls Try.prog 162 #[v, u] w (RetInts w (diffF U V)) := by
  have HR := hid h
  have HU := hid h'
  have HN := hid hn
  have hlen := hn.2.1
  obtain ⟨a, cap, rfl, h1, h2, hc⟩ := h
  obtain ⟨b, capb, rfl, h1', h2', hc'⟩ := h'
  clear hc hc' hn
  unfold maxLen at h2 h2'
  go_enter Try.func162, Try.ntmps162
  go_wp2
  go_loopg [5, 11] U.length (fun gk o i wr => ∃ k : Nat, k ≤ U.length ∧ gk = U.length - k ∧ i = .int .i64 k ∧ FInts wr w.heap.size wr.heap.size o ((diffF U V).take k) ∧ Below w.heap.size w wr)
  case atStart => exact ⟨0, Nat.zero_le _, rfl, rfl, (ints_empty w _ (Nat.le_refl _)).mono (Nat.le_refl _) (by simp), (Below.refl _ _).alloc (Nat.le_refl _) _⟩
  case round =>
    obtain ⟨k, hk, rfl, rfl, hF, hb⟩ := hrel
    by_cases hlt : k < U.length
    · obtain ⟨a', cap', hv, _, _, hc⟩ := HR.out.keep hb
      simp only [Value.slice.injEq, true_and] at hv
      obtain ⟨rfl, rfl⟩ := hv
      obtain ⟨b', capb', hv, _, _, hc'⟩ := HU.out.keep hb
      simp only [Value.slice.injEq, true_and] at hv
      obtain ⟨rfl, rfl⟩ := hv
      obtain ⟨g, o, x, rfl, c1, _, HX⟩ := ints_at hc hlt
      obtain ⟨gb, ob, y, rfl, c2, _, HY⟩ := ints_at hc' (show k < V.length by have := HN.out.1; omega)
      have hx := HN.out.2.2 k hlt
      rw [HX.out, HY.out] at hx
      obtain ⟨au, nu, cu, rfl⟩ := hF.form3
      obtain ⟨xs, p1, p2, p3, p4, p5⟩ := diff_round hlt HX.out HY.out hlen hF hb
      have HP5 := hid p5
      clear hc hc' hF hb p5
      have hltz : (k : Int) < (U.length : Int) := by omega
      have hltz2 : (k : Int) < (V.length : Int) := by have := HN.out.1; omega
      have f1 : IntKind.i64.wrap (x - y) = x - y := IntWalk.i64_in _ (by omega)
      go_wp2_with (at_builtin; refine wpList_append_ints rfl _ _ rfl _ _ _ _ _ [x - y] rfl rfl p1 p2 p3 p4 ?_; intro v' w' hF' hg hn)
      go_roundg (U.length - (k + 1))
      case rel => exact ⟨k + 1, by omega, rfl, by go_num, (HP5.out _ _ hF' hg).1, (HP5.out _ _ hF' hg).2⟩
      case measure => omega
    · rw [diffF_full (by omega)] at hF
      have HF := hid hF
      have HB := hid hb
      clear hF hb
      go_wp2
      go_ret
      exact ⟨_, rfl, HF.out, HB.out⟩

/-! ### floats -/
/-- the floats -/
def floatF (L : List Tsk) : List Int := diffF (lateF L (endF L (earlyF L))) (earlyF L)
theorem endL_bound {S : List Int} : ∀ (ts : List Tsk) (i : Nat) (e : Int), 0 ≤ e → 0 ≤ endL S i ts e := by
  intro ts
  induction ts with
  | nil => intro i e h; exact h
  | cons t ts ih => intro i e h; rw [endL_cons]; exact ih _ _ (by omega)
theorem endF_range {L : List Tsk} (hL : GoodT L) : 0 ≤ endF L (earlyF L) ∧ endF L (earlyF L) ≤ 26000 := by
  refine ⟨endL_bound _ _ _ (Int.le_refl _), endF_le.2 ⟨by omega, fun j hj => ?_⟩⟩
  have h1 := (earlyF_ok hL).2 j (by rw [(earlyF_ok hL).1]; exact hj)
  have h2 := (hL.2 j hj).2
  have := hL.1
  omega
theorem float_near {L : List Tsk} (hL : GoodT L) : NearB (lateF L (endF L (earlyF L))) (earlyF L) := by
  have h1 := lateF_ok (e := endF L (earlyF L)) hL
  have h2 := earlyF_ok hL
  have h3 := endF_range hL
  have h4 := hL.1
  refine ⟨by rw [h1.1, h2.1], by rw [h1.1]; omega, fun j hj => ?_⟩
  rw [h1.1] at hj
  have h5 := h1.2 j hj
  have h6 := h2.2 j (by rw [h2.1]; exact hj)
  omega
theorem floatF_len {L : List Tsk} (hL : GoodT L) : (floatF L).length = L.length := by rw [floatF, diffF_len, (lateF_ok hL).1]

set_option maxHeartbeats 1000000 in
theorem floats_c (v : Value) (L : List Tsk) (w : World) (h : RTasks w v L) (hL : GoodT L) :
    Calls Try.prog 135 #[v] w (RetInts w (floatF L)) := by
  have HG := hid hL
  have HOK := hid (earlyF_ok hL)
  have HE := hid (endF_range hL)
  have HN := hid (float_near hL)
  have HL12 := hid hL.1
  clear hL
  go_enter Try.func135, Try.ntmps135
  go_wp2_with fail
  refine (earliest_c _ L _ h HG.out).mono ?_
  rintro r w1 ⟨u, rfl, hF, hb1⟩
  have h1 := h.keep hb1
  have hR := hF.r
  have HB1 := hid hb1
  clear hF h hb1
  go_wp2_with fail
  refine (endOf_c _ _ L _ _ h1 hR HOK.out.1 (startsOk_bound HOK.out.2 (by rw [HOK.out.1]; exact HL12.out)) (good_times HG.out)).mono ?_
  rintro r w2 ⟨rfl, hb2⟩
  have h2 := h1.keep hb2
  have hR2 := hR.keep hb2
  have HB2 := hid (HB1.out.trans (hb2.mono HB1.out.size))
  clear h1 hR hb2
  go_wp2_with fail
  refine (latest_c _ L _ _ h2 HG.out HE.out.1 (by have := HE.out.2; omega)).mono ?_
  rintro r w3 ⟨u3, rfl, hF3, hb3⟩
  have hR3 := hR2.keep hb3
  have hRL := hF3.r
  have HB3 := hid (HB2.out.trans (hb3.mono HB2.out.size))
  clear h2 hR2 hb3 hF3
  go_wp2_with fail
  refine (differences_c _ _ _ _ _ hRL hR3 HN.out).mono ?_
  rintro r w4 ⟨u4, rfl, hF4, hb4⟩
  have HB4 := hid (HB3.out.trans (hb4.mono HB3.out.size))
  have HF4 := hid (hF4.mono HB3.out.size (Nat.le_refl _))
  clear hF4 hb4 hRL hR3
  go_wp2
  go_ret
  exact ⟨_, rfl, HF4.out, HB4.out⟩

set_option maxRecDepth 100000 in
set_option maxHeartbeats 2000000 in
theorem pjFloats_c (v : Value) (L : List Tsk) (w : World) (h : RTasks w v L) (hL : GoodT L) :
    Calls Try.prog 136 #[v] w (RetInts w (floatF L)) := by
  have HG := hid hL
  have HOK := hid (earlyF_ok hL)
  have HE := hid (endF_range hL)
  have HN := hid (float_near hL)
  have HL12 := hid hL.1
  have HLL := hid (lateF_ok (e := endF L (earlyF L)) hL).1
  clear hL
  go_enter Try.func136, Try.ntmps136
  go_wp2_with fail
  refine (pjEarly_c _ L _ h HG.out).mono ?_
  rintro r w1 ⟨u, rfl, hF, hb1⟩
  have h1 := h.keep hb1
  have hR := hF.r
  have HB1 := hid hb1
  clear hF h hb1
  go_wp2_with fail
  refine (pjEnd_c _ _ L _ _ h1 hR HOK.out.1 (startsOk_bound HOK.out.2 (by rw [HOK.out.1]; exact HL12.out)) (good_times HG.out)).mono ?_
  rintro r w2 ⟨rfl, hb2⟩
  have h2 := h1.keep hb2
  have hR2 := hR.keep hb2
  have HB2 := hid (HB1.out.trans (hb2.mono HB1.out.size))
  clear h1 hR hb2
  go_wp2_with fail
  refine (pjLate_c _ L _ _ h2 HG.out HE.out.1 (by have := HE.out.2; omega)).mono ?_
  rintro r w3 ⟨u3, rfl, hF3, hb3⟩
  have hR3 := hR2.keep hb3
  have hRL := hF3.r
  have HB3 := hid (HB2.out.trans (hb3.mono HB2.out.size))
  clear h2 hR2 hb3 hF3
  obtain ⟨U, hU⟩ : ∃ U, lateF L (endF L (earlyF L)) = U := ⟨_, rfl⟩
  obtain ⟨V, hV⟩ : ∃ V, earlyF L = V := ⟨_, rfl⟩
  have hfl : floatF L = diffF U V := by rw [floatF, hU, hV]
  have hnn := HN.out
  have HUL : Hid (U.length ≤ 12) := by show _ ≤ _; rw [← hU, HLL.out]; exact HL12.out
  rw [hU, hV] at hnn
  rw [hU] at hRL
  rw [hV] at hR3
  have HNN := hid hnn
  have HFL := hid hfl
  have HRL := hid hRL
  have HR3 := hid hR3
  have hlen := HUL.out
  clear hU hV hfl hnn HN HLL HOK HE
  obtain ⟨a, cap, rfl, q1, q2, hc⟩ := hRL
  obtain ⟨b, capb, rfl, q1', q2', hc'⟩ := hR3
  clear hc hc'
  unfold maxLen at q2 q2'
  go_wp2
  go_loopg [3, 15] U.length (fun gk o i wr => ∃ k : Nat, k ≤ U.length ∧ gk = U.length - k ∧ i = .int .i64 k ∧ FInts wr w3.heap.size wr.heap.size o ((diffF U V).take k) ∧ Below w3.heap.size w3 wr)
  case atStart => exact ⟨0, Nat.zero_le _, rfl, rfl, ints_nil _ _ _, Below.refl _ _⟩
  case round =>
    obtain ⟨k, hk, rfl, rfl, hF, hb⟩ := hrel
    by_cases hlt : k < U.length
    · obtain ⟨a', cap', hv, _, _, hc⟩ := HRL.out.keep hb
      simp only [Value.slice.injEq, true_and] at hv
      obtain ⟨rfl, rfl⟩ := hv
      obtain ⟨b', capb', hv, _, _, hc'⟩ := HR3.out.keep hb
      simp only [Value.slice.injEq, true_and] at hv
      obtain ⟨rfl, rfl⟩ := hv
      obtain ⟨g, o, x, rfl, c1, _, HX⟩ := ints_at hc hlt
      obtain ⟨gb, ob, y, rfl, c2, _, HY⟩ := ints_at hc' (show k < V.length by have := HNN.out.1; omega)
      have hx := HNN.out.2.2 k hlt
      rw [HX.out, HY.out] at hx
      obtain ⟨au, nu, cu, rfl⟩ := hF.form3
      obtain ⟨xs, p1, p2, p3, p4, p5⟩ := diff_round hlt HX.out HY.out (by omega) hF hb
      have HP5 := hid p5
      clear hc hc' hF hb p5
      have hltz : (k : Int) < (U.length : Int) := by omega
      have hltz2 : (k : Int) < (V.length : Int) := by have := HNN.out.1; omega
      have f1 : IntKind.i64.wrap (x - y) = x - y := IntWalk.i64_in _ (by omega)
      go_wp2_with (at_builtin; refine wpList_append_ints rfl _ _ rfl _ _ _ _ _ [x - y] rfl rfl p1 p2 p3 p4 ?_; intro v' w' hF' hg hn)
      go_roundg (U.length - (k + 1))
      case rel => exact ⟨k + 1, by omega, rfl, by go_num, (HP5.out _ _ hF' hg).1, (HP5.out _ _ hF' hg).2⟩
      case measure => omega
    · rw [diffF_full (by omega)] at hF
      have HF := hid (hF.mono HB3.out.size (Nat.le_refl _))
      have HB := hid (HB3.out.trans (hb.mono HB3.out.size))
      clear hF hb
      go_wp2
      go_ret
      exact ⟨_, rfl, by rw [HFL.out]; exact HF.out, HB.out⟩

def floatsB (L : List Tsk) : List Int × Bool := if tasksB L then (floatF L, true) else ([], false)
theorem floatsB_yes {L : List Tsk} (h : tasksB L = true) : floatsB L = (floatF L, true) := by rw [floatsB, h]; rfl
theorem floatsB_no {L : List Tsk} (h : tasksB L = false) : floatsB L = ([], false) := by rw [floatsB, h]; rfl
theorem floatsB_len (L : List Tsk) : (floatsB L).1.length ≤ 12 := by
  rcases Bool.eq_false_or_eq_true (tasksB L) with h | h
  · rw [floatsB_yes h]; have := floatF_len (good_of_tasksB h); have := (tasksB_at h).1; show (floatF L).length ≤ 12; omega
  · rw [floatsB_no h]; simp

set_option maxHeartbeats 1000000 in
theorem sFloatsOf_u (v : Value) (L : List Tsk) (w : World) (h : RTasks w v L) :
    Calls Try.prog 65 #[v] w (RetIntsB w (floatsB L)) := by
  rcases Bool.eq_false_or_eq_true (tasksB L) with t | t
  · have hg := good_of_tasksB t
    have HB := hid (floatsB_yes t)
    have HG := hid hg; clear hg
    go_enter Try.func65, Try.ntmps65
    go_wp2_with fail
    refine (pjGood_c _ L _ h).mono ?_
    rintro e w1 ⟨rfl, hb1⟩
    rw [t]
    have h1 := h.keep hb1
    go_wp2_with fail
    refine (pjFloats_c _ L _ h1 HG.out).mono ?_
    rintro e w2 ⟨u, rfl, hF, hb2⟩
    have HB2 := hid (hb1.trans (hb2.mono hb1.size))
    have HF := hid (hF.mono hb1.size (Nat.le_refl _))
    clear hb1 hb2 h h1 hF
    go_wp2
    go_ret2
    exact ⟨u, by rw [HB.out]; rfl, by rw [HB.out]; exact HF.out, HB2.out⟩
  · have HB := hid (floatsB_no t)
    go_enter Try.func65, Try.ntmps65
    go_wp2_with fail
    refine (pjGood_c _ L _ h).mono ?_
    rintro e w1 ⟨rfl, hb1⟩
    rw [t]
    go_wp2
    go_ret2
    exact retIntsB_no hb1 HB.out _ rfl

set_option maxHeartbeats 1000000 in
theorem iFloatsOf_u (v : Value) (L : List Tsk) (w : World) (h : RTasks w v L) :
    Calls Try.prog 64 #[v] w (RetIntsB w (floatsB L)) := by
  rcases Bool.eq_false_or_eq_true (tasksB L) with t | t
  · have hg := good_of_tasksB t
    have HB := hid (floatsB_yes t)
    have HG := hid hg; clear hg
    go_enter Try.func64, Try.ntmps64
    go_wp2_with fail
    refine (areTasks_c _ L _ h).mono ?_
    rintro e w1 ⟨rfl, hb1⟩
    rw [t]
    have h1 := h.keep hb1
    go_wp2_with fail
    refine (floats_c _ L _ h1 HG.out).mono ?_
    rintro e w2 ⟨u, rfl, hF, hb2⟩
    have HB2 := hid (hb1.trans (hb2.mono hb1.size))
    have HF := hid (hF.mono hb1.size (Nat.le_refl _))
    clear hb1 hb2 h h1 hF
    go_wp2
    go_ret2
    exact ⟨u, by rw [HB.out]; rfl, by rw [HB.out]; exact HF.out, HB2.out⟩
  · have HB := hid (floatsB_no t)
    go_enter Try.func64, Try.ntmps64
    go_wp2_with fail
    refine (areTasks_c _ L _ h).mono ?_
    rintro e w1 ⟨rfl, hb1⟩
    rw [t]
    go_wp2
    go_ret2
    exact retIntsB_no hb1 HB.out _ rfl

end Go.Proofs.Ytegeelldcomnnaa
