/- The least starts of tasks: both programs' functions. -/
import Derived.Test.YtegeelldcomnnaaStarts
namespace Go.Proofs.Ytegeelldcomnnaa
open Go.RowKit
open Go.Lib (hid)

set_option maxRecDepth 100000 in
set_option maxHeartbeats 2000000 in
theorem pjEarly_c (v : Value) (L : List Tsk) (w : World) (h : RTasks w v L) (hL : GoodT L) :
    Calls Try.prog 121 #[v] w (RetInts w (earlyF L)) := by
  have HR := hid h
  have HL := hid hL; clear hL
  obtain ⟨g, o, cap, r, h1, h2, hv, hc⟩ := rtasks_open h
  obtain ⟨a', cap', hvv, h1', h2', _⟩ := h
  have HC := hid hc; clear hc
  subst hvv
  unfold maxLen at h2'
  have hl12 := HL.out.1
  go_enter Try.func121, Try.ntmps121
  go_wp2
  go_loopg [3, 11] L.length (fun gk u i wr => ∃ k : Nat, ∃ acc : List Int, k ≤ L.length ∧ gk = L.length - k ∧ i = .int .i64 k ∧ acc.length = k ∧ earlyF L = earlyL L acc (L.drop k) ∧ StartsOk acc ∧ FInts wr w.heap.size wr.heap.size u acc ∧ Below w.heap.size w wr)
  case atStart => exact ⟨0, [], Nat.zero_le _, rfl, rfl, rfl, by rw [List.drop_zero]; rfl, (fun j hj => by simp at hj), ints_nil _ _ _, Below.refl _ _⟩
  case round =>
    obtain ⟨k, acc, hk, rfl, rfl, hacc, hr, hok, hF, hb⟩ := hrel
    obtain ⟨wo, rfl⟩ : ∃ wo : World, wo = wr := ⟨_, rfl⟩
    have HRR := hid hr; clear hr
    have HACC := hid (And.intro hacc hok); clear hacc hok
    obtain ⟨au, cu, rfl⟩ := hF.form
    have HF := hid hF; clear hF
    have HB := hid hb
    by_cases hlt : k < L.length
    · have hcell := HC.out k hlt
      have hv := hv (by omega)
      simp only [Value.slice.injEq, true_and] at hv
      obtain ⟨rfl, rfl⟩ := hv
      obtain ⟨y, hyy⟩ : ∃ y, (L.getD k noTsk).needs = y := ⟨_, rfl⟩
      obtain ⟨tm, htt⟩ : ∃ tm, (L.getD k noTsk).time = tm := ⟨_, rfl⟩
      rw [hyy, htt] at hcell
      obtain ⟨c1, c2, hy⟩ := hcell
      obtain ⟨ay, cy, hry, hy1, hy2, hyc⟩ := hy
      rw [hry] at c1
      have e1 := (hb.cell (p := ⟨g, o + k * 2, none⟩) (cell_lt c1)).trans c1
      have e2 := (hb.cell (p := ⟨g, o + k * 2 + 1, none⟩) (cell_lt c2)).trans c2
      have HY : Hid (RInts w (.slice ay y.length cy) y) := ⟨ay, cy, rfl, hy1, hy2, hyc⟩
      have HYY := hid hyy; clear hyy
      unfold maxLen at hy2
      clear hyc c1 c2 hry htt hb
      have hltz : (k : Int) < (L.length : Int) := by omega
      go_wp2
      go_loopg [6, 18] y.length (fun gk st i wr => ∃ j : Nat, ∃ s : Int, j ≤ y.length ∧ gk = y.length - j ∧ i = .int .i64 j ∧ st = .int .i64 s ∧ startOf acc L y 0 = startOf acc L (y.drop j) s ∧ 0 ≤ s ∧ s ≤ 2000 * (k : Int) ∧ Below wo.heap.size wo wr)
      case atStart => exact ⟨0, 0, Nat.zero_le _, rfl, rfl, rfl, by rw [List.drop_zero], by omega, by omega, (Below.refl _ _).alloc (Nat.le_refl _) _⟩
      case round =>
        obtain ⟨j, s, hj, rfl, rfl, rfl, hr, hs0, hs1, hb⟩ := hrel
        have HR1 := hid hr; clear hr
        have HB1 := hid hb
        have HB2 := hid (HB.out.trans (hb.mono HB.out.size))
        clear e1 e2
        by_cases hltj : j < y.length
        · obtain ⟨ay', cy', hv, _, _, hyc⟩ := HY.out.keep HB2.out
          simp only [Value.slice.injEq, true_and] at hv
          obtain ⟨rfl, rfl⟩ := hv
          obtain ⟨gy, oy, x, rfl, e1, HD, HX⟩ := ints_at hyc hltj
          have hx : 0 ≤ x ∧ x < (k : Int) := by
            have := (HL.out.2 k hlt).1 x
            rw [HYY.out] at this
            exact this (by rw [← HX.out]; simp [List.getD, List.getElem?_eq_getElem hltj])
          obtain ⟨n, rfl⟩ : ∃ n : Nat, x = (n : Int) := ⟨x.toNat, by omega⟩
          have hn : n < k := by omega
          have hna : n < acc.length := by have := HACC.out.1; omega
          obtain ⟨gu, z, rfl, _, _, e2, _, HZ⟩ := (HF.out.keep hb).at (i := n) hna
          have hcell := (HC.out n (by omega)).2.1
          obtain ⟨tn, htn⟩ : ∃ tn, (L.getD n noTsk).time = tn := ⟨_, rfl⟩
          have ht0 := (HL.out.2 n (by omega)).2
          have hz0 := HACC.out.2 n hna
          rw [HZ.out] at hz0
          rw [htn] at hcell ht0
          have e3 := (HB2.out.cell (p := ⟨g, o + n * 2 + 1, none⟩) (cell_lt hcell)).trans hcell
          have HTN := hid htn
          clear hyc hb hcell htn
          have hltz1 : (j : Int) < (y.length : Int) := by omega
          have hltz2 : (n : Int) < (acc.length : Int) := by omega
          have hltz3 : (n : Int) < (L.length : Int) := by omega
          have f1 : IntKind.i64.wrap (z + tn) = z + tn := IntWalk.i64_in _ (by omega)
          go_wp2
          go_quiet ((go_at_call 87; exact Calls.quiet_of_same (l1Most_s _ _ _)))
          go_wp2
          go_roundg (y.length - (j + 1))
          case rel => exact ⟨j + 1, _, by omega, rfl, by go_num, rfl, by rw [HR1.out, HD.out, startOf_cons, Int.toNat_natCast, HZ.out, HTN.out], by omega, by omega, below_dn HB1.out _⟩
          case measure => omega
        · have HG : Hid (startOf acc L y 0 = s) := by show _ = _; rw [HR1.out, List.drop_eq_nil_of_le (by omega), startOf_nil]
          have hF1 := (HF.out.keep hb).mono (Nat.le_refl _) hb.size
          obtain ⟨p1, p2, p3⟩ := push_pre hF1 s
          have hlen : acc.length + 1 ≤ 1099511627776 := by have := HACC.out.1; omega
          have HLE := hid HB2.out.size
          have HLE1 : Hid (w.heap.size ≤ (wr.alloc (.cells #[.int .i64 s] 3)).heap.size) := Nat.le_trans HLE.out p3
          have HF1 := hid hF1
          clear hb hF1
          go_wp2_with (at_builtin; refine wpList_append_ints rfl _ _ rfl _ _ _ _ _ [s] rfl rfl p1 p2 hlen HLE1.out ?_; intro v' w' hF' hg hn)
          go_roundg (L.length - (k + 1))
          case rel => exact ⟨k + 1, acc ++ [s], by omega, rfl, by go_num, by simp [HACC.out.1], by rw [HRR.out, drop_cons L noTsk k hlt, earlyL_cons, HYY.out, HG.out], startsOk_push HACC.out.2 hs0 (by rw [HACC.out.1]; exact hs1), hF', HB2.out.trans ((push_post HF1.out hg).below (Nat.le_refl _) HLE.out)⟩
          case measure => omega
    · have HG : Hid (earlyF L = acc) := by show _ = _; rw [HRR.out, List.drop_eq_nil_of_le (by omega), earlyL_nil]
      clear hb
      go_wp2
      go_ret
      exact ⟨_, rfl, by rw [HG.out]; exact HF.out, HB.out⟩

theorem mid_lt (acc : List Int) (s : Int) (zs : List Int) {n : Nat} (h : n < acc.length) : (acc ++ s :: zs).getD n 0 = acc.getD n 0 := by simp [List.getD, List.getElem?_append_left h]
theorem mid_at (acc : List Int) (s : Int) (zs : List Int) {k : Nat} (h : acc.length = k) : (acc ++ s :: zs).getD k 0 = s := by subst h; simp [List.getD]
theorem mid_set (acc : List Int) (s y : Int) (zs : List Int) {k : Nat} (h : acc.length = k) : (acc ++ s :: zs).set k y = acc ++ y :: zs := by subst h; simp
theorem rep_succ {n k : Nat} (h : k < n) : List.replicate (n - k) (0 : Int) = 0 :: List.replicate (n - (k + 1)) 0 := by rw [show n - k = (n - (k + 1)) + 1 by omega]; rfl
theorem ints_zero (w : World) (n : Nat) (hn : n ≤ 1048576) : FInts (w.alloc (.cells (madeCells #[.int .i64 0] n) 3)) w.heap.size (w.heap.size + 1) (.slice (some ⟨w.heap.size, 0, none⟩) n n) (List.replicate n 0) := by
  have h := ints_start w n hn []
  refine ⟨by simpa using h, fun g hg => ?_⟩
  simp only [Value.ownBlock, Option.some.injEq] at hg
  omega

set_option maxRecDepth 100000 in
set_option maxHeartbeats 2000000 in
theorem earliest_c (v : Value) (L : List Tsk) (w : World) (h : RTasks w v L) (hL : GoodT L) :
    Calls Try.prog 119 #[v] w (RetInts w (earlyF L)) := by
  have HR := hid h
  have HL := hid hL; clear hL
  obtain ⟨g, o, cap, r, h1, h2, hv, hc⟩ := rtasks_open h
  obtain ⟨a', cap', hvv, h1', h2', _⟩ := h
  have HC := hid hc; clear hc
  subst hvv
  unfold maxLen at h2'
  have hl12 := HL.out.1
  have hmk := run_make_row' (P := Try.prog) 36 3 (.int .i64 0) 8 Try.underlying36 Try.infoInt rfl .i64 .i64 L.length (by omega) (by omega)
  go_enter Try.func119, Try.ntmps119
  go_wp2
  clear hmk
  go_loopg [13] L.length (fun gk i wr => ∃ k : Nat, ∃ acc : List Int, k ≤ L.length ∧ gk = L.length - k ∧ i = .int .i64 k ∧ acc.length = k ∧ earlyF L = earlyL L acc (L.drop k) ∧ StartsOk acc ∧ FInts wr w.heap.size (w.heap.size + 1) (.slice (some ⟨w.heap.size, 0, none⟩) L.length L.length) (acc ++ List.replicate (L.length - k) 0) ∧ Below w.heap.size w wr)
  case atStart => exact ⟨0, [], Nat.zero_le _, rfl, rfl, rfl, by rw [List.drop_zero]; rfl, (fun j hj => by simp at hj), ints_zero w _ (by omega), (Below.refl _ _).alloc (Nat.le_refl _) _⟩
  case round =>
    obtain ⟨k, acc, hk, rfl, rfl, hacc, hr, hok, hF, hb⟩ := hrel
    obtain ⟨wo, rfl⟩ : ∃ wo : World, wo = wr := ⟨_, rfl⟩
    have HRR := hid hr; clear hr
    have HACC := hid (And.intro hacc hok); clear hacc hok
    have HF := hid hF; clear hF
    have HB := hid hb
    by_cases hlt : k < L.length
    · have hcell := HC.out k hlt
      have hv := hv (by omega)
      simp only [Value.slice.injEq, true_and] at hv
      obtain ⟨rfl, rfl⟩ := hv
      obtain ⟨y, hyy⟩ : ∃ y, (L.getD k noTsk).needs = y := ⟨_, rfl⟩
      obtain ⟨tm, htt⟩ : ∃ tm, (L.getD k noTsk).time = tm := ⟨_, rfl⟩
      rw [hyy, htt] at hcell
      obtain ⟨c1, c2, hy⟩ := hcell
      obtain ⟨ay, cy, hry, hy1, hy2, hyc⟩ := hy
      rw [hry] at c1
      have e1 := (hb.cell (p := ⟨g, o + k * 2, none⟩) (cell_lt c1)).trans c1
      have e2 := (hb.cell (p := ⟨g, o + k * 2 + 1, none⟩) (cell_lt c2)).trans c2
      have HY : Hid (RInts w (.slice ay y.length cy) y) := ⟨ay, cy, rfl, hy1, hy2, hyc⟩
      have HYY := hid hyy; clear hyy
      unfold maxLen at hy2
      clear hyc c1 c2 hry htt hb
      have hltz : (k : Int) < (L.length : Int) := by omega
      obtain ⟨zs, hzs⟩ : ∃ zs, List.replicate (L.length - (k + 1)) (0 : Int) = zs := ⟨_, rfl⟩
      have HZS := hid hzs; clear hzs
      have HF1 : Hid (FInts wo w.heap.size (w.heap.size + 1) (.slice (some ⟨w.heap.size, 0, none⟩) L.length L.length) (acc ++ 0 :: zs)) := by
        have := HF.out; rw [rep_succ hlt, HZS.out] at this; exact this
      clear HF
      have hab : Below wo.heap.size wo (wo.alloc (.cells #[.slice ay y.length cy, .int .i64 tm] 67)) := (Below.refl _ _).alloc (Nat.le_refl _) _
      have HAB := hid hab; clear hab
      go_wp2
      go_loopg [21] y.length (fun gk i wr => ∃ j : Nat, ∃ s : Int, j ≤ y.length ∧ gk = y.length - j ∧ i = .int .i64 j ∧ startOf acc L y 0 = startOf acc L (y.drop j) s ∧ 0 ≤ s ∧ s ≤ 2000 * (k : Int) ∧ FInts wr w.heap.size (w.heap.size + 1) (.slice (some ⟨w.heap.size, 0, none⟩) L.length L.length) (acc ++ s :: zs) ∧ Below w.heap.size w wr)
      case atStart => exact ⟨0, 0, Nat.zero_le _, rfl, rfl, by rw [List.drop_zero], by omega, by omega, HF1.out.keep HAB.out, HB.out.trans (HAB.out.mono HB.out.size)⟩
      case round =>
        obtain ⟨j, s, hj, rfl, rfl, hr, hs0, hs1, hF, hb⟩ := hrel
        have HR1 := hid hr; clear hr
        have HB1 := hid hb
        clear e1 e2 HF1 HAB
        by_cases hltj : j < y.length
        · obtain ⟨ay', cy', hv, _, _, hyc⟩ := HY.out.keep hb
          simp only [Value.slice.injEq, true_and] at hv
          obtain ⟨rfl, rfl⟩ := hv
          obtain ⟨gy, oy, x, rfl, e1, HD, HX⟩ := ints_at hyc hltj
          have hx : 0 ≤ x ∧ x < (k : Int) := by
            have := (HL.out.2 k hlt).1 x
            rw [HYY.out] at this
            exact this (by rw [← HX.out]; simp [List.getD, List.getElem?_eq_getElem hltj])
          obtain ⟨n, rfl⟩ : ∃ n : Nat, x = (n : Int) := ⟨x.toNat, by omega⟩
          have hn : n < k := by omega
          have hna : n < acc.length := by have := HACC.out.1; omega
          obtain ⟨gu, z, he, _, _, e2, _, HZ⟩ := hF.at (i := n) (by rw [List.length_append]; omega)
          simp only [Option.some.injEq, Addr.mk.injEq, and_true] at he
          subst he
          obtain ⟨gu, s', he, _, _, e4, e5, HS⟩ := hF.at (i := k) (by simp [HACC.out.1])
          simp only [Option.some.injEq, Addr.mk.injEq, and_true] at he
          subst he
          have HZ' : Hid (acc.getD n 0 = z) := (mid_lt acc s zs hna).symm.trans HZ.out
          have hs' : s = s' := (mid_at acc s zs HACC.out.1).symm.trans HS.out
          subst hs'
          have hcell := (HC.out n (by omega)).2.1
          obtain ⟨tn, htn⟩ : ∃ tn, (L.getD n noTsk).time = tn := ⟨_, rfl⟩
          have ht0 := (HL.out.2 n (by omega)).2
          have hz0 := HACC.out.2 n hna
          rw [HZ'.out] at hz0
          rw [htn] at hcell ht0
          have e3 := (hb.cell (p := ⟨g, o + n * 2 + 1, none⟩) (cell_lt hcell)).trans hcell
          have HTN := hid htn
          obtain ⟨wq, hwq⟩ : ∃ wq : World, wq = wr.drew := ⟨_, rfl⟩
          have q1 : wq.cell? ⟨w.heap.size, n, none⟩ = some (.int .i64 z) := by rw [hwq]; exact e2
          have q2 : wq.cell? ⟨w.heap.size, k, none⟩ = some (.int .i64 s) := by rw [hwq]; exact e4
          have q3 : wq.frozen? ⟨w.heap.size, k, none⟩ = false := by rw [hwq]; exact e5
          have q4 : wq.cell? ⟨g, o + n * 2 + 1, none⟩ = some (.int .i64 tn) := by rw [hwq]; exact e3
          have HO : Aside (∀ m, m = max s (z + tn) → FInts (wq.setCell ⟨w.heap.size, k, none⟩ (.int .i64 m)) w.heap.size (w.heap.size + 1) (.slice (some ⟨w.heap.size, 0, none⟩) L.length L.length) (acc ++ max s (z + tn) :: zs) ∧ Below w.heap.size w (wq.setCell ⟨w.heap.size, k, none⟩ (.int .i64 m))) := by
            intro m hmm
            have hst := hF.set k m
            rw [mid_set acc s m zs HACC.out.1] at hst
            rw [hwq, ← hmm]
            exact ⟨hst.1, (below_dn hb 1).setCell (Nat.le_refl _) _⟩
          have HWQ := hid hwq
          clear hyc hb hcell htn hF e2 e3 e4 e5 hwq
          have hltz1 : (j : Int) < (y.length : Int) := by omega
          have hltz3 : (n : Int) < (L.length : Int) := by omega
          have f1 : IntKind.i64.wrap (z + tn) = z + tn := IntWalk.i64_in _ (by omega)
          go_wp2
          refine wp_region_still_tail 18 (by kernel_rfl) (by kernel_rfl) ?_
          change wpStill _ _ wr.drew _ _ _
          rw [← HWQ.out]
          simp only [List.take_succ_cons, List.take_zero, List.drop_succ_cons, List.drop_zero]
          repeat still_step
          all_goals
            refine wpStill_nil ?_
            change wpList _ _ _ _ _ wr.drew
            rw [← HWQ.out]
            go_wp2
            all_goals
              go_roundg (y.length - (j + 1))
              case rel => exact ⟨j + 1, max s (z + tn), by omega, rfl, by go_num, by rw [HR1.out, HD.out, startOf_cons, Int.toNat_natCast, HZ'.out, HTN.out], by omega, by omega, HO.out _ (by omega)⟩
              case measure => omega
        · have HG : Hid (startOf acc L y 0 = s) := by show _ = _; rw [HR1.out, List.drop_eq_nil_of_le (by omega), startOf_nil]
          have HF2 : Hid (FInts wr w.heap.size (w.heap.size + 1) (.slice (some ⟨w.heap.size, 0, none⟩) L.length L.length) ((acc ++ [s]) ++ List.replicate (L.length - (k + 1)) 0)) := by
            show FInts _ _ _ _ _; rw [HZS.out, List.append_assoc]; exact hF
          clear hb hF
          go_wp2
          go_roundg (L.length - (k + 1))
          case rel => exact ⟨k + 1, acc ++ [s], by omega, rfl, by go_num, by simp [HACC.out.1], by rw [HRR.out, drop_cons L noTsk k hlt, earlyL_cons, HYY.out, HG.out], startsOk_push HACC.out.2 hs0 (by rw [HACC.out.1]; exact hs1), HF2.out, HB1.out⟩
          case measure => omega
    · have HG : Hid (earlyF L = acc) := by show _ = _; rw [HRR.out, List.drop_eq_nil_of_le (by omega), earlyL_nil]
      have HF2 : Hid (FInts wo w.heap.size wo.heap.size (.slice (some ⟨w.heap.size, 0, none⟩) L.length L.length) (earlyF L)) := by
        have := HF.out
        rw [show L.length - k = 0 by omega, List.replicate_zero, List.append_nil, ← HG.out] at this
        obtain ⟨g', cp, hh, h5, h6⟩ : ∃ g' cp, Value.slice (some ⟨w.heap.size, 0, none⟩) L.length L.length = .slice (some ⟨g', 0, none⟩) L.length cp ∧ w.heap.size ≤ g' ∧ True := ⟨_, _, rfl, Nat.le_refl _, trivial⟩
        exact ⟨this.1, fun g'' hg => (this.1.lt g'' hg).2⟩
      clear hb
      go_wp2
      go_ret
      exact ⟨_, rfl, HF2.out, HB.out⟩

end Go.Proofs.Ytegeelldcomnnaa
