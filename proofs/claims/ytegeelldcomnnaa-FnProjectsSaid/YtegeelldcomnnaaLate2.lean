/- The latest starts for an end: both programs' loops. -/
import Derived.Test.YtegeelldcomnnaaLate
namespace Go.Proofs.Ytegeelldcomnnaa
open Go.RowKit
open Go.Lib (hid)

theorem FInts.len3 {w : World} {lo hi : Nat} {a : Option Addr} {m c : Nat} {xs : List Int} (h : FInts w lo hi (.slice a m c) xs) : m = xs.length := by
  obtain ⟨a', c', hv, _⟩ := own_form h.1
  simp only [Value.slice.injEq] at hv
  exact hv.2.1
theorem fints_own {w : World} {lo hi : Nat} {v : Value} {xs : List Int} (h : FInts w lo hi v xs) : FInts w lo w.heap.size v xs := ⟨h.1, fun g hg => (h.1.lt g hg).2⟩
theorem late0_take {L : List Tsk} {e : Int} {k : Nat} {tm : Int} (hk : k < L.length) (ht : (L.getD k noTsk).time = tm) : (late0 L e).take (k + 1) = (late0 L e).take k ++ [e - tm] := by
  have hl : k < (late0 L e).length := by simpa [late0] using hk
  rw [List.take_succ_eq_append_getElem hl]
  congr 2
  rw [← ht]
  simp [late0, List.getD, List.getElem?_eq_getElem hk]
theorem late0_full {L : List Tsk} {e : Int} {k : Nat} (hk : L.length ≤ k) : (late0 L e).take k = late0 L e := List.take_of_length_le (by simpa [late0] using hk)
theorem late0_len (L : List Tsk) (e : Int) : (late0 L e).length = L.length := by simp [late0]

set_option maxRecDepth 100000 in
set_option maxHeartbeats 4000000 in
theorem pjLate_c (v : Value) (L : List Tsk) (e : Int) (w : World) (h : RTasks w v L) (hL : GoodT L) (he : 0 ≤ e) (he' : e ≤ 100000) :
    Calls Try.prog 130 #[v, .int .i64 e] w (RetInts w (lateF L e)) := by
  have HL := hid hL; clear hL
  obtain ⟨g, o, cap, r, _, _, hv, hc⟩ := rtasks_open h
  obtain ⟨a', cap', hvv, h1', h2', _⟩ := h
  have HC := hid hc; clear hc
  subst hvv
  unfold maxLen at h2'
  have hl12 := HL.out.1
  have hmk := run_make_row' (P := Try.prog) 36 3 (.int .i64 0) 8 Try.underlying36 Try.infoInt rfl .i64 .i64 L.length (by omega) (by omega)
  go_enter Try.func130, Try.ntmps130
  go_wp2
  clear hmk
  go_loopg [15] L.length (fun gk i wr => ∃ k : Nat, k ≤ L.length ∧ gk = L.length - k ∧ i = .int .i64 k ∧ FInts wr w.heap.size (w.heap.size + 1) (.slice (some ⟨w.heap.size, 0, none⟩) L.length L.length) ((late0 L e).take k ++ List.replicate (L.length - k) 0) ∧ Below w.heap.size w wr)
  case atStart => exact ⟨0, Nat.zero_le _, rfl, rfl, ints_zero w _ (by omega), (Below.refl _ _).alloc (Nat.le_refl _) _⟩
  case round =>
    obtain ⟨k, hk, rfl, rfl, hF, hb⟩ := hrel
    obtain ⟨wo, rfl⟩ : ∃ wo : World, wo = wr := ⟨_, rfl⟩
    by_cases hlt : k < L.length
    · obtain ⟨_, c2, _⟩ := HC.out k hlt
      have hv := hv (by omega)
      simp only [Value.slice.injEq, true_and] at hv
      obtain ⟨rfl, rfl⟩ := hv
      have ht0 := (HL.out.2 k hlt).2
      obtain ⟨tm, htm⟩ : ∃ tm, (L.getD k noTsk).time = tm := ⟨_, rfl⟩
      rw [htm] at c2 ht0
      have e2 := (hb.cell (p := ⟨g, o + k * 2 + 1, none⟩) (cell_lt c2)).trans c2
      rw [rep_succ hlt] at hF
      have hlt2 : ((late0 L e).take k).length = k := by rw [List.length_take, late0_len]; omega
      obtain ⟨gu, z, he2, _, _, e4, e5, _⟩ := hF.at (i := k) (by simp [late0_len]; omega)
      simp only [Option.some.injEq, Addr.mk.injEq, and_true] at he2
      subst he2
      have HO : Aside (FInts (wo.setCell ⟨w.heap.size, k, none⟩ (.int .i64 (e - tm))) w.heap.size (w.heap.size + 1) (.slice (some ⟨w.heap.size, 0, none⟩) L.length L.length) ((late0 L e).take (k + 1) ++ List.replicate (L.length - (k + 1)) 0) ∧ Below w.heap.size w (wo.setCell ⟨w.heap.size, k, none⟩ (.int .i64 (e - tm)))) := by
        have hst := hF.set k (e - tm)
        rw [mid_set _ _ _ _ hlt2] at hst
        refine ⟨?_, hb.setCell (Nat.le_refl _) _⟩
        rw [late0_take hlt htm, List.append_assoc]
        exact hst.1
      clear hF hb c2 htm hlt2
      have hltz : (k : Int) < (L.length : Int) := by omega
      have f1 : IntKind.i64.wrap (e - tm) = e - tm := IntWalk.i64_in _ (by omega)
      go_wp2
      go_roundg (L.length - (k + 1))
      case rel => exact ⟨k + 1, by omega, rfl, by go_num, HO.out⟩
      case measure => omega
    · have HF : Hid (FInts wo w.heap.size wo.heap.size (.slice (some ⟨w.heap.size, 0, none⟩) L.length L.length) (late0 L e)) := by
        rw [show L.length - k = 0 by omega, List.replicate_zero, List.append_nil, late0_full (by omega)] at hF
        exact ⟨hF.1, fun g'' hg => (hF.1.lt g'' hg).2⟩
      have HB := hid hb
      clear hF hb
      have f0 : IntKind.i64.wrap ((L.length : Int) - 1) = (L.length : Int) - 1 := IntWalk.i64_in _ (by omega)
      go_wp2
      go_loopg [7] L.length (fun gk iv wr => ∃ k : Nat, ∃ s : List Int, ∃ x : Int, k ≤ L.length ∧ k = gk ∧ iv = .int .i64 x ∧ x = (k : Int) - 1 ∧ lateF L e = lateK L k s ∧ LateOk e L.length s ∧ FInts wr w.heap.size wo.heap.size (.slice (some ⟨w.heap.size, 0, none⟩) L.length L.length) s ∧ Below w.heap.size w wr)
      case atStart => exact ⟨L.length, late0 L e, _, Nat.le_refl _, rfl, rfl, by omega, rfl, late0_ok HL.out, HF.out, HB.out⟩
      case round =>
        obtain ⟨k, s, x, hk, rfl, rfl, hx, hlate, hok, hF, hb⟩ := hrel
        clear f0
        by_cases hk0 : 0 < k
        · obtain ⟨j, rfl⟩ : ∃ j, k = j + 1 := ⟨k - 1, by omega⟩
          obtain rfl : x = (j : Int) := by omega
          clear hx
          obtain ⟨c1, c2, hy⟩ := HC.out j (by omega)
          have hv := hv (by omega)
          simp only [Value.slice.injEq, true_and] at hv
          obtain ⟨rfl, rfl⟩ := hv
          obtain ⟨y, hyy⟩ : ∃ y, (L.getD j noTsk).needs = y := ⟨_, rfl⟩
          rw [hyy] at hy
          obtain ⟨ay, cy, hry, hy1, hy2, hyc⟩ := hy
          rw [hry] at c1
          have e1 := (hb.cell (p := ⟨g, o + j * 2, none⟩) (cell_lt c1)).trans c1
          have HY : Hid (RInts w (.slice ay y.length cy) y) := ⟨ay, cy, rfl, hy1, hy2, hyc⟩
          have HYY := hid hyy
          have HLT : Hid (lateF L e = lateK L j (lateJ L j y s)) := by show _ = _; rw [hlate, lateK_succ, hyy]
          have HF1 := hid hF
          have HB1 := hid hb
          have HOK := hid hok
          unfold maxLen at hy2
          clear hyc c1 c2 hry hyy hF hb hok hlate
          have hjz : (j : Int) < (L.length : Int) := by omega
          go_wp2
          go_loopg [42] y.length (fun gk iv wr => ∃ q : Nat, ∃ s' : List Int, q ≤ y.length ∧ gk = y.length - q ∧ iv = .int .i64 q ∧ lateF L e = lateK L j (lateJ L j (y.drop q) s') ∧ LateOk e L.length s' ∧ FInts wr w.heap.size wo.heap.size (.slice (some ⟨w.heap.size, 0, none⟩) L.length L.length) s' ∧ Below w.heap.size w wr)
          case atStart => exact ⟨0, s, Nat.zero_le _, rfl, rfl, HLT.out, HOK.out, HF1.out, HB1.out⟩
          case round =>
            obtain ⟨q, s1, hq, rfl, rfl, hlate, hok, hF, hb⟩ := hrel
            have HL1 := hid hlate
            clear HF1 HB1 HOK HLT e1 hlate
            by_cases hltq : q < y.length
            · obtain ⟨ay', cy', hv, _, _, hyc⟩ := HY.out.keep hb
              simp only [Value.slice.injEq, true_and] at hv
              obtain ⟨rfl, rfl⟩ := hv
              obtain ⟨gy, oy, x, rfl, e1, HD, HX⟩ := ints_at hyc hltq
              have hx : 0 ≤ x ∧ x < (j : Int) := by
                have := (HL.out.2 j (by omega)).1 x
                rw [HYY.out] at this
                exact this (by rw [← HX.out]; simp [List.getD, List.getElem?_eq_getElem hltq])
              obtain ⟨n, rfl⟩ : ∃ n : Nat, x = (n : Int) := ⟨x.toNat, by omega⟩
              have hn : n < j := by omega
              obtain ⟨gu, z1, heq, _, _, e2, e5, HZ1⟩ := hF.at (i := n) (by rw [hok.1]; omega)
              simp only [Option.some.injEq, Addr.mk.injEq, and_true] at heq
              subst heq
              obtain ⟨gu, z2, heq, _, _, e4, _, HZ2⟩ := hF.at (i := j) (by rw [hok.1]; omega)
              simp only [Option.some.injEq, Addr.mk.injEq, and_true] at heq
              subst heq
              have hz1 := hok.2 n (by omega)
              have hz2 := hok.2 j (by omega)
              rw [HZ1.out] at hz1
              rw [HZ2.out] at hz2
              have hcell := (HC.out n (by omega)).2.1
              obtain ⟨tn, htn⟩ : ∃ tn, (L.getD n noTsk).time = tn := ⟨_, rfl⟩
              have ht0 := (HL.out.2 n (by omega)).2
              rw [htn] at hcell ht0
              have e3 := (hb.cell (p := ⟨g, o + n * 2 + 1, none⟩) (cell_lt hcell)).trans hcell
              have HTN := hid htn
              have HST := hid (late_step HL.out rfl hok (show j < L.length by omega) hn)
              obtain ⟨wq, hwq⟩ : ∃ wq : World, wq = wr.drew := ⟨_, rfl⟩
              have q1 : wq.cell? ⟨w.heap.size, n, none⟩ = some (.int .i64 z1) := by rw [hwq]; exact e2
              have q2 : wq.cell? ⟨w.heap.size, j, none⟩ = some (.int .i64 z2) := by rw [hwq]; exact e4
              have q3 : wq.frozen? ⟨w.heap.size, n, none⟩ = false := by rw [hwq]; exact e5
              have HO : Aside (∀ m, m = min z1 (z2 - tn) → FInts (wq.setCell ⟨w.heap.size, n, none⟩ (.int .i64 m)) w.heap.size wo.heap.size (.slice (some ⟨w.heap.size, 0, none⟩) L.length L.length) (s1.set n (min z1 (z2 - tn))) ∧ Below w.heap.size w (wq.setCell ⟨w.heap.size, n, none⟩ (.int .i64 m))) := by
                intro m hmm
                have hst := hF.set n m
                rw [hwq, ← hmm]
                exact ⟨hst.1, (below_dn hb 1).setCell (by first | exact Nat.le_refl _ | assumption) _⟩
              have q4 : wq.cell? ⟨g, o + n * 2 + 1, none⟩ = some (.int .i64 tn) := by rw [hwq]; exact e3
              have HWQ := hid hwq
              clear hyc hb hcell htn hF e2 e3 e4 e5 hwq hok
              have hltz1 : (q : Int) < (y.length : Int) := by omega
              have hltz3 : (n : Int) < (L.length : Int) := by omega
              have f1 : IntKind.i64.wrap (z2 - tn) = z2 - tn := IntWalk.i64_in _ (by omega)
              go_wp2
              refine wp_region_still_tail 18 (by kernel_rfl) (by kernel_rfl) ?_
              change wpStill _ _ wr.drew _ _ _
              rw [← HWQ.out]
              simp only [List.take_succ_cons, List.take_zero, List.drop_succ_cons, List.drop_zero]
              repeat still_step
              still_call (l1Least_s _ _ _)
              repeat still_step
              all_goals
                refine wpStill_nil ?_
                change wpList _ _ _ _ _ wr.drew
                rw [← HWQ.out]
                go_wp2
                all_goals
                  go_roundg (y.length - (q + 1))
                  case rel => exact ⟨q + 1, s1.set n (min z1 (z2 - tn)), by omega, rfl, by go_num, by rw [HL1.out, HD.out, lateJ_cons, Int.toNat_natCast, HZ1.out, HZ2.out, HTN.out], by have := HST.out; rw [HZ1.out, HZ2.out, HTN.out] at this; exact this, HO.out _ (by omega)⟩
                  case measure => omega
            · have HFF := hid hF
              have HBB := hid hb
              have HOO := hid hok
              have HL2 : Hid (lateF L e = lateK L j s1) := by show _ = _; rw [HL1.out, List.drop_eq_nil_of_le (by omega), lateJ_nil]
              clear hF hb hok
              have f3 : IntKind.i64.wrap ((j : Int) - 1) = (j : Int) - 1 := IntWalk.i64_in _ (by omega)
              go_wp2
              go_roundg j
              case rel => exact ⟨j, s1, (j : Int) - 1, by omega, rfl, rfl, rfl, HL2.out, HOO.out, HFF.out, HBB.out⟩
              case measure => omega
        · obtain rfl : k = 0 := by omega
          have hx0 : x < 0 := by omega
          have hF2 := fints_own hF
          rw [show s = lateF L e by rw [hlate, lateK_zero]] at hF2
          have HFF := hid hF2
          clear hF2
          have HBB := hid hb
          clear hF hb hok hlate hx
          go_wp2
          go_ret
          exact ⟨_, rfl, HFF.out, HBB.out⟩

set_option maxRecDepth 100000 in
set_option maxHeartbeats 4000000 in
theorem latest_c (v : Value) (L : List Tsk) (e : Int) (w : World) (h : RTasks w v L) (hL : GoodT L) (he : 0 ≤ e) (he' : e ≤ 100000) :
    Calls Try.prog 129 #[v, .int .i64 e] w (RetInts w (lateF L e)) := by
  have HL := hid hL; clear hL
  obtain ⟨g, o, cap, r, _, _, hv, hc⟩ := rtasks_open h
  obtain ⟨a', cap', hvv, h1', h2', _⟩ := h
  have HC := hid hc; clear hc
  subst hvv
  unfold maxLen at h2'
  have hl12 := HL.out.1
  go_enter Try.func129, Try.ntmps129
  go_wp2
  go_loopg [5, 14] L.length (fun gk u i wr => ∃ k : Nat, k ≤ L.length ∧ gk = L.length - k ∧ i = .int .i64 k ∧ FInts wr w.heap.size wr.heap.size u ((late0 L e).take k) ∧ Below w.heap.size w wr)
  case atStart => exact ⟨0, Nat.zero_le _, rfl, rfl, (ints_empty w _ (Nat.le_refl _)).mono (Nat.le_refl _) (by simp), (Below.refl _ _).alloc (Nat.le_refl _) _⟩
  case round =>
    obtain ⟨k, hk, rfl, rfl, hF, hb⟩ := hrel
    obtain ⟨wo, rfl⟩ : ∃ wo : World, wo = wr := ⟨_, rfl⟩
    by_cases hlt : k < L.length
    · obtain ⟨c1, c2, hy⟩ := HC.out k hlt
      have hv := hv (by omega)
      simp only [Value.slice.injEq, true_and] at hv
      obtain ⟨rfl, rfl⟩ := hv
      have ht0 := (HL.out.2 k hlt).2
      obtain ⟨tm, htm⟩ : ∃ tm, (L.getD k noTsk).time = tm := ⟨_, rfl⟩
      rw [htm] at c2 ht0
      obtain ⟨y, hyy⟩ : ∃ y, (L.getD k noTsk).needs = y := ⟨_, rfl⟩
      rw [hyy] at hy
      obtain ⟨ay, cy, hry, _, _, _⟩ := hy
      rw [hry] at c1
      have e1 := (hb.cell (p := ⟨g, o + k * 2, none⟩) (cell_lt c1)).trans c1
      have e2 := (hb.cell (p := ⟨g, o + k * 2 + 1, none⟩) (cell_lt c2)).trans c2
      have hlt2 : ((late0 L e).take k).length ≤ 12 := by rw [List.length_take, late0_len]; omega
      have HTM := hid htm
      obtain ⟨xs, hxs⟩ : ∃ xs, (late0 L e).take k = xs := ⟨_, rfl⟩
      rw [hxs] at hlt2 hF
      have HXS := hid hxs
      obtain ⟨au, cu, rfl⟩ := hF.form
      have hab : Below wo.heap.size wo (wo.alloc (.cells #[.slice ay y.length cy, .int .i64 tm] 67)) := (Below.refl _ _).alloc (Nat.le_refl _) _
      have hF1 := (hF.keep hab).mono (Nat.le_refl _) hab.size
      obtain ⟨p1, p2, p3⟩ := push_pre hF1 (e - tm)
      have p2' : RInts ((wo.alloc (.cells #[.slice ay y.length cy, .int .i64 tm] 67)).alloc (.cells #[.int .i64 (e - tm)] 3)) (.slice (some ⟨wo.heap.size + 1, 0, none⟩) 1 1) [e - tm] := by simpa using p2
      clear p2
      have HLE := hid (Nat.le_trans hb.size hab.size)
      have HLE1 : Hid (w.heap.size ≤ ((wo.alloc (.cells #[.slice ay y.length cy, .int .i64 tm] 67)).alloc (.cells #[.int .i64 (e - tm)] 3)).heap.size) := Nat.le_trans HLE.out p3
      have HBA := hid (hb.trans (hab.mono hb.size))
      have HF1 := hid hF1
      have hlen : xs.length + 1 ≤ 1099511627776 := by omega
      clear hF hb c1 c2 htm hyy hry hxs hab hF1
      have hltz : (k : Int) < (L.length : Int) := by omega
      have f1 : IntKind.i64.wrap (e - tm) = e - tm := IntWalk.i64_in _ (by omega)
      go_wp2_with (at_builtin; refine wpList_append_ints rfl _ _ rfl _ _ _ _ _ [e - tm] rfl rfl p1 p2' hlen HLE1.out ?_; intro v' w' hF' hg hn)
      go_roundg (L.length - (k + 1))
      case rel => exact ⟨k + 1, by omega, rfl, by go_num, by rw [late0_take hlt HTM.out, HXS.out]; exact hF', HBA.out.trans ((push_post HF1.out hg).below (Nat.le_refl _) HLE.out)⟩
      case measure => omega
    · rw [late0_full (by omega)] at hF
      obtain ⟨au, m, cu, rfl⟩ := hF.form3
      obtain rfl : m = L.length := by rw [hF.len3, late0_len]
      have HF := hid hF
      have HB := hid hb
      clear hF hb
      have f0 : IntKind.i64.wrap ((L.length : Int) - 1) = (L.length : Int) - 1 := IntWalk.i64_in _ (by omega)
      go_wp2
      go_loopg [8] L.length (fun gk iv wr => ∃ k : Nat, ∃ s : List Int, ∃ x : Int, k ≤ L.length ∧ k = gk ∧ iv = .int .i64 x ∧ x = (k : Int) - 1 ∧ lateF L e = lateK L k s ∧ LateOk e L.length s ∧ FInts wr w.heap.size wo.heap.size (.slice au L.length cu) s ∧ Below w.heap.size w wr)
      case atStart => exact ⟨L.length, late0 L e, _, Nat.le_refl _, rfl, rfl, by omega, rfl, late0_ok HL.out, HF.out, HB.out⟩
      case round =>
        obtain ⟨k, s, x, hk, rfl, rfl, hx, hlate, hok, hF, hb⟩ := hrel
        clear f0
        by_cases hk0 : 0 < k
        · obtain ⟨j, rfl⟩ : ∃ j, k = j + 1 := ⟨k - 1, by omega⟩
          obtain rfl : x = (j : Int) := by omega
          clear hx
          obtain ⟨c1, c2, hy⟩ := HC.out j (by omega)
          have hv := hv (by omega)
          simp only [Value.slice.injEq, true_and] at hv
          obtain ⟨rfl, rfl⟩ := hv
          obtain ⟨y, hyy⟩ : ∃ y, (L.getD j noTsk).needs = y := ⟨_, rfl⟩
          rw [hyy] at hy
          obtain ⟨ay, cy, hry, hy1, hy2, hyc⟩ := hy
          rw [hry] at c1
          have e1 := (hb.cell (p := ⟨g, o + j * 2, none⟩) (cell_lt c1)).trans c1
          have HY : Hid (RInts w (.slice ay y.length cy) y) := ⟨ay, cy, rfl, hy1, hy2, hyc⟩
          have HYY := hid hyy
          have HLT : Hid (lateF L e = lateK L j (lateJ L j y s)) := by show _ = _; rw [hlate, lateK_succ, hyy]
          have HF1 := hid hF
          have HB1 := hid hb
          have HOK := hid hok
          unfold maxLen at hy2
          clear hyc c1 c2 hry hyy hF hb hok hlate
          have hjz : (j : Int) < (L.length : Int) := by omega
          go_wp2
          go_loopg [39] y.length (fun gk iv wr => ∃ q : Nat, ∃ s' : List Int, q ≤ y.length ∧ gk = y.length - q ∧ iv = .int .i64 q ∧ lateF L e = lateK L j (lateJ L j (y.drop q) s') ∧ LateOk e L.length s' ∧ FInts wr w.heap.size wo.heap.size (.slice au L.length cu) s' ∧ Below w.heap.size w wr)
          case atStart => exact ⟨0, s, Nat.zero_le _, rfl, rfl, HLT.out, HOK.out, HF1.out, HB1.out⟩
          case round =>
            obtain ⟨q, s1, hq, rfl, rfl, hlate, hok, hF, hb⟩ := hrel
            have HL1 := hid hlate
            clear HF1 HB1 HOK HLT e1 hlate
            by_cases hltq : q < y.length
            · obtain ⟨ay', cy', hv, _, _, hyc⟩ := HY.out.keep hb
              simp only [Value.slice.injEq, true_and] at hv
              obtain ⟨rfl, rfl⟩ := hv
              obtain ⟨gy, oy, x, rfl, e1, HD, HX⟩ := ints_at hyc hltq
              have hx : 0 ≤ x ∧ x < (j : Int) := by
                have := (HL.out.2 j (by omega)).1 x
                rw [HYY.out] at this
                exact this (by rw [← HX.out]; simp [List.getD, List.getElem?_eq_getElem hltq])
              obtain ⟨n, rfl⟩ : ∃ n : Nat, x = (n : Int) := ⟨x.toNat, by omega⟩
              have hn : n < j := by omega
              obtain ⟨gu, z1, heq, _, _, e2, e5, HZ1⟩ := hF.at (i := n) (by rw [hok.1]; omega)
              subst heq
              obtain ⟨gu2, z2, heq, _, _, e4, _, HZ2⟩ := hF.at (i := j) (by rw [hok.1]; omega)
              simp only [Option.some.injEq, Addr.mk.injEq, and_true] at heq
              subst heq
              have hz1 := hok.2 n (by omega)
              have hz2 := hok.2 j (by omega)
              rw [HZ1.out] at hz1
              rw [HZ2.out] at hz2
              have hcell := (HC.out n (by omega)).2.1
              obtain ⟨tn, htn⟩ : ∃ tn, (L.getD n noTsk).time = tn := ⟨_, rfl⟩
              have ht0 := (HL.out.2 n (by omega)).2
              rw [htn] at hcell ht0
              have e3 := (hb.cell (p := ⟨g, o + n * 2 + 1, none⟩) (cell_lt hcell)).trans hcell
              have HTN := hid htn
              have HST := hid (late_step HL.out rfl hok (show j < L.length by omega) hn)
              obtain ⟨wq, hwq⟩ : ∃ wq : World, wq = wr.drew := ⟨_, rfl⟩
              have hgl : w.heap.size ≤ gu := by assumption
              have q1 : wq.cell? ⟨gu, n, none⟩ = some (.int .i64 z1) := by rw [hwq]; exact e2
              have q2 : wq.cell? ⟨gu, j, none⟩ = some (.int .i64 z2) := by rw [hwq]; exact e4
              have q3 : wq.frozen? ⟨gu, n, none⟩ = false := by rw [hwq]; exact e5
              have HO : Aside (∀ m, m = min z1 (z2 - tn) → FInts (wq.setCell ⟨gu, n, none⟩ (.int .i64 m)) w.heap.size wo.heap.size (.slice (some ⟨gu, 0, none⟩) L.length cu) (s1.set n (min z1 (z2 - tn))) ∧ Below w.heap.size w (wq.setCell ⟨gu, n, none⟩ (.int .i64 m))) := by
                intro m hmm
                have hst := hF.set n m
                rw [hwq, ← hmm]
                exact ⟨hst.1, (below_dn hb 1).setCell (by first | exact Nat.le_refl _ | assumption) _⟩
              have q4 : wq.cell? ⟨g, o + n * 2 + 1, none⟩ = some (.int .i64 tn) := by rw [hwq]; exact e3
              have HWQ := hid hwq
              clear hyc hb hcell htn hF e2 e3 e4 e5 hwq hok
              have hltz1 : (q : Int) < (y.length : Int) := by omega
              have hltz3 : (n : Int) < (L.length : Int) := by omega
              have f1 : IntKind.i64.wrap (z2 - tn) = z2 - tn := IntWalk.i64_in _ (by omega)
              go_wp2
              refine wp_region_still_tail 18 (by kernel_rfl) (by kernel_rfl) ?_
              change wpStill _ _ wr.drew _ _ _
              rw [← HWQ.out]
              simp only [List.take_succ_cons, List.take_zero, List.drop_succ_cons, List.drop_zero]
              repeat still_step
              all_goals
                refine wpStill_nil ?_
                change wpList _ _ _ _ _ wr.drew
                rw [← HWQ.out]
                go_wp2
                all_goals
                  go_roundg (y.length - (q + 1))
                  case rel => exact ⟨q + 1, s1.set n (min z1 (z2 - tn)), by omega, rfl, by go_num, by rw [HL1.out, HD.out, lateJ_cons, Int.toNat_natCast, HZ1.out, HZ2.out, HTN.out], by have := HST.out; rw [HZ1.out, HZ2.out, HTN.out] at this; exact this, HO.out _ (by omega)⟩
                  case measure => omega
            · have HFF := hid hF
              have HBB := hid hb
              have HOO := hid hok
              have HL2 : Hid (lateF L e = lateK L j s1) := by show _ = _; rw [HL1.out, List.drop_eq_nil_of_le (by omega), lateJ_nil]
              clear hF hb hok
              have f3 : IntKind.i64.wrap ((j : Int) - 1) = (j : Int) - 1 := IntWalk.i64_in _ (by omega)
              go_wp2
              go_roundg j
              case rel => exact ⟨j, s1, (j : Int) - 1, by omega, rfl, rfl, rfl, HL2.out, HOO.out, HFF.out, HBB.out⟩
              case measure => omega
        · obtain rfl : k = 0 := by omega
          have hx0 : x < 0 := by omega
          have hF2 := fints_own hF
          rw [show s = lateF L e by rw [hlate, lateK_zero]] at hF2
          have HFF := hid hF2
          clear hF2
          have HBB := hid hb
          clear hF hb hok hlate hx
          go_wp2
          go_ret
          exact ⟨_, rfl, HFF.out, HBB.out⟩

end Go.Proofs.Ytegeelldcomnnaa
