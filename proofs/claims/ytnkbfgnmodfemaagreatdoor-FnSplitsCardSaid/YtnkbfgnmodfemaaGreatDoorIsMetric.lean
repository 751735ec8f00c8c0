/- The program's test of a metric. -/
import Derived.Test.YtnkbfgnmodfemaaGreatDoorMeGood
import Derived.Test.YtnkbfgnmodfemaaGreatDoorFuncs
namespace Go.Proofs.YtnkbfgnmodfemaaGreatDoor
open Go.RowKit
open Go.Lib (hid)

set_option maxHeartbeats 400000 in
theorem isMetricF_c (n b : Nat) (r : Value) (x : List Int) (w : World) (h : RInts w r x) (hc : w.cell? ⟨b, 0, none⟩ = some (.int .i64 (n : Int))) :
    Calls Tryz.prog 76 (#[r] ++ #[.pointer (some ⟨b, 0, none⟩)]) w fun e w' => e = .returned (.bool (!(x.length == n))) ∧ w = w' := by
  obtain ⟨a, cap, rfl, h1, h2, hc⟩ := h
  clear hc
  unfold maxLen at h2
  show Calls Tryz.prog 76 #[.slice a x.length cap, .pointer (some ⟨b, 0, none⟩)] w _
  go_enter Tryz.func76, Tryz.ntmps76
  go_wp2
  go_ret
  exact ⟨ret_bool bne_int, rfl⟩

set_option maxRecDepth 100000 in
set_option maxHeartbeats 4000000 in
theorem isMetric_c (v : Value) (M : List (List Int)) (w : World) (h : RMat w v M) :
    Calls Tryz.prog 55 #[v] w fun e w' => e = .returned (.bool (metB M)) ∧ Below w.heap.size w w' := by
  have hR := h
  obtain ⟨a, cap, rfl, h1, h2, hc⟩ := h
  unfold maxLen at h2
  clear hc
  rcases Bool.eq_false_or_eq_true (inB M.length 2 7) with hn | hn
  · have hb := inB_iff.1 hn
    go_enter Tryz.func55, Tryz.ntmps55
    go_wp2_with (go_at_call 43; refine (within_c _ _ _ _).mono ?_; rintro e w' ⟨rfl, rfl⟩)
    have hb0 : Below w.heap.size w (w.alloc (.cells #[.int .i64 ↑M.length] 3)) := (Below.refl _ _).alloc (Nat.le_refl _) _
    have hc0 : (w.alloc (.cells #[.int .i64 ↑M.length] 3)).cell? ⟨w.heap.size, 0, none⟩ = some (.int .i64 ↑M.length) := cell_new _ _ _
    refine (containsFuncM_c _ M _ _ _ (fun x => !(x.length == M.length)) (hR.keep hb0) Tryz.call76 (fun r x hr => isMetricF_c _ _ r x _ hr hc0)).mono ?_
    rintro e w1 ⟨rfl, hw1⟩
    rw [hw1] at hb0 hc0
    clear hw1
    have hR1 := hR.keep hb0
    have hany : (M.any fun x => !(x.length == M.length)) = !sqB M M.length := by
      unfold sqB; rw [Bool.eq_iff_iff]; simp
    rcases Bool.eq_false_or_eq_true (sqB M M.length) with hsq | hsq
    · have t0 : (M.any fun x => !(x.length == M.length)) = false := by rw [hany, hsq]; rfl
      rw [t0]
      have HSQ := hid hsq
      obtain ⟨g, o, cap', G, O, C, hv, _, _, hrow, hcell⟩ := sq_open hR1 (by omega) rfl hsq
      simp only [Value.slice.injEq, true_and] at hv
      obtain ⟨rfl, rfl⟩ := hv
      have HROW := hid hrow
      have HCELL := hid hcell
      clear hR hR1 hrow hcell t0 hany hsq
      have hb0' : Hid (Below w.heap.size w w1) := hb0
      clear hb0
      go_wp2
      go_loopw [20] (fun i wr => ∃ k q : Nat, k ≤ M.length ∧ wr = w1.drewN q ∧ i = .int .i64 k ∧ symB M M.length = allFrom M.length k (symRow M M.length)) (fun i _ => M.length - (intOf i).toNat)
      case atStart => exact ⟨0, 0, Nat.zero_le _, rfl, rfl, rfl⟩
      case round =>
        obtain ⟨i, q, hi, rfl, rfl, hr⟩ := hrel
        have HR := hid hr; clear hr
        by_cases hlt : i < M.length
        · have r1 := HROW.out i hlt
          go_wp2
          go_loopw [24] (fun i' wr => ∃ k q : Nat, k ≤ M.length ∧ wr = w1.drewN q ∧ i' = .int .i64 k ∧ symB M M.length = (allFrom M.length k (symP M i) && allFrom M.length (i + 1) (symRow M M.length))) (fun i _ => M.length - (intOf i).toNat)
          case atStart => exact ⟨0, _, Nat.zero_le _, rfl, rfl, by rw [HR.out, allFrom_lt _ hlt]; rfl⟩
          case round =>
            obtain ⟨k, q, hk, hq, rfl, hr⟩ := hrel
            have HQ := hid hq; clear hq
            have HR' := hid hr; clear hr
            by_cases hlt' : k < M.length
            · have r1' := cell_q HQ.out (r1)
              have r2 := cell_q HQ.out (HROW.out k hlt')
              have c1 := cell_q HQ.out (HCELL.out i k hlt hlt')
              have c2 := cell_q HQ.out (HCELL.out k i hlt' hlt)
              have c0 := cell_q HQ.out (hc0)
              have HC0 := hid hc0
              have HR1 := hid r1
              clear hc0 r1
              obtain ⟨x, hx⟩ : ∃ x, ent M i k = x := ⟨_, rfl⟩
              obtain ⟨y, hy⟩ : ∃ y, ent M k i = y := ⟨_, rfl⟩
              rw [hx] at c1
              rw [hy] at c2
              have HX := hid hx; clear hx
              have HY := hid hy; clear hy
              by_cases hik : i = k
              · have t1 : ((i : Int) == (k : Int)) = true := beq_nat_true hik
                have t2 : ((i : Int) != (k : Int)) = false := bne_of_true t1
                have HIK := hid hik; clear hik
                rcases Bool.eq_false_or_eq_true (x == 0) with t3 | t3
                · have t4 : (x != 0) = false := bne_of_true t3
                  go_wp2
                  go_quiet (fail)
                  go_wp2
                  go_roundw
                  case rel => exact ⟨k + 1, _, by omega, drew_q HQ.out _, by go_num, by rw [HR'.out, allFrom_lt _ hlt', symP, if_pos HIK.out, HX.out, t3, Bool.true_and]⟩
                  case measure => simp [intOf]; omega
                · have t4 : (x != 0) = true := bne_of_false t3
                  go_wp2
                  go_quiet (fail)
                  go_wp2
                  go_ret
                  exact ⟨ret_bool (by rw [metB, HR'.out, allFrom_lt _ hlt', symP, if_pos HIK.out, HX.out, t3]; simp), below_q HQ.out hb0'.out _⟩
              · have t1 : ((i : Int) == (k : Int)) = false := beq_nat_false hik
                have t2 : ((i : Int) != (k : Int)) = true := bne_of_false t1
                have HIK := hid hik; clear hik
                rcases Bool.eq_false_or_eq_true (inB x 1 10000) with t3 | t3 <;> rcases Bool.eq_false_or_eq_true (x != y) with t4 | t4
                all_goals
                  go_wp2
                  go_quiet ((go_at_call 43; exact Calls.quiet_of_same ((within_c _ _ _ _).mono fun _ _ h => ⟨h.1, h.2.symm⟩)))
                  go_wp2
                · go_ret
                  exact ⟨ret_bool (by rw [metB, HR'.out, allFrom_lt _ hlt', symP, if_neg HIK.out, HX.out, HY.out, t3, beq_of_bne t4]; simp), below_q HQ.out hb0'.out _⟩
                · go_roundw
                  case rel => exact ⟨k + 1, _, by omega, drew_q HQ.out _, by go_num, by rw [HR'.out, allFrom_lt _ hlt', symP, if_neg HIK.out, HX.out, HY.out, t3, beq_of_nbne t4]; rfl⟩
                  case measure => simp [intOf]; omega
                all_goals
                  go_ret
                  exact ⟨ret_bool (by rw [metB, HR'.out, allFrom_lt _ hlt', symP, if_neg HIK.out, HX.out, t3]; simp), below_q HQ.out hb0'.out _⟩
            · go_wp2
              go_roundw
              case rel => exact ⟨i + 1, _, by omega, HQ.out, by go_num, by rw [HR'.out, allFrom_ge _ (by omega), Bool.true_and]⟩
              case measure => simp [intOf]; omega
        · have HSY : Hid (symB M M.length = true) := by show _ = true; rw [HR.out, allFrom_ge _ (by omega)]
          go_wp2
          go_loopw [76] (fun i wr => ∃ k q : Nat, k ≤ M.length ∧ wr = w1.drewN q ∧ i = .int .i64 k ∧ triB M M.length = allFrom M.length k (triRow M M.length)) (fun i _ => M.length - (intOf i).toNat)
          case atStart => exact ⟨0, _, Nat.zero_le _, rfl, rfl, rfl⟩
          case round =>
            obtain ⟨i, q, hi, rfl, rfl, hr⟩ := hrel
            have HR := hid hr; clear hr
            by_cases hlt : i < M.length
            · have r1 := HROW.out i hlt
              go_wp2
              go_loopw [80] (fun i' wr => ∃ k q : Nat, k ≤ M.length ∧ wr = w1.drewN q ∧ i' = .int .i64 k ∧ triB M M.length = (allFrom M.length k (triCol M M.length i) && allFrom M.length (i + 1) (triRow M M.length))) (fun i _ => M.length - (intOf i).toNat)
              case atStart => exact ⟨0, _, Nat.zero_le _, rfl, rfl, by rw [HR.out, allFrom_lt _ hlt]; rfl⟩
              case round =>
                obtain ⟨k, q, hk, rfl, rfl, hr⟩ := hrel
                have HR' := hid hr; clear hr
                by_cases hlt' : k < M.length
                · have r2 := HROW.out k hlt'
                  have c1 := HCELL.out i k hlt hlt'
                  have b1 := symB_bound HSY.out hlt hlt'
                  obtain ⟨x, hx⟩ : ∃ x, ent M i k = x := ⟨_, rfl⟩
                  rw [hx] at c1 b1
                  have HX := hid hx; clear hx
                  go_wp2
                  go_loopw [84] (fun i' wr => ∃ j q : Nat, j ≤ M.length ∧ wr = w1.drewN q ∧ i' = .int .i64 j ∧ triB M M.length = (allFrom M.length j (triP M i k) && (allFrom M.length (k + 1) (triCol M M.length i) && allFrom M.length (i + 1) (triRow M M.length)))) (fun i _ => M.length - (intOf i).toNat)
                  case atStart => exact ⟨0, _, Nat.zero_le _, rfl, rfl, by rw [HR'.out, allFrom_lt _ hlt', Bool.and_assoc]; rfl⟩
                  case round =>
                    obtain ⟨j, q, hj, rfl, rfl, hr⟩ := hrel
                    have HR2 := hid hr; clear hr
                    by_cases hlt2 : j < M.length
                    · have r3 := HROW.out j hlt2
                      have c2 := HCELL.out i j hlt hlt2
                      have c3 := HCELL.out j k hlt2 hlt'
                      have b2 := symB_bound HSY.out hlt hlt2
                      have b3 := symB_bound HSY.out hlt2 hlt'
                      obtain ⟨y, hy⟩ : ∃ y, ent M i j = y := ⟨_, rfl⟩
                      obtain ⟨z, hz⟩ : ∃ z, ent M j k = z := ⟨_, rfl⟩
                      rw [hy] at c2 b2
                      rw [hz] at c3 b3
                      have HY := hid hy; clear hy
                      have HZ := hid hz; clear hz
                      go_wp2
                      go_quiet (fail)
                      by_cases ht : y + z < x
                      all_goals go_wp2
                      · go_ret
                        exact ⟨ret_bool (by rw [metB, HR2.out, allFrom_lt _ hlt2, triP, HX.out, HY.out, HZ.out, decide_eq_true ht]; simp), below_drewN (below_drewN hb0'.out _) _⟩
                      · go_roundw
                        case rel => exact ⟨j + 1, _, by omega, rfl, by go_num, by rw [HR2.out, allFrom_lt _ hlt2, triP, HX.out, HY.out, HZ.out, decide_eq_false (show ¬ y + z < x by omega)]; rfl⟩
                        case measure => simp [intOf]; omega
                    · go_wp2
                      go_roundw
                      case rel => exact ⟨k + 1, _, by omega, rfl, by go_num, by rw [HR2.out, allFrom_ge _ (by omega), Bool.true_and]⟩
                      case measure => simp [intOf]; omega
                · go_wp2
                  go_roundw
                  case rel => exact ⟨i + 1, _, by omega, rfl, by go_num, by rw [HR'.out, allFrom_ge _ (by omega), Bool.true_and]⟩
                  case measure => simp [intOf]; omega
            · go_wp2
              go_ret
              exact ⟨ret_bool (by rw [metB, hn, HSQ.out, HSY.out, HR.out, allFrom_ge _ (by omega)]; rfl), below_drewN hb0'.out _⟩
    · have t0 : (M.any fun x => !(x.length == M.length)) = true := by rw [hany, hsq]; rfl
      rw [t0]
      clear hR hR1 t0 hany
      go_wp2
      go_ret
      exact ⟨ret_bool (by simp [metB, hsq]), hb0⟩
  · go_enter Tryz.func55, Tryz.ntmps55
    go_wp2_with (go_at_call 43; refine (within_c _ _ _ _).mono ?_; rintro e w' ⟨rfl, rfl⟩)
    go_ret
    exact ⟨ret_bool (by simp [metB, hn]), (Below.refl _ _).alloc (Nat.le_refl _) _⟩

end Go.Proofs.YtnkbfgnmodfemaaGreatDoor
