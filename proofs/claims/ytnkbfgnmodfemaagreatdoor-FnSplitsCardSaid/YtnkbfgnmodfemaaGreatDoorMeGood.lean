/- The reference's test of a metric. -/
import Derived.Test.YtnkbfgnmodfemaaGreatDoorMat
namespace Go.Proofs.YtnkbfgnmodfemaaGreatDoor
open Go.RowKit
open Go.Lib (hid)

def symRow (M : List (List Int)) (n i : Nat) : Bool := allFrom n 0 fun k => symP M i k
def triRow (M : List (List Int)) (n i : Nat) : Bool := allFrom n 0 fun k => allFrom n 0 fun j => triP M i k j
def triCol (M : List (List Int)) (n i k : Nat) : Bool := allFrom n 0 fun j => triP M i k j
theorem symB_rows (M : List (List Int)) (n : Nat) : symB M n = allFrom n 0 (symRow M n) := rfl
theorem triB_rows (M : List (List Int)) (n : Nat) : triB M n = allFrom n 0 (triRow M n) := rfl

theorem bne_int {a b : Nat} : ((a : Int) != (b : Int)) = !(a == b) := by
  rw [Bool.eq_iff_iff]; simp; omega
theorem drewN_two {w : World} {a b : Nat} : ∃ n, (w.drewN a).drewN b = w.drewN n := ⟨a + b, World.drewN_drewN _ _ _⟩

set_option maxRecDepth 100000 in
set_option maxHeartbeats 1000000 in
theorem meGood_c (v : Value) (M : List (List Int)) (w : World) (h : RMat w v M) :
    Calls Tryz.prog 53 #[v] w fun e w' => e = .returned (.bool (metB M)) ∧ ∃ q, w' = w.drewN q := by
  have hR := h
  obtain ⟨a, cap, rfl, h1, h2, hc⟩ := h
  unfold maxLen at h2
  rcases Bool.eq_false_or_eq_true (inB M.length 2 7) with hn | hn
  · have hb := inB_iff.1 hn
    go_enter Tryz.func53, Tryz.ntmps53
    go_wp2_with (go_at_call 72; refine (l1In_c _ _ _ _).mono ?_; rintro e w' ⟨rfl, rfl⟩)
    go_loop [20] (fun i => ∃ k : Nat, k ≤ M.length ∧ i = .int .i64 k ∧ sqB M M.length = sqB (M.drop k) M.length) (fun i => M.length - (intOf i).toNat)
    case atStart => exact ⟨0, Nat.zero_le _, rfl, rfl⟩
    case round =>
      obtain ⟨k, hk, rfl, hr⟩ := hrel
      have HR := hid hr; clear hr
      by_cases hlt : k < M.length
      · obtain ⟨g, o, r, x, rfl, hk, hx, HD, _⟩ := mat_at hc hlt
        obtain ⟨ar, cr, rfl, hr1, hr2, hr3⟩ := hx
        clear hc hR hr3
        rcases Bool.eq_false_or_eq_true ((x.length : Int) != (M.length : Int)) with t | t
        · have HT : Hid ((x.length == M.length) = false) := by show _ = false; rw [bne_int] at t; simpa using t
          go_wp2
          go_ret
          exact ⟨ret_bool (by rw [metB, HR.out, HD.out, sqB_cons, HT.out]; simp), 0, rfl⟩
        · have HT : Hid ((x.length == M.length) = true) := by show _ = true; rw [bne_int] at t; simpa using t
          go_wp2
          go_round
          case rel => exact ⟨k + 1, by omega, by go_num, by rw [HR.out, HD.out, sqB_cons, HT.out, Bool.true_and]⟩
          case measure => simp [intOf]; omega
      · have HSQ : Hid (sqB M M.length = true) := by show _ = true; rw [HR.out, List.drop_eq_nil_of_le (by omega), sqB_nil]
        obtain ⟨g, o, cap', G, O, C, hv, _, _, hrow, hcell⟩ := sq_open hR (by omega) rfl HSQ.out
        simp only [Value.slice.injEq, true_and] at hv
        obtain ⟨rfl, rfl⟩ := hv
        have HROW := hid hrow
        have HCELL := hid hcell
        clear hc hR hrow hcell HR
        go_wp2
        go_loop [32] (fun i => ∃ k : Nat, k ≤ M.length ∧ i = .int .i64 k ∧ symB M M.length = allFrom M.length k (symRow M M.length)) (fun i => M.length - (intOf i).toNat)
        case atStart => exact ⟨0, Nat.zero_le _, rfl, rfl⟩
        case round =>
          obtain ⟨i, hi, rfl, hr⟩ := hrel
          have HR := hid hr; clear hr
          by_cases hlt : i < M.length
          · have r1 := HROW.out i hlt
            go_wp2
            go_loop [39] (fun i' => ∃ k : Nat, k ≤ M.length ∧ i' = .int .i64 k ∧ symB M M.length = (allFrom M.length k (symP M i) && allFrom M.length (i + 1) (symRow M M.length))) (fun i => M.length - (intOf i).toNat)
            case atStart => exact ⟨0, Nat.zero_le _, rfl, by rw [HR.out, allFrom_lt _ hlt]; rfl⟩
            case round =>
              obtain ⟨k, hk, rfl, hr⟩ := hrel
              have HR' := hid hr; clear hr
              by_cases hlt' : k < M.length
              · have r2 := HROW.out k hlt'
                have c1 := HCELL.out i k hlt hlt'
                have c2 := HCELL.out k i hlt' hlt
                obtain ⟨x, hx⟩ : ∃ x, ent M i k = x := ⟨_, rfl⟩
                obtain ⟨y, hy⟩ : ∃ y, ent M k i = y := ⟨_, rfl⟩
                rw [hx] at c1
                rw [hy] at c2
                have HX := hid hx; clear hx
                have HY := hid hy; clear hy
                by_cases hik : i = k
                · have t1 : ((i : Int) == (k : Int)) = true := beq_nat_true hik
                  have HIK := hid hik; clear hik
                  have t2 : ((i : Int) != (k : Int)) = false := by rw [bne, t1]; rfl
                  have HXY : Hid (x = y) := by show x = y; rw [← HX.out, ← HY.out, HIK.out]
                  rcases Bool.eq_false_or_eq_true (x == 0) with t3 | t3
                  · have t4 : (x != 0) = false := by rw [bne, t3]; rfl
                    have t5 : (y != x) = false := by rw [← HXY.out]; simp
                    go_wp2
                    go_round
                    case rel => exact ⟨k + 1, by omega, by go_num, by rw [HR'.out, allFrom_lt _ hlt', symP, if_pos HIK.out, HX.out, t3, Bool.true_and]⟩
                    case measure => simp [intOf]; omega
                  · have t4 : (x != 0) = true := by rw [bne, t3]; rfl
                    go_wp2
                    go_ret
                    exact ⟨ret_bool (by rw [metB, HR'.out, allFrom_lt _ hlt', symP, if_pos HIK.out, HX.out, t3]; simp), 0, rfl⟩
                · have t1 : ((i : Int) == (k : Int)) = false := beq_nat_false hik
                  have t2 : ((i : Int) != (k : Int)) = true := bne_of_false t1
                  have HIK := hid hik; clear hik
                  rcases Bool.eq_false_or_eq_true (inB x 1 10000) with t3 | t3 <;> rcases Bool.eq_false_or_eq_true (y != x) with t4 | t4
                  all_goals go_wp2_with (go_at_call 72; refine (l1In_c _ _ _ _).mono ?_; rintro e w' ⟨rfl, rfl⟩)
                  · go_ret
                    exact ⟨ret_bool (by rw [metB, HR'.out, allFrom_lt _ hlt', symP, if_neg HIK.out, HX.out, HY.out, t3, beq_comm_of (beq_of_bne t4)]; simp), 0, rfl⟩
                  · go_round
                    case rel => exact ⟨k + 1, by omega, by go_num, by rw [HR'.out, allFrom_lt _ hlt', symP, if_neg HIK.out, HX.out, HY.out, t3, beq_comm_of (beq_of_nbne t4)]; rfl⟩
                    case measure => simp [intOf]; omega
                  all_goals
                    go_ret
                    exact ⟨ret_bool (by rw [metB, HR'.out, allFrom_lt _ hlt', symP, if_neg HIK.out, HX.out, t3]; simp), 0, rfl⟩
              · go_wp2
                go_round
                case rel => exact ⟨i + 1, by omega, by go_num, by rw [HR'.out, allFrom_ge _ (by omega), Bool.true_and]⟩
                case measure => simp [intOf]; omega
          · have HSY : Hid (symB M M.length = true) := by show _ = true; rw [HR.out, allFrom_ge _ (by omega)]
            go_wp2
            go_loopw [76] (fun i wr => ∃ k q : Nat, k ≤ M.length ∧ wr = w.drewN q ∧ i = .int .i64 k ∧ triB M M.length = allFrom M.length k (triRow M M.length)) (fun i _ => M.length - (intOf i).toNat)
            case atStart => exact ⟨0, 0, Nat.zero_le _, rfl, rfl, rfl⟩
            case round =>
              obtain ⟨i, q, hi, rfl, rfl, hr⟩ := hrel
              have HR := hid hr; clear hr
              by_cases hlt : i < M.length
              · have r1 := HROW.out i hlt
                go_wp2
                go_loopw [83] (fun i' wr => ∃ k q : Nat, k ≤ M.length ∧ wr = w.drewN q ∧ i' = .int .i64 k ∧ triB M M.length = (allFrom M.length k (triCol M M.length i) && allFrom M.length (i + 1) (triRow M M.length))) (fun i _ => M.length - (intOf i).toNat)
                case atStart => exact ⟨0, _, Nat.zero_le _, rfl, rfl, by rw [HR.out, allFrom_lt _ hlt]; rfl⟩
                case round =>
                  obtain ⟨k, q, hk, rfl, rfl, hr⟩ := hrel
                  have HR' := hid hr; clear hr
                  by_cases hlt' : k < M.length
                  · have r2 := HROW.out k hlt'
                    have c1 := HCELL.out i k hlt hlt'
                    have b1 := symB_bound HSY.out hlt hlt'
                    obtain ⟨x, hx⟩ : ∃ x, ent M i k = x := ⟨_, rfl⟩
                    rw [hx] at c1 b1
                    have HX := hid hx; clear hx
                    go_wp2
                    go_loopw [90] (fun i' wr => ∃ j q : Nat, j ≤ M.length ∧ wr = w.drewN q ∧ i' = .int .i64 j ∧ triB M M.length = (allFrom M.length j (triP M i k) && (allFrom M.length (k + 1) (triCol M M.length i) && allFrom M.length (i + 1) (triRow M M.length)))) (fun i _ => M.length - (intOf i).toNat)
                    case atStart => exact ⟨0, _, Nat.zero_le _, rfl, rfl, by rw [HR'.out, allFrom_lt _ hlt', Bool.and_assoc]; rfl⟩
                    case round =>
                      obtain ⟨j, q, hj, rfl, rfl, hr⟩ := hrel
                      have HR2 := hid hr; clear hr
                      by_cases hlt2 : j < M.length
                      · have r3 := HROW.out j hlt2
                        have c2 := HCELL.out i j hlt hlt2
                        have c3 := HCELL.out j k hlt2 hlt'
                        have b2 := symB_bound HSY.out hlt hlt2
                        have b3 := symB_bound HSY.out hlt2 hlt'
                        obtain ⟨y, hy⟩ : ∃ y, ent M i j = y := ⟨_, rfl⟩
                        obtain ⟨z, hz⟩ : ∃ z, ent M j k = z := ⟨_, rfl⟩
                        rw [hy] at c2 b2
                        rw [hz] at c3 b3
                        have HY := hid hy; clear hy
                        have HZ := hid hz; clear hz
                        go_wp2
                        go_quiet (fail)
                        by_cases ht : y + z < x
                        all_goals go_wp2
                        · go_ret
                          exact ⟨ret_bool (by rw [metB, HR2.out, allFrom_lt _ hlt2, triP, HX.out, HY.out, HZ.out, decide_eq_true ht]; simp), _, World.drewN_drewN _ _ _⟩
                        · go_roundw
                          case rel => exact ⟨j + 1, _, by omega, rfl, by go_num, by rw [HR2.out, allFrom_lt _ hlt2, triP, HX.out, HY.out, HZ.out, decide_eq_false (show ¬ y + z < x by omega)]; rfl⟩
                          case measure => simp [intOf]; omega
                      · go_wp2
                        go_roundw
                        case rel => exact ⟨k + 1, _, by omega, rfl, by go_num, by rw [HR2.out, allFrom_ge _ (by omega), Bool.true_and]⟩
                        case measure => simp [intOf]; omega
                  · go_wp2
                    go_roundw
                    case rel => exact ⟨i + 1, _, by omega, rfl, by go_num, by rw [HR'.out, allFrom_ge _ (by omega), Bool.true_and]⟩
                    case measure => simp [intOf]; omega
              · go_wp2
                go_ret
                exact ⟨ret_bool (by rw [metB, hn, HSQ.out, HSY.out, HR.out, allFrom_ge _ (by omega)]; rfl), _, rfl⟩
  · go_enter Tryz.func53, Tryz.ntmps53
    go_wp2_with (go_at_call 72; refine (l1In_c _ _ _ _).mono ?_; rintro e w' ⟨rfl, rfl⟩)
    go_ret
    exact ⟨ret_bool (by simp [metB, hn]), 0, rfl⟩

theorem meGood_b (v : Value) (M : List (List Int)) (w : World) (h : RMat w v M) :
    Calls Tryz.prog 53 #[v] w fun e w' => e = .returned (.bool (metB M)) ∧ Below w.heap.size w w' :=
  (meGood_c v M w h).mono fun _ _ ⟨h1, n, h2⟩ => ⟨h1, by rw [h2]; exact ⟨rfl, rfl, rfl, Nat.le_refl _, fun _ _ => rfl⟩⟩

end Go.Proofs.YtnkbfgnmodfemaaGreatDoor
