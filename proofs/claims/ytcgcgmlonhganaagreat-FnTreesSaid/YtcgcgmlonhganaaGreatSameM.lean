/- The laws' own equality of lists of lists. -/
import Derived.Test.YtcgcgmlonhganaaGreatMake2
import Derived.Test.YtcgcgmlonhganaaGreatLawQ
namespace Go.Proofs.YtcgcgmlonhganaaGreat
open Go.RowKit
open Go.Lib (hid)

set_option maxHeartbeats 400000 in
theorem qLists_c (v u : Value) (l m : List (List Int)) (w : World) (h : RMat w v l) (h' : RMat w u m) :
    Calls Tryz.prog 11 #[v, u] w fun e w' => e = .returned (.bool (decide (l = m))) ∧ ∃ n, w' = w.drewN n := by
  obtain ⟨a, cap, rfl, h1, h2, hc⟩ := h
  obtain ⟨a', cap', rfl, h1', h2', hc'⟩ := h'
  unfold maxLen at h2 h2'
  by_cases hlen : l.length = m.length
  · have HL := hid hlen
    go_enter Tryz.func11, Tryz.ntmps11
    go_wp2
    go_loopw [13] (fun i wr => ∃ k n : Nat, k ≤ l.length ∧ wr = w.drewN n ∧ i = .int .i64 k ∧ eqM l m = eqM (l.drop k) (m.drop k)) (fun i _ => l.length - (intOf i).toNat)
    case atStart => exact ⟨0, 0, Nat.zero_le _, rfl, rfl, rfl⟩
    case round =>
      obtain ⟨k, n, hk, hq, rfl, hr⟩ := hrel
      have HR := hid hr; clear hr
      have HQ := hid hq; clear hq
      by_cases hlt : k < l.length
      · obtain ⟨g, o, r, x, rfl, hk1, hx, HD, HX⟩ := mat_at hc hlt
        obtain ⟨g', o', r', y, rfl, hk2, hy, HD', HY⟩ := mat_at hc' (show k < m.length by omega)
        have c1 := cell_q HQ.out hk1
        have c2 := cell_q HQ.out hk2
        have hx' : RInts wr r x := by rw [HQ.out]; exact hx
        have hy' : RInts wr r' y := by rw [HQ.out]; exact hy
        clear hc hc' hk1 hk2 hx hy
        rcases Bool.eq_false_or_eq_true (decide (x = y)) with ht | ht
        all_goals
          go_wp2
          go_quiet ((go_at_call 30; exact Calls.quiet_of (qInts_c _ _ x y _ hx'.drewN hy'.drewN)))
          go_wp2
        · go_roundw
          case rel => exact ⟨k + 1, _, by omega, drew_q HQ.out _, by go_num, by rw [HR.out, HD.out, HD'.out, eqM_cons, ht, Bool.true_and]⟩
          case measure => simp [intOf]; omega
        · go_ret
          exact ⟨ret_bool (by rw [← eqM_same l m HL.out, HR.out, HD.out, HD'.out, eqM_cons, ht, Bool.false_and]), _, drew_q HQ.out _⟩
      · clear hc hc'
        go_wp2
        go_ret
        exact ⟨ret_bool (by rw [← eqM_same l m HL.out, HR.out, List.drop_eq_nil_of_le (by omega), eqM_nil]), _, HQ.out⟩
  · have hne : l ≠ m := fun e => hlen (by rw [e])
    have HN := hid hne
    clear hne hc hc'
    go_enter Tryz.func11, Tryz.ntmps11
    go_wp2
    go_ret
    exact ⟨ret_bool (by simp [HN.out]), 0, rfl⟩
theorem qLists_b (v u : Value) (l m : List (List Int)) (w : World) (h : RMat w v l) (h' : RMat w u m) :
    Calls Tryz.prog 11 #[v, u] w fun e w' => e = .returned (.bool (decide (l = m))) ∧ Below w.heap.size w w' :=
  (qLists_c v u l m w h h').mono fun e w' ⟨h1, n, h2⟩ => ⟨h1, by rw [h2]; exact below_drewN (Below.refl _ _) n⟩
/-- lists that are known to be the same -/
theorem qLists_y (v u : Value) (l : List (List Int)) (w : World) (h : RMat w v l) (h' : RMat w u l) :
    Calls Tryz.prog 11 #[v, u] w fun e w' => e = .returned (.bool true) ∧ Below w.heap.size w w' :=
  (qLists_b v u l l w h h').mono fun e w' ⟨h1, h2⟩ => ⟨by rw [h1]; simp, h2⟩
end Go.Proofs.YtcgcgmlonhganaaGreat
