/- Equal slices: the reference's l1Same, the library's Equal. -/
import Derived.Test.YtnkbfgnmodfemaaGreatDoorLeaf
namespace Go.Proofs.YtnkbfgnmodfemaaGreatDoor
open Go.RowKit
open Go.Lib (hid)

set_option maxHeartbeats 400000 in
theorem l1Same_c (v u : Value) (l m : List Int) (w : World) (h : RInts w v l) (h' : RInts w u m) :
    Calls Tryz.prog 74 #[v, u] w fun e w' => e = .returned (.bool (decide (l = m))) ∧ ∃ n, w' = w.drewN n := by
  obtain ⟨a, cap, rfl, h1, h2, hc⟩ := h
  obtain ⟨a', cap', rfl, h1', h2', hc'⟩ := h'
  unfold maxLen at h2 h2'
  by_cases hlen : l.length = m.length
  · have HL := hid hlen
    go_enter Tryz.func74, Tryz.ntmps74
    go_wp2
    go_loopw [13] (fun i wr => ∃ k : Nat, ∃ n : Nat, k ≤ l.length ∧ wr = w.drewN n ∧ i = .int .i64 k ∧ eqB l m = eqB (l.drop k) (m.drop k)) (fun i _ => l.length - (intOf i).toNat)
    case atStart => exact ⟨0, 0, Nat.zero_le _, rfl, rfl, rfl⟩
    case round =>
      obtain ⟨k, n, hk, rfl, rfl, hr⟩ := hrel
      have HR := hid hr; clear hr
      by_cases hlt : k < l.length
      · obtain ⟨g, o, x, rfl, hk, HD, HX⟩ := ints_at hc hlt
        obtain ⟨g', o', y, rfl, hk', HD', HY⟩ := ints_at hc' (show k < m.length by omega)
        clear hc hc'
        go_wp2
        go_quiet (fail)
        go_wp2
        · have hx : (x == y) = false := bne_iff_beq_false (by assumption)
          go_ret
          exact ⟨ret_bool (by rw [← eqB_same l m HL.out, HR.out, HD.out, HD'.out, eqB_cons, hx, Bool.false_and]), _, by first | exact World.drewN_drewN _ _ _ | rfl⟩
        · have hx : (x == y) = true := bne_false_beq (by assumption)
          go_roundw
          case rel => exact ⟨k + 1, _, by omega, by first | exact World.drewN_drewN _ _ _ | rfl, by go_num, by rw [HR.out, HD.out, HD'.out, eqB_cons, hx, Bool.true_and]⟩
          case measure => simp [intOf]; omega
      · clear hc hc'
        go_wp2
        go_ret
        exact ⟨ret_bool (by rw [← eqB_same l m HL.out, HR.out, List.drop_eq_nil_of_le (by omega), eqB_nil]), _, rfl⟩
  · have hne : l ≠ m := fun e => hlen (by rw [e])
    have HN := hid hne
    clear hne hc hc'
    go_enter Tryz.func74, Tryz.ntmps74
    go_wp2
    go_ret
    exact ⟨ret_bool (by simp [HN.out]), 0, rfl⟩

end Go.Proofs.YtnkbfgnmodfemaaGreatDoor
