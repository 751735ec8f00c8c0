/- The laws' own small functions: equal lists, sums, membership. -/
import Derived.Test.YtnkbfgnmodfemaaGreatDoorMark
namespace Go.Proofs.YtnkbfgnmodfemaaGreatDoor
open Go.RowKit
open Go.Lib (hid)

theorem RInts.form3 {w : World} {v : Value} {xs : List Int} (h : RInts w v xs) : ∃ a n c, v = .slice a n c := by
  obtain ⟨a, cap, rfl, _⟩ := h; exact ⟨_, _, _, rfl⟩
theorem RInts.form {w : World} {v : Value} {xs : List Int} (h : RInts w v xs) : ∃ a c, v = .slice a xs.length c := by
  obtain ⟨a, cap, rfl, _⟩ := h; exact ⟨_, _, rfl⟩
set_option maxHeartbeats 400000 in
theorem qInts_c (v u : Value) (l m : List Int) (w : World) (h : RInts w v l) (h' : RInts w u m) :
    Calls Tryz.prog 12 #[v, u] w fun e w' => e = .returned (.bool (decide (l = m))) ∧ ∃ n, w' = w.drewN n := by
  obtain ⟨a, cap, rfl, h1, h2, hc⟩ := h
  obtain ⟨a', cap', rfl, h1', h2', hc'⟩ := h'
  unfold maxLen at h2 h2'
  by_cases hlen : l.length = m.length
  · have HL := hid hlen
    go_enter Tryz.func12, Tryz.ntmps12
    go_wp2
    go_loopw [13] (fun i wr => ∃ k : Nat, ∃ n : Nat, k ≤ l.length ∧ wr = w.drewN n ∧ i = .int .i64 k ∧ eqB l m = eqB (l.drop k) (m.drop k)) (fun i _ => l.length - (intOf i).toNat)
    case atStart => exact ⟨0, 0, Nat.zero_le _, rfl, rfl, rfl⟩
    case round =>
      obtain ⟨k, n, hk, rfl, rfl, hr⟩ := hrel
      have HR := hid hr; clear hr
      by_cases hlt : k < l.length
      · obtain ⟨g, o, x, rfl, hk, HD, HX⟩ := ints_at hc hlt
        obtain ⟨g', o', y, rfl, hk', HD', HY⟩ := ints_at hc' (show k < m.length by omega)
        clear hc hc'
        go_wp2
        go_quiet (fail)
        go_wp2
        · have hx : (x == y) = false := bne_iff_beq_false (by assumption)
          go_ret
          exact ⟨ret_bool (by rw [← eqB_same l m HL.out, HR.out, HD.out, HD'.out, eqB_cons, hx, Bool.false_and]), _, by first | exact World.drewN_drewN _ _ _ | rfl⟩
        · have hx : (x == y) = true := bne_false_beq (by assumption)
          go_roundw
          case rel => exact ⟨k + 1, _, by omega, by first | exact World.drewN_drewN _ _ _ | rfl, by go_num, by rw [HR.out, HD.out, HD'.out, eqB_cons, hx, Bool.true_and]⟩
          case measure => simp [intOf]; omega
      · clear hc hc'
        go_wp2
        go_ret
        exact ⟨ret_bool (by rw [← eqB_same l m HL.out, HR.out, List.drop_eq_nil_of_le (by omega), eqB_nil]), _, rfl⟩
  · have hne : l ≠ m := fun e => hlen (by rw [e])
    have HN := hid hne
    clear hne hc hc'
    go_enter Tryz.func12, Tryz.ntmps12
    go_wp2
    go_ret
    exact ⟨ret_bool (by simp [HN.out]), 0, rfl⟩
theorem qInts_b (v u : Value) (l m : List Int) (w : World) (h : RInts w v l) (h' : RInts w u m) :
    Calls Tryz.prog 12 #[v, u] w fun e w' => e = .returned (.bool (decide (l = m))) ∧ Below w.heap.size w w' :=
  (qInts_c v u l m w h h').mono fun e w' ⟨h1, n, h2⟩ => ⟨h1, by rw [h2]; exact below_drewN (Below.refl _ _) n⟩
/-- lists that are known to be the same -/
theorem qInts_y (v u : Value) (l : List Int) (w : World) (h : RInts w v l) (h' : RInts w u l) :
    Calls Tryz.prog 12 #[v, u] w fun e w' => e = .returned (.bool true) ∧ Below w.heap.size w w' :=
  (qInts_b v u l l w h h').mono fun e w' ⟨h1, h2⟩ => ⟨by rw [h1]; simp, h2⟩

/-- numbers whose sum fits -/
def smallQ (l : List Int) : Prop := l.length ≤ 1048576 ∧ ∀ x ∈ l, -1000000000000 ≤ x ∧ x ≤ 1000000000000
theorem sumQ_bound {l : List Int} (h : ∀ x ∈ l, -1000000000000 ≤ x ∧ x ≤ 1000000000000) : -1000000000000 * (l.length : Int) ≤ l.sum ∧ l.sum ≤ 1000000000000 * (l.length : Int) := by
  induction l with
  | nil => simp
  | cons x xs ih =>
    have h1 := h x (by simp)
    have h2 := ih (fun y hy => h y (by simp [hy]))
    rw [List.sum_cons, List.length_cons]; omega
theorem sumQ_succ (l : List Int) {k : Nat} (h : k < l.length) : (l.take (k + 1)).sum = (l.take k).sum + l.getD k 0 := by
  rw [List.take_succ_eq_append_getElem h, List.sum_append]; simp [List.getD, h]
set_option maxHeartbeats 1000000 in
theorem qSum_c (v : Value) (l : List Int) (w : World) (h : RInts w v l) (hs : smallQ l) :
    Calls Tryz.prog 13 #[v] w fun e w' => e = .returned (.int .i64 l.sum) ∧ w = w' := by
  obtain ⟨a, cap, rfl, h1, h2, hc⟩ := h
  unfold maxLen at h2
  have HS := hid hs
  have hl := hs.1
  clear hs
  go_enter Tryz.func13, Tryz.ntmps13
  go_wp2
  go_loop [3, 8] (fun s i => ∃ k : Nat, k ≤ l.length ∧ i = .int .i64 k ∧ s = .int .i64 (l.take k).sum) (fun _ i => l.length - (intOf i).toNat)
  case atStart => exact ⟨0, Nat.zero_le _, rfl, rfl⟩
  case round =>
    obtain ⟨k, hk, rfl, rfl⟩ := hrel
    by_cases hlt : k < l.length
    · obtain ⟨g, o, x, rfl, hk, HD, HX⟩ := ints_at hc hlt
      have h3 := sumQ_succ l hlt
      rw [HX.out] at h3
      have h4 := sumQ_bound (l := l.take k) (fun x hx => HS.out.2 x (List.mem_of_mem_take hx))
      have h5 := HS.out.2 x (by rw [← HX.out]; simp [List.getD, hlt])
      have h6 : (l.take k).length ≤ 1048576 := by rw [List.length_take]; omega
      obtain ⟨q, hq⟩ : ∃ q, (l.take k).sum = q := ⟨_, rfl⟩
      rw [hq] at h3 h4 ⊢
      have h7 : -1048576000000000000 ≤ q ∧ q ≤ 1048576000000000000 := by omega
      have HE := hid h3
      clear hc h3 h4 h6 hq
      go_wp2
      go_round
      case rel => exact ⟨k + 1, by omega, by go_num, by rw [HE.out]⟩
      case measure => simp [intOf]; omega
    · obtain rfl : k = l.length := by omega
      rw [List.take_length]
      clear hc
      go_wp2
      go_ret
      exact ⟨rfl, rfl⟩

end Go.Proofs.YtnkbfgnmodfemaaGreatDoor
