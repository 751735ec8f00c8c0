/- The nearest point of a metric: both programs' functions. -/
import Derived.Test.YtcgcgmlonhganaaIsMetric
import Derived.Test.YtcgcgmlonhganaaVertices
namespace Go.Proofs.Ytcgcgmlonhganaa
open Go.RowKit
open Go.Lib (hid)

/-- the search for the nearest, from place k on -/
def nearL (i : Nat) : Nat → Int → Int → List Int → Int × Int
  | _, near, least, [] => (near, least)
  | k, near, least, n :: ns => if k = i then nearL i (k + 1) near least ns else if n < least then nearL i (k + 1) k n ns else nearL i (k + 1) near least ns
theorem nearL_nil (i k : Nat) (a b : Int) : nearL i k a b [] = (a, b) := rfl
theorem nearL_own (i k : Nat) (a b n : Int) (ns : List Int) (h : k = i) : nearL i k a b (n :: ns) = nearL i (k + 1) a b ns := by rw [nearL, if_pos h]
theorem nearL_less (i k : Nat) (a b n : Int) (ns : List Int) (h : ¬ k = i) (h' : n < b) : nearL i k a b (n :: ns) = nearL i (k + 1) k n ns := by rw [nearL, if_neg h, if_pos h']
theorem nearL_more (i k : Nat) (a b n : Int) (ns : List Int) (h : ¬ k = i) (h' : ¬ n < b) : nearL i k a b (n :: ns) = nearL i (k + 1) a b ns := by rw [nearL, if_neg h, if_neg h']

def nearB (M : List (List Int)) (i : Int) : (Int × Int) × Bool :=
  if metB M && inB i 0 (M.length - 1) then (nearL i.toNat 0 0 1000000000 (M.getD i.toNat []), true) else ((0, 0), false)
theorem nearB_no (M : List (List Int)) (i : Int) (h : (metB M && inB i 0 (M.length - 1)) = false) : nearB M i = ((0, 0), false) := by rw [nearB, h]; rfl
theorem nearB_yes (M : List (List Int)) (j : Nat) (h : (metB M && inB (j : Int) 0 (M.length - 1)) = true) : nearB M j = (nearL j 0 0 1000000000 (M.getD j []), true) := by
  rw [nearB, h, if_pos rfl]; rfl

theorem allB_one (x lo hi : Int) : allB [x] lo hi = inB x lo hi := by simp [allB_cons, allB_nil]

theorem row_drop {M : List (List Int)} {n i k : Nat} (hsq : sqB M n = true) (hl : M.length = n) (hi : i < n) (hk : k < n) : (M.getD i []).drop k = ent M i k :: (M.getD i []).drop (k + 1) :=
  drop_cons _ 0 k (by rw [sqB_len hsq (by omega)]; exact hk)

set_option maxRecDepth 100000 in
set_option maxHeartbeats 2000000 in
theorem iNearestTaxon_u (v : Value) (M : List (List Int)) (i : Int) (w : World) (h : RMat w v M) :
    Calls Try.prog 42 #[v, .int .i64 i] w fun e w' => e = .returned (.tuple #[.int .i64 (nearB M i).1.1, .int .i64 (nearB M i).1.2, .bool (nearB M i).2]) ∧ Below w.heap.size w w' := by
  have hR := h
  obtain ⟨a, cap, rfl, h1, h2, hc⟩ := h
  clear hc
  unfold maxLen at h2
  rcases Bool.eq_false_or_eq_true (metB M) with hm | hm
  · obtain ⟨hn2, hn7, hsq, hsym, _⟩ := metB_parts hm
    go_enter Try.func42, Try.ntmps42
    go_wp2_with fail
    refine (isMetric_c _ M _ hR).mono ?_
    rintro e w1 ⟨rfl, hb1⟩
    rw [hm]
    have hR1 := hR.keep hb1
    go_wp2_with fail
    have hbx : Below w1.heap.size w1 (w1.alloc (.cells #[.int .i64 i] 3)) := (Below.refl _ _).alloc (Nat.le_refl _) _
    refine (areVertices_c _ _ M [i] _ (hR1.keep hbx) (rints_new w1 [i] (by simp))).mono ?_
    rintro e w2 ⟨rfl, hb2⟩
    have B2 := (hb1.trans (hbx.mono hb1.size)).trans (hb2.mono (Nat.le_trans hb1.size hbx.size))
    have hR2 := hR.keep B2
    rw [allB_one]
    clear hb2 hbx hR1 hR hb1
    rcases Bool.eq_false_or_eq_true (inB i 0 (M.length - 1)) with hi | hi
    · obtain ⟨hi0, hi1⟩ := inB_iff.1 hi
      obtain ⟨j, rfl⟩ := Int.eq_ofNat_of_zero_le hi0
      have hj : j < M.length := by omega
      have HB := hid (nearB_yes M j (by rw [hm, hi]; rfl))
      obtain ⟨g, o, cap', G, O, C, hv, _, _, hrow, hcell⟩ := sq_open hR2 (by omega) rfl hsq
      simp only [Value.slice.injEq, true_and] at hv
      obtain ⟨rfl, rfl⟩ := hv
      have r1 := hrow j hj
      have HCELL := hid hcell
      have HD := hid (fun k hk => row_drop (k := k) hsq rfl hj hk)
      have HBND := hid (fun k hk => symB_bound (j := k) hsym hj hk)
      have HL := hid (sqB_len hsq hj)
      have HB2 := hid B2
      clear hR2 hrow hcell hsq hsym B2
      rw [hi]
      go_wp2
      go_loop [7, 8, 26] (fun near least i => ∃ k : Nat, ∃ p q : Int, k ≤ M.length ∧ i = .int .i64 k ∧ near = .int .i64 p ∧ least = .int .i64 q ∧ nearL j 0 0 1000000000 (M.getD j []) = nearL j k p q ((M.getD j []).drop k)) (fun _ _ i => M.length - (intOf i).toNat)
      case atStart => exact ⟨0, 0, 1000000000, Nat.zero_le _, rfl, rfl, rfl, rfl⟩
      case round =>
        obtain ⟨k, p, q, hk, rfl, rfl, rfl, hr⟩ := hrel
        have HR := hid hr; clear hr
        by_cases hlt : k < M.length
        · have c1 := HCELL.out j k hj hlt
          have hd := HD.out k hlt
          obtain ⟨x, hx⟩ : ∃ x, ent M j k = x := ⟨_, rfl⟩
          rw [hx] at c1 hd
          have HDK := hid hd; clear hd hx
          by_cases hkj : k = j
          · have t1 : ((k : Int) != (j : Int)) = false := bne_nat_false hkj
            have HKJ := hid hkj; clear hkj
            go_wp2
            go_round
            case rel => exact ⟨k + 1, p, q, by omega, by go_num, rfl, rfl, by rw [HR.out, HDK.out, nearL_own _ _ _ _ _ _ HKJ.out]⟩
            case measure => simp [intOf]; omega
          · have t1 : ((k : Int) != (j : Int)) = true := bne_nat_true hkj
            have HKJ := hid hkj; clear hkj
            by_cases hxq : x < q
            all_goals go_wp2
            · go_round
              case rel => exact ⟨k + 1, k, x, by omega, by go_num, rfl, rfl, by rw [HR.out, HDK.out, nearL_less _ _ _ _ _ _ HKJ.out (by omega)]⟩
              case measure => simp [intOf]; omega
            · go_round
              case rel => exact ⟨k + 1, p, q, by omega, by go_num, rfl, rfl, by rw [HR.out, HDK.out, nearL_more _ _ _ _ _ _ HKJ.out (by omega)]⟩
              case measure => simp [intOf]; omega
        · have HN : Hid (nearL j 0 0 1000000000 (M.getD j []) = (p, q)) := by show _ = _; rw [HR.out, List.drop_eq_nil_of_le (by rw [HL.out]; omega), nearL_nil]
          go_wp2
          go_ret3
          exact ⟨by rw [HB.out, HN.out]; rfl, HB2.out⟩
    · have HB := hid (nearB_no M i (by rw [hi]; simp))
      rw [hi]
      go_wp2
      go_ret3
      exact ⟨by rw [HB.out]; rfl, B2⟩
  · have HB := hid (nearB_no M i (by rw [hm]; rfl))
    go_enter Try.func42, Try.ntmps42
    go_wp2_with fail
    refine (isMetric_c _ M _ hR).mono ?_
    rintro e w1 ⟨rfl, hb1⟩
    rw [hm]
    go_wp2
    go_ret3
    exact ⟨by rw [HB.out]; rfl, hb1⟩

set_option maxRecDepth 100000 in
set_option maxHeartbeats 2000000 in
theorem sNearestTaxon_u (v : Value) (M : List (List Int)) (i : Int) (w : World) (h : RMat w v M) :
    Calls Try.prog 43 #[v, .int .i64 i] w fun e w' => e = .returned (.tuple #[.int .i64 (nearB M i).1.1, .int .i64 (nearB M i).1.2, .bool (nearB M i).2]) ∧ Below w.heap.size w w' := by
  have hR := h
  obtain ⟨a, cap, rfl, h1, h2, hc⟩ := h
  clear hc
  unfold maxLen at h2
  rcases Bool.eq_false_or_eq_true (metB M) with hm | hm
  · obtain ⟨hn2, hn7, hsq, hsym, _⟩ := metB_parts hm
    go_enter Try.func43, Try.ntmps43
    go_wp2_with fail
    refine (meGood_b _ M _ hR).mono ?_
    rintro e w1 ⟨rfl, B2⟩
    rw [hm]
    have hR2 := hR.keep B2
    clear hR
    rcases Bool.eq_false_or_eq_true (inB i 0 (M.length - 1)) with hi | hi
    · obtain ⟨hi0, hi1⟩ := inB_iff.1 hi
      obtain ⟨j, rfl⟩ := Int.eq_ofNat_of_zero_le hi0
      have hj : j < M.length := by omega
      have HB := hid (nearB_yes M j (by rw [hm, hi]; rfl))
      obtain ⟨g, o, cap', G, O, C, hv, _, _, hrow, hcell⟩ := sq_open hR2 (by omega) rfl hsq
      simp only [Value.slice.injEq, true_and] at hv
      obtain ⟨rfl, rfl⟩ := hv
      have r1 := hrow j hj
      have HCELL := hid hcell
      have HD := hid (fun k hk => row_drop (k := k) hsq rfl hj hk)
      have HBND := hid (fun k hk => symB_bound (j := k) hsym hj hk)
      have HL := hid (sqB_len hsq hj)
      have HB2 := hid B2
      clear hR2 hrow hcell hsq hsym B2
      go_wp2_with (go_at_call 79; refine (l1In_c _ _ _ _).mono ?_; rintro e w' ⟨rfl, rfl⟩)
      go_loop [7, 26] (fun best i => ∃ k : Nat, ∃ p q : Int, k ≤ M.length ∧ i = .int .i64 k ∧ nearL j 0 0 1000000000 (M.getD j []) = nearL j k p q ((M.getD j []).drop k) ∧
        ((best = .int .i64 (-1) ∧ p = 0 ∧ q = 1000000000 ∧ (k = 0 ∨ (k = 1 ∧ j = 0))) ∨ ∃ b : Nat, b < M.length ∧ best = .int .i64 b ∧ p = b ∧ q = ent M j b)) (fun _ i => M.length - (intOf i).toNat)
      case atStart => exact ⟨0, 0, 1000000000, Nat.zero_le _, rfl, rfl, .inl ⟨rfl, rfl, rfl, .inl rfl⟩⟩
      case round =>
        obtain ⟨k, p, q, hk, rfl, hr, hst⟩ := hrel
        have HR := hid hr; clear hr
        by_cases hlt : k < M.length
        · have c1 := HCELL.out j k hj hlt
          have hd := HD.out k hlt
          have hbx := HBND.out k hlt
          obtain ⟨x, hx⟩ : ∃ x, ent M j k = x := ⟨_, rfl⟩
          rw [hx] at c1 hd hbx
          have HDK := hid hd
          have HX := hid hx; clear hd hx
          rcases hst with ⟨rfl, rfl, rfl, h01⟩ | ⟨b, hb, rfl, rfl, hq⟩
          · by_cases hkj : k = j
            · have t1 : ((k : Int) != (j : Int)) = false := bne_nat_false hkj
              have HKJ := hid hkj; clear hkj
              go_wp2
              go_round
              case rel => exact ⟨k + 1, 0, 1000000000, by omega, by go_num, by rw [HR.out, HDK.out, nearL_own _ _ _ _ _ _ HKJ.out], .inl ⟨rfl, rfl, rfl, .inr (by have := HKJ.out; omega)⟩⟩
              case measure => simp [intOf]; omega
            · have t1 : ((k : Int) != (j : Int)) = true := bne_nat_true hkj
              have HKJ := hid hkj; clear hkj
              go_wp2
              go_round
              case rel => exact ⟨k + 1, k, x, by omega, by go_num, by rw [HR.out, HDK.out, nearL_less _ _ _ _ _ _ HKJ.out (by omega)], .inr ⟨k, hlt, rfl, rfl, HX.out.symm⟩⟩
              case measure => simp [intOf]; omega
          · have c2 := HCELL.out j b hj hb
            rw [← hq] at c2
            have HQ := hid hq; clear hq
            by_cases hkj : k = j
            · have t1 : ((k : Int) != (j : Int)) = false := bne_nat_false hkj
              have HKJ := hid hkj; clear hkj
              go_wp2
              go_round
              case rel => exact ⟨k + 1, b, q, by omega, by go_num, by rw [HR.out, HDK.out, nearL_own _ _ _ _ _ _ HKJ.out], .inr ⟨b, hb, rfl, rfl, HQ.out⟩⟩
              case measure => simp [intOf]; omega
            · have t1 : ((k : Int) != (j : Int)) = true := bne_nat_true hkj
              have HKJ := hid hkj; clear hkj
              by_cases hxq : x < q
              all_goals go_wp2
              · go_round
                case rel => exact ⟨k + 1, k, x, by omega, by go_num, by rw [HR.out, HDK.out, nearL_less _ _ _ _ _ _ HKJ.out (by omega)], .inr ⟨k, hlt, rfl, rfl, HX.out.symm⟩⟩
                case measure => simp [intOf]; omega
              · go_round
                case rel => exact ⟨k + 1, b, q, by omega, by go_num, by rw [HR.out, HDK.out, nearL_more _ _ _ _ _ _ HKJ.out (by omega)], .inr ⟨b, hb, rfl, rfl, HQ.out⟩⟩
                case measure => simp [intOf]; omega
        · have HN : Hid (nearL j 0 0 1000000000 (M.getD j []) = (p, q)) := by show _ = _; rw [HR.out, List.drop_eq_nil_of_le (by rw [HL.out]; omega), nearL_nil]
          rcases hst with ⟨rfl, rfl, rfl, h01⟩ | ⟨b, hb, rfl, rfl, hq⟩
          · exfalso; omega
          · have c2 := HCELL.out j b hj hb
            rw [← hq] at c2
            clear hq
            go_wp2
            go_quiet (fail)
            go_wp2
            go_ret3
            exact ⟨by rw [HB.out, HN.out]; rfl, below_drewN HB2.out _⟩
    · have HB := hid (nearB_no M i (by rw [hi]; simp))
      go_wp2_with (go_at_call 79; refine (l1In_c _ _ _ _).mono ?_; rintro e w' ⟨rfl, rfl⟩)
      go_ret3
      exact ⟨by rw [HB.out]; rfl, B2⟩
  · have HB := hid (nearB_no M i (by rw [hm]; rfl))
    go_enter Try.func43, Try.ntmps43
    go_wp2_with fail
    refine (meGood_b _ M _ hR).mono ?_
    rintro e w1 ⟨rfl, hb1⟩
    rw [hm]
    go_wp2
    go_ret3
    exact ⟨by rw [HB.out]; rfl, hb1⟩

end Go.Proofs.Ytcgcgmlonhganaa
