/- Piles: the program's graphs with a sink, piles, stable ones. -/
import Derived.Test.YtifdhapaonideaaPileS3
import Derived.Test.YtifdhapaonideaaFire
import Derived.Test.YtifdhapaonideaaFuncsB
namespace Go.Proofs.Ytifdhapaonideaa
open Go.RowKit
open Go.Lib (hid)

set_option maxHeartbeats 1000000 in
theorem isPileF_c (x : Int) (w : World) :
    Calls Try.prog 95 (#[.int .i64 x] ++ #[]) w fun e w' => e = .returned (.bool (!inB x 0 50)) ∧ w = w' := by
  show Calls Try.prog 95 #[.int .i64 x] w _
  go_enter Try.func95, Try.ntmps95
  go_wp2_with (go_at_call 96; refine (within_c _ _ _ _).mono ?_; rintro e w' ⟨rfl, rfl⟩)
  go_ret
  exact ⟨rfl, rfl⟩

set_option maxRecDepth 100000 in
set_option maxHeartbeats 2000000 in
theorem isPile_c (n q p : Nat) (L : List Lnk) (u : Value) (d : List Int) (w : World) (h : RG w (.pointer (some ⟨p, 0, none⟩)) n L) (hd : RInts w u d) (hq : q < n) :
    Calls Try.prog 67 #[.agg #[.pointer (some ⟨p, 0, none⟩), .int .i64 q], u] w fun e w' => e = .returned (.bool (piPB n q d)) ∧ Below w.heap.size w w' := by
  have hal : Below w.heap.size w (w.alloc (.cells #[.pointer (some ⟨p, 0, none⟩), .int .i64 q] 54)) := (Below.refl _ _).alloc (Nat.le_refl _) _
  have HB := hid hal
  have HD := hid (hd.keep hal)
  obtain ⟨a, cap, rfl, h1, h2, hc⟩ := hd.keep hal
  clear hd
  unfold maxLen at h2
  obtain ⟨g, bt, vt, he, c0, _, _, _, _, _⟩ := h
  simp only [Value.pointer.injEq, Option.some.injEq, Addr.mk.injEq, and_true] at he
  subst he
  have e0 := (hal.cell (p := ⟨p, 0, none⟩) (cell_lt c0)).trans c0
  clear hal c0
  rcases Bool.eq_false_or_eq_true ((d.length : Int) == (n : Int)) with t1 | t1
  · have hl : d.length = n := by rw [beq_iff_eq] at t1; omega
    obtain ⟨g, o, x, rfl, hcell, _, HX⟩ := ints_at hc (show q < d.length by omega)
    have hqz : (q : Int) < (d.length : Int) := by omega
    clear hc
    rcases Bool.eq_false_or_eq_true (x == 0) with t3 | t3
    · have HE : Hid (piPB n q d = allB d 0 50) := by show _ = _; unfold piPB; rw [t1, Int.toNat_natCast, HX.out, t3, Bool.and_true]; rfl
      clear hl
      go_enter Try.func67, Try.ntmps67
      go_wp2_with fail
      refine (containsFuncI_c _ d _ _ _ (fun x => !inB x 0 50) HD.out Try.call95 (fun x => isPileF_c x _)).mono ?_
      rintro e w' ⟨rfl, rfl⟩
      rw [any_not_in]
      go_wp2
      go_ret
      exact ⟨ret_bool (by rw [HE.out]), HB.out⟩
    · have HE : Hid (piPB n q d = false) := by show _ = _; unfold piPB; rw [t1, Int.toNat_natCast, HX.out, t3, Bool.and_false, Bool.and_false]
      clear hl
      go_enter Try.func67, Try.ntmps67
      go_wp2
      go_ret
      exact ⟨ret_bool HE.out.symm, HB.out⟩
  · have HE : Hid (piPB n q d = false) := by show _ = _; unfold piPB; rw [t1]; rfl
    clear hc
    go_enter Try.func67, Try.ntmps67
    go_wp2
    go_ret
    exact ⟨ret_bool HE.out.symm, HB.out⟩

set_option maxRecDepth 100000 in
set_option maxHeartbeats 2000000 in
theorem isStable_c (n q p : Nat) (L : List Lnk) (u : Value) (f : Nat → Int) (w : World) (h : RG w (.pointer (some ⟨p, 0, none⟩)) n L) (hG : GoodL n L) (hd : RInts w u (lst n f)) :
    Calls Try.prog 41 #[.agg #[.pointer (some ⟨p, 0, none⟩), .int .i64 q], u] w fun e w' => e = .returned (.bool (stB n L q f)) ∧ Below w.heap.size w w' := by
  have hn1 := hG.n1
  have hn8 := hG.n8
  have hal : Below w.heap.size w (w.alloc (.cells #[.pointer (some ⟨p, 0, none⟩), .int .i64 q] 54)) := (Below.refl _ _).alloc (Nat.le_refl _) _
  have HB := hid hal
  obtain ⟨gd, od, cd, rfl, _, _, hdc⟩ := ri_open (hd.keep hal) (by omega)
  obtain ⟨g, bt, vt, he, c0, _, c2, _, _, hvv⟩ := h.keep hal
  simp only [Value.pointer.injEq, Option.some.injEq, Addr.mk.injEq, and_true] at he
  subst he
  obtain ⟨gv, ov, cv, rfl, hcv1, hcv2, hvc⟩ := ri_open hvv (by omega)
  have HDC := hid hdc
  have HVC := hid hvc
  have HST := hid (stB_iff hG (q := q) (f := f))
  clear hal hd h hdc hvv hvc c0
  go_enter Try.func41, Try.ntmps41
  go_wp2
  go_loop [9] (fun i => ∃ k : Nat, k ≤ n ∧ i = .int .i64 k ∧ ∀ v, v < k → v ≠ q → f v < valV n L v) (fun i => n - (intOf i).toNat)
  case atStart => exact ⟨0, Nat.zero_le _, rfl, fun v hv => by omega⟩
  case round =>
    obtain ⟨k, hk, rfl, hr⟩ := hrel
    have HRR := hid hr; clear hr
    by_cases hlt : k < n
    · have a1 := HVC.out k hlt
      have a2 := HDC.out k hlt
      obtain ⟨x, hx⟩ : ∃ x, valV n L k = x := ⟨_, rfl⟩
      obtain ⟨y, hy⟩ : ∃ y, f k = y := ⟨_, rfl⟩
      rw [hx] at a1
      rw [hy] at a2
      have HV := hid hx
      have HY := hid hy
      have hkz : (k : Int) < (n : Int) := by omega
      clear hx hy
      by_cases hkq : k = q
      · have t1 : ((k : Int) == (q : Int)) = true := beq_nat_true hkq
        have t2 : ((k : Int) != (q : Int)) = false := bne_of_true t1
        have HKQ := hid hkq
        clear hkq
        go_wp2
        go_round
        case rel => exact ⟨k + 1, by omega, by go_num, fun v hv hne => by
          by_cases e : v = k
          · exact (hne (e.trans HKQ.out)).elim
          · exact HRR.out v (by omega) hne⟩
        case measure => simp [intOf]; omega
      · have t1 : ((k : Int) == (q : Int)) = false := beq_nat_false hkq
        have t2 : ((k : Int) != (q : Int)) = true := bne_of_false t1
        have HKQ := hid hkq
        clear hkq
        by_cases hge : x ≤ y
        · have HE : Hid (stB n L q f = false) := by
            show _ = _
            cases hb : stB n L q f with
            | false => rfl
            | true =>
              have h1 := HST.out.1 hb k hlt HKQ.out
              rw [HY.out] at h1
              have h2 : _ = x := HV.out
              change y < valV n L k at h1
              omega
          go_wp2
          go_ret
          exact ⟨ret_bool HE.out.symm, HB.out⟩
        · go_wp2
          go_round
          case rel => exact ⟨k + 1, by omega, by go_num, fun v hv hne => by
            by_cases e : v = k
            · rw [e, HV.out, HY.out]; omega
            · exact HRR.out v (by omega) hne⟩
          case measure => simp [intOf]; omega
    · have hkn : k = n := by omega
      subst hkn
      have HE : Hid (stB k L q f = true) := HST.out.2 (fun v h1 h2 => HRR.out v h1 h2)
      go_wp2
      go_ret
      exact ⟨ret_bool HE.out.symm, HB.out⟩

end Go.Proofs.Ytifdhapaonideaa
