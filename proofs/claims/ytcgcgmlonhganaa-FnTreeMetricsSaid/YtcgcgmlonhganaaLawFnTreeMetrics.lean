/- FnTreeMetrics returns true for every input, and its arguments read as before. No condition. -/
import Derived.Test.YtcgcgmlonhganaaTreeMetM
namespace Go.Proofs.Ytcgcgmlonhganaa
open Go.ChangeShapes Go.WideShapes Go.ChangeAt Go.RowKit
open Go.Lib (hid)

set_option maxRecDepth 100000 in
set_option maxHeartbeats 40000000 in
theorem FnTreeMetrics_c (v0 : Value) (x0 : Nat) (v1 : Value) (x1 : Nat) (w : World) (r0 : RBytes w v0 x0) (r1 : RBytes w v1 x1) :
    Calls Try.prog 6 #[v0, v1] w fun e w' => e = .returned (.bool true) ∧ Below w.heap.size w w' := by
  have R0 := hid r0
  have R1 := hid r1
  obtain ⟨a0, c0, rfl, hx0, hm0⟩ := r0.form
  obtain ⟨a1, c1, rfl, hx1, hm1⟩ := r1.form
  unfold maxLen at hm0 hm1
  clear r0 r1
  cases tbig : bigB x0 x1
  case' true =>
    have HTB := hid tbig
    clear tbig
    go_enter Try.func6, Try.ntmps6
    go_wp2_with fail
    refine (big_c _ _ _ _ _ R0.out R1.out).mono ?_
    rintro e w' ⟨rfl, q, rfl⟩
    rw [HTB.out]
    go_wp2
    go_ret
    exact ⟨rfl, below_drewN (Below.refl _ _) _⟩
  have HTB := hid tbig
  clear tbig
  go_enter Try.func6, Try.ntmps6
  go_wp2_with fail
  refine (big_c _ _ _ _ _ R0.out R1.out).mono ?_
  rintro e w0 ⟨rfl, qb, hqb⟩
  rw [HTB.out]
  have HB0 : Hid (Below w.heap.size w w0) := by rw [hqb]; exact below_drewN (Below.refl _ _) _
  have R0_0 := hid (R0.out.keep HB0.out)
  have R1_0 := hid (R1.out.keep HB0.out)
  clear hqb
  go_wp2_with fail
  refine (DrawFirstBadFour_c _ x0 _ R0_0.out).mono ?_
  rintro e w1 ⟨vm, M, rfl, hM, hb1⟩
  have HBw1 := hid (HB0.out.trans (hb1.mono HB0.out.size))
  have R1_w1 := hid (R1_0.out.keep hb1)
  have M_w1 := hid hM
  obtain ⟨am, nm, cm, rfl⟩ : ∃ a n c, vm = .slice a n c := by obtain ⟨a, c, rfl, _⟩ := hM; exact ⟨a, _, c, rfl⟩
  clear hb1 hM
  cases t : metB M
  · obtain ⟨hf, ht, hc⟩ := tm_no t
    have HF := hid hf
    have HT := hid ht
    have HC := hid hc
    clear hf ht hc t
    go_wp2_with fail
    refine ((iFirstBadFour_u _ M _ M_w1.out).mono fun e w' h => h.lp HF.out).mono ?_
    rintro e w2 ⟨a2, n2, c2, rfl, hp2, hb2⟩
    have HBw2 := hid (HBw1.out.trans (hb2.mono HBw1.out.size))
    have R1_w2 := hid (R1_w1.out.keep hb2)
    have M_w2 := hid (M_w1.out.keep hb2)
    have F1_w2 := hid hp2
    clear hb2 hp2
    go_wp2_with fail
    refine ((sFirstBadFour_u _ M _ M_w2.out).mono fun e w' h => h.lp HF.out).mono ?_
    rintro e w3 ⟨a3, n3, c3, rfl, hp3, hb3⟩
    have HBw3 := hid (HBw2.out.trans (hb3.mono HBw2.out.size))
    have R1_w3 := hid (R1_w2.out.keep hb3)
    have M_w3 := hid (M_w2.out.keep hb3)
    have F1_w3 := hid (F1_w2.out.keep hb3)
    have F2_w3 := hid hp3
    clear hb3 hp3
    go_wp2_with fail
    refine ((iIsTreeMetric_u _ M _ M_w3.out).mono fun e w' h => bbLp h HT.out).mono ?_
    rintro e w4 ⟨rfl, hb4⟩
    have HBw4 := hid (HBw3.out.trans (hb4.mono HBw3.out.size))
    have R1_w4 := hid (R1_w3.out.keep hb4)
    have M_w4 := hid (M_w3.out.keep hb4)
    have F1_w4 := hid (F1_w3.out.keep hb4)
    have F2_w4 := hid (F2_w3.out.keep hb4)
    clear hb4
    go_wp2_with fail
    refine ((sIsTreeMetric_u _ M _ M_w4.out).mono fun e w' h => bbLp h HT.out).mono ?_
    rintro e w5 ⟨rfl, hb5⟩
    have HBw5 := hid (HBw4.out.trans (hb5.mono HBw4.out.size))
    have R1_w5 := hid (R1_w4.out.keep hb5)
    have M_w5 := hid (M_w4.out.keep hb5)
    have F1_w5 := hid (F1_w4.out.keep hb5)
    have F2_w5 := hid (F2_w4.out.keep hb5)
    clear hb5
    go_wp2_with fail
    refine ((iCherriesOf_u _ M _ M_w5.out).mono fun e w' h => h.lp HC.out).mono ?_
    rintro e w6 ⟨a6, n6, c6, rfl, hp6, hb6⟩
    have HBw6 := hid (HBw5.out.trans (hb6.mono HBw5.out.size))
    have R1_w6 := hid (R1_w5.out.keep hb6)
    have M_w6 := hid (M_w5.out.keep hb6)
    have F1_w6 := hid (F1_w5.out.keep hb6)
    have F2_w6 := hid (F2_w5.out.keep hb6)
    have C1_w6 := hid hp6
    clear hb6 hp6
    go_wp2_with fail
    refine ((sCherriesOf_u _ M _ M_w6.out).mono fun e w' h => h.lp HC.out).mono ?_
    rintro e w7 ⟨a7, n7, c7, rfl, hp7, hb7⟩
    have HBw7 := hid (HBw6.out.trans (hb7.mono HBw6.out.size))
    have R1_w7 := hid (R1_w6.out.keep hb7)
    have M_w7 := hid (M_w6.out.keep hb7)
    have F1_w7 := hid (F1_w6.out.keep hb7)
    have F2_w7 := hid (F2_w6.out.keep hb7)
    have C1_w7 := hid (C1_w6.out.keep hb7)
    have C2_w7 := hid hp7
    clear hb7 hp7
    go_wp2_with fail
    refine (sameInts_y _ _ [] _ F1_w7.out F2_w7.out).mono ?_
    rintro e w8 ⟨rfl, hb8⟩
    have HBw8 := hid (HBw7.out.trans (hb8.mono HBw7.out.size))
    have R1_w8 := hid (R1_w7.out.keep hb8)
    have M_w8 := hid (M_w7.out.keep hb8)
    have F1_w8 := hid (F1_w7.out.keep hb8)
    have F2_w8 := hid (F2_w7.out.keep hb8)
    have C1_w8 := hid (C1_w7.out.keep hb8)
    have C2_w8 := hid (C2_w7.out.keep hb8)
    clear hb8
    go_wp2_with fail
    refine (sameLists_y _ _ [] _ C1_w8.out C2_w8.out).mono ?_
    rintro e w9 ⟨rfl, hb9⟩
    have HBw9 := hid (HBw8.out.trans (hb9.mono HBw8.out.size))
    have R1_w9 := hid (R1_w8.out.keep hb9)
    have M_w9 := hid (M_w8.out.keep hb9)
    have F1_w9 := hid (F1_w8.out.keep hb9)
    have F2_w9 := hid (F2_w8.out.keep hb9)
    have C1_w9 := hid (C1_w8.out.keep hb9)
    have C2_w9 := hid (C2_w8.out.keep hb9)
    clear hb9
    as_aux_lemma =>
      go_wp2_with fail
      refine (DrawTwiceEnd_c _ x1 _ R1_w9.out).mono ?_
      rintro e w10 ⟨vu, U, iu, rfl, hU, hb10⟩
      have HBw10 := hid (HBw9.out.trans (hb10.mono HBw9.out.size))
      have R1_w10 := hid (R1_w9.out.keep hb10)
      have U_w10 := hid hU
      obtain ⟨aU, nU, cU, rfl⟩ : ∃ a n c, vu = .slice a n c := by obtain ⟨a, c, rfl, _⟩ := hU; exact ⟨a, _, c, rfl⟩
      obtain ⟨p, y, b7, hn7⟩ : ∃ p y b7, nearB U iu = ((p, y), b7) := ⟨_, _, _, rfl⟩
      obtain ⟨x, b5, he5⟩ : ∃ x b5, endB U iu = (x, b5) := ⟨_, _, rfl⟩
      have HN := hid hn7
      have HE := hid he5
      clear hn7 he5
      clear hb10 hU
      go_wp2_with fail
      refine ((iTwiceEnd_u _ U iu _ U_w10.out).mono fun e w' h => zbLp h HE.out).mono ?_
      rintro e w11 ⟨rfl, hb11⟩
      have HBw11 := hid (HBw10.out.trans (hb11.mono HBw10.out.size))
      have R1_w11 := hid (R1_w10.out.keep hb11)
      have U_w11 := hid (U_w10.out.keep hb11)
      clear hb11
      go_wp2_with fail
      refine ((sTwiceEnd_u _ U iu _ U_w11.out).mono fun e w' h => zbLp h HE.out).mono ?_
      rintro e w12 ⟨rfl, hb12⟩
      have HBw12 := hid (HBw11.out.trans (hb12.mono HBw11.out.size))
      have R1_w12 := hid (R1_w11.out.keep hb12)
      have U_w12 := hid (U_w11.out.keep hb12)
      clear hb12
      go_wp2_with fail
      refine ((iNearestTaxon_u _ U iu _ U_w12.out).mono fun e w' h => zzbLp h HN.out).mono ?_
      rintro e w13 ⟨rfl, hb13⟩
      have HBw13 := hid (HBw12.out.trans (hb13.mono HBw12.out.size))
      have R1_w13 := hid (R1_w12.out.keep hb13)
      have U_w13 := hid (U_w12.out.keep hb13)
      clear hb13
      go_wp2_with fail
      refine ((sNearestTaxon_u _ U iu _ U_w13.out).mono fun e w' h => zzbLp h HN.out).mono ?_
      rintro e w14 ⟨rfl, hb14⟩
      have HBw14 := hid (HBw13.out.trans (hb14.mono HBw13.out.size))
      have R1_w14 := hid (R1_w13.out.keep hb14)
      have U_w14 := hid (U_w13.out.keep hb14)
      clear hb14
      cases b7
      · have h00 := near_no_end (M := U) (i := iu) (by rw [HN.out])
        rw [HE.out] at h00
        obtain ⟨rfl, rfl⟩ : x = 0 ∧ b5 = false := by simpa using h00
        clear h00
        as_aux_lemma =>
          go_wp2_with fail
          refine (DrawFourSums_c _ x1 _ R1_w14.out).mono ?_
          rintro e w15 ⟨vx, X, j1, j2, j3, j4, rfl, hX, hb15⟩
          have HBw15 := hid (HBw14.out.trans (hb15.mono HBw14.out.size))
          have X_w15 := hid hX
          obtain ⟨ax, nx, cx, rfl⟩ : ∃ a n c, vx = .slice a n c := by obtain ⟨a, c, rfl, _⟩ := hX; exact ⟨a, _, c, rfl⟩
          obtain ⟨S4, b4, hs4⟩ : ∃ S4 b4, fourB X j1 j2 j3 j4 = (S4, b4) := ⟨_, _, rfl⟩
          have HS4 := hid hs4
          clear hs4
          clear hb15 hX
          go_wp2_with fail
          refine ((iFourSums_u _ X j1 j2 j3 j4 _ X_w15.out).mono fun e w' h => h.lp HS4.out).mono ?_
          rintro e w16 ⟨a16, n16, c16, rfl, hp16, hb16⟩
          have HBw16 := hid (HBw15.out.trans (hb16.mono HBw15.out.size))
          have X_w16 := hid (X_w15.out.keep hb16)
          have S1_w16 := hid hp16
          clear hb16 hp16
          go_wp2_with fail
          refine ((sFourSums_u _ X j1 j2 j3 j4 _ X_w16.out).mono fun e w' h => h.lp HS4.out).mono ?_
          rintro e w17 ⟨a17, n17, c17, rfl, hp17, hb17⟩
          have HBw17 := hid (HBw16.out.trans (hb17.mono HBw16.out.size))
          have X_w17 := hid (X_w16.out.keep hb17)
          have S1_w17 := hid (S1_w16.out.keep hb17)
          have S2_w17 := hid hp17
          clear hb17 hp17
          cases b4
          all_goals
            go_wp2_with fail
            refine (sameInts_y _ _ S4 _ S1_w17.out S2_w17.out).mono ?_
            rintro e w18 ⟨rfl, hb18⟩
            have HBw18 := hid (HBw17.out.trans (hb18.mono HBw17.out.size))
            have X_w18 := hid (X_w17.out.keep hb18)
            have S1_w18 := hid (S1_w17.out.keep hb18)
            have S2_w18 := hid (S2_w17.out.keep hb18)
            clear hb18
            go_wp2
            go_ret
            exact ⟨rfl, HBw18.out⟩
      · obtain ⟨hmU, j, k, hij, _, hj, _, _, _, y1, y2, hall⟩ := near_law HN.out
        subst hij
        have HALL := hid hall
        have hend : b5 = true → 0 ≤ x ∧ x ≤ 2 * y := fun hb => by
          obtain ⟨p', y', h1, h2, h3⟩ := end_law (M := U) (i := (j : Int)) (x := x) (by rw [HE.out, hb])
          rw [HN.out] at h1
          simp only [Prod.mk.injEq, and_true] at h1
          obtain ⟨-, rfl⟩ := h1
          exact ⟨h2, h3⟩
        obtain ⟨g, o, cap, G, O, C, hv, hc1, hc2, hsq⟩ := met_open U_w14.out hmU
        simp only [Value.slice.injEq] at hv
        obtain ⟨rfl, -, rfl⟩ := hv
        obtain ⟨e1, e2⟩ := rmat_n U_w14.out
        obtain ⟨N, hN⟩ : ∃ N, U.length = N := ⟨_, rfl⟩
        have hN7 := (metB_parts hmU).2.1
        rw [hN] at hj hsq HALL e1 hN7 hc1
        obtain rfl : N = nU := e1.symm
        have HSQ := hid hsq
        have HNN := hid hN
        have hjz : (j : Int) < (N : Int) := by omega
        have ri := hsq.row j hj
        have f2 : IntKind.i64.wrap (2 * y) = 2 * y := IntWalk.i64_in _ (by omega)
        clear hsq hmU hall e2 hN
        cases b5
        · clear hend
          go_wp2
          go_loopg [277] N (fun gk iv wr => ∃ k : Nat, iv = .int .i64 k ∧ k ≤ N ∧ gk = N - k ∧ w14 = wr)
          case atStart => exact ⟨0, rfl, Nat.zero_le _, rfl, rfl⟩
          case round =>
            obtain ⟨k, rfl, hk, rfl, rfl⟩ := hrel
            by_cases hlt : k < N
            · have hltz : (k : Int) < (N : Int) := by omega
              have k1 := HSQ.out.at_ j k hj hlt
              have h5 := HALL.out k hlt
              obtain ⟨z, hz⟩ : ∃ z, ent U j k = z := ⟨_, rfl⟩
              rw [hz] at k1 h5
              clear hz
              by_cases hkj : k = j
              · have t1 := bne_nat_false hkj
                clear h5 hkj
                go_wp2
                go_roundg (N - (k + 1))
                case rel => exact ⟨k + 1, by go_num, by omega, rfl, rfl⟩
                case measure => omega
              · have t1 := bne_nat_true hkj
                have h6 : ¬ (z < y) := by have := h5 hkj; omega
                clear h5 hkj
                go_wp2
                go_roundg (N - (k + 1))
                case rel => exact ⟨k + 1, by go_num, by omega, rfl, rfl⟩
                case measure => omega
            · obtain rfl : N = k := by omega
              clear HSQ HALL ri
              as_aux_lemma =>
                go_wp2_with fail
                refine (DrawFourSums_c _ x1 _ R1_w14.out).mono ?_
                rintro e w15 ⟨vx, X, j1, j2, j3, j4, rfl, hX, hb15⟩
                have HBw15 := hid (HBw14.out.trans (hb15.mono HBw14.out.size))
                have X_w15 := hid hX
                obtain ⟨ax, nx, cx, rfl⟩ : ∃ a n c, vx = .slice a n c := by obtain ⟨a, c, rfl, _⟩ := hX; exact ⟨a, _, c, rfl⟩
                obtain ⟨S4, b4, hs4⟩ : ∃ S4 b4, fourB X j1 j2 j3 j4 = (S4, b4) := ⟨_, _, rfl⟩
                have HS4 := hid hs4
                clear hs4
                clear hb15 hX
                go_wp2_with fail
                refine ((iFourSums_u _ X j1 j2 j3 j4 _ X_w15.out).mono fun e w' h => h.lp HS4.out).mono ?_
                rintro e w16 ⟨a16, n16, c16, rfl, hp16, hb16⟩
                have HBw16 := hid (HBw15.out.trans (hb16.mono HBw15.out.size))
                have X_w16 := hid (X_w15.out.keep hb16)
                have S1_w16 := hid hp16
                clear hb16 hp16
                go_wp2_with fail
                refine ((sFourSums_u _ X j1 j2 j3 j4 _ X_w16.out).mono fun e w' h => h.lp HS4.out).mono ?_
                rintro e w17 ⟨a17, n17, c17, rfl, hp17, hb17⟩
                have HBw17 := hid (HBw16.out.trans (hb17.mono HBw16.out.size))
                have X_w17 := hid (X_w16.out.keep hb17)
                have S1_w17 := hid (S1_w16.out.keep hb17)
                have S2_w17 := hid hp17
                clear hb17 hp17
                cases b4
                all_goals
                  go_wp2_with fail
                  refine (sameInts_y _ _ S4 _ S1_w17.out S2_w17.out).mono ?_
                  rintro e w18 ⟨rfl, hb18⟩
                  have HBw18 := hid (HBw17.out.trans (hb18.mono HBw17.out.size))
                  have X_w18 := hid (X_w17.out.keep hb18)
                  have S1_w18 := hid (S1_w17.out.keep hb18)
                  have S2_w18 := hid (S2_w17.out.keep hb18)
                  clear hb18
                  go_wp2
                  go_ret
                  exact ⟨rfl, HBw18.out⟩
        · obtain ⟨q1, q2⟩ := hend rfl
          have h1x : ¬ (x < 0) := by omega
          have h2x : ¬ (x > 2 * y) := by omega
          clear hend q1 q2
          go_wp2
          go_loopg [277] N (fun gk iv wr => ∃ k : Nat, iv = .int .i64 k ∧ k ≤ N ∧ gk = N - k ∧ w14 = wr)
          case atStart => exact ⟨0, rfl, Nat.zero_le _, rfl, rfl⟩
          case round =>
            obtain ⟨k, rfl, hk, rfl, rfl⟩ := hrel
            by_cases hlt : k < N
            · have hltz : (k : Int) < (N : Int) := by omega
              have k1 := HSQ.out.at_ j k hj hlt
              have h5 := HALL.out k hlt
              obtain ⟨z, hz⟩ : ∃ z, ent U j k = z := ⟨_, rfl⟩
              rw [hz] at k1 h5
              clear hz
              by_cases hkj : k = j
              · have t1 := bne_nat_false hkj
                clear h5 hkj
                go_wp2
                go_roundg (N - (k + 1))
                case rel => exact ⟨k + 1, by go_num, by omega, rfl, rfl⟩
                case measure => omega
              · have t1 := bne_nat_true hkj
                have h6 : ¬ (z < y) := by have := h5 hkj; omega
                clear h5 hkj
                go_wp2
                go_roundg (N - (k + 1))
                case rel => exact ⟨k + 1, by go_num, by omega, rfl, rfl⟩
                case measure => omega
            · obtain rfl : N = k := by omega
              clear HSQ HALL ri
              as_aux_lemma =>
                go_wp2_with fail
                refine (DrawFourSums_c _ x1 _ R1_w14.out).mono ?_
                rintro e w15 ⟨vx, X, j1, j2, j3, j4, rfl, hX, hb15⟩
                have HBw15 := hid (HBw14.out.trans (hb15.mono HBw14.out.size))
                have X_w15 := hid hX
                obtain ⟨ax, nx, cx, rfl⟩ : ∃ a n c, vx = .slice a n c := by obtain ⟨a, c, rfl, _⟩ := hX; exact ⟨a, _, c, rfl⟩
                obtain ⟨S4, b4, hs4⟩ : ∃ S4 b4, fourB X j1 j2 j3 j4 = (S4, b4) := ⟨_, _, rfl⟩
                have HS4 := hid hs4
                clear hs4
                clear hb15 hX
                go_wp2_with fail
                refine ((iFourSums_u _ X j1 j2 j3 j4 _ X_w15.out).mono fun e w' h => h.lp HS4.out).mono ?_
                rintro e w16 ⟨a16, n16, c16, rfl, hp16, hb16⟩
                have HBw16 := hid (HBw15.out.trans (hb16.mono HBw15.out.size))
                have X_w16 := hid (X_w15.out.keep hb16)
                have S1_w16 := hid hp16
                clear hb16 hp16
                go_wp2_with fail
                refine ((sFourSums_u _ X j1 j2 j3 j4 _ X_w16.out).mono fun e w' h => h.lp HS4.out).mono ?_
                rintro e w17 ⟨a17, n17, c17, rfl, hp17, hb17⟩
                have HBw17 := hid (HBw16.out.trans (hb17.mono HBw16.out.size))
                have X_w17 := hid (X_w16.out.keep hb17)
                have S1_w17 := hid (S1_w16.out.keep hb17)
                have S2_w17 := hid hp17
                clear hb17 hp17
                cases b4
                all_goals
                  go_wp2_with fail
                  refine (sameInts_y _ _ S4 _ S1_w17.out S2_w17.out).mono ?_
                  rintro e w18 ⟨rfl, hb18⟩
                  have HBw18 := hid (HBw17.out.trans (hb18.mono HBw17.out.size))
                  have X_w18 := hid (X_w17.out.keep hb18)
                  have S1_w18 := hid (S1_w17.out.keep hb18)
                  have S2_w18 := hid (S2_w17.out.keep hb18)
                  clear hb18
                  go_wp2
                  go_ret
                  exact ⟨rfl, HBw18.out⟩
  · cases tb : badF M
    · obtain ⟨hf, ht, hu, hc⟩ := tm_tree t tb
      have HF := hid hf
      have HT := hid ht
      obtain ⟨ub, hub⟩ : ∃ ub, utrB M = ub := ⟨_, rfl⟩
      rw [hub] at hu
      have HU := hid hu
      obtain ⟨e1, e2⟩ := rmat_n M_w1.out
      clear hf ht hu hub t tb e2
      rcases hc with ⟨h3, C, hne, hc⟩ | ⟨h3, hc⟩
      · have HC := hid hc
        have hgt : ((nm : Int) > 2) := by omega
        clear hc h3 e1
        go_wp2_with fail
        refine ((iFirstBadFour_u _ M _ M_w1.out).mono fun e w' h => h.lp HF.out).mono ?_
        rintro e w2 ⟨a2, n2, c2, rfl, hp2, hb2⟩
        have HBw2 := hid (HBw1.out.trans (hb2.mono HBw1.out.size))
        have R1_w2 := hid (R1_w1.out.keep hb2)
        have M_w2 := hid (M_w1.out.keep hb2)
        have F1_w2 := hid hp2
        clear hb2 hp2
        go_wp2_with fail
        refine ((sFirstBadFour_u _ M _ M_w2.out).mono fun e w' h => h.lp HF.out).mono ?_
        rintro e w3 ⟨a3, n3, c3, rfl, hp3, hb3⟩
        have HBw3 := hid (HBw2.out.trans (hb3.mono HBw2.out.size))
        have R1_w3 := hid (R1_w2.out.keep hb3)
        have M_w3 := hid (M_w2.out.keep hb3)
        have F1_w3 := hid (F1_w2.out.keep hb3)
        have F2_w3 := hid hp3
        clear hb3 hp3
        go_wp2_with fail
        refine ((iIsTreeMetric_u _ M _ M_w3.out).mono fun e w' h => bbLp h HT.out).mono ?_
        rintro e w4 ⟨rfl, hb4⟩
        have HBw4 := hid (HBw3.out.trans (hb4.mono HBw3.out.size))
        have R1_w4 := hid (R1_w3.out.keep hb4)
        have M_w4 := hid (M_w3.out.keep hb4)
        have F1_w4 := hid (F1_w3.out.keep hb4)
        have F2_w4 := hid (F2_w3.out.keep hb4)
        clear hb4
        go_wp2_with fail
        refine ((sIsTreeMetric_u _ M _ M_w4.out).mono fun e w' h => bbLp h HT.out).mono ?_
        rintro e w5 ⟨rfl, hb5⟩
        have HBw5 := hid (HBw4.out.trans (hb5.mono HBw4.out.size))
        have R1_w5 := hid (R1_w4.out.keep hb5)
        have M_w5 := hid (M_w4.out.keep hb5)
        have F1_w5 := hid (F1_w4.out.keep hb5)
        have F2_w5 := hid (F2_w4.out.keep hb5)
        clear hb5
        go_wp2_with fail
        refine ((iCherriesOf_u _ M _ M_w5.out).mono fun e w' h => h.lp HC.out).mono ?_
        rintro e w6 ⟨a6, n6, c6, rfl, hp6, hb6⟩
        have HBw6 := hid (HBw5.out.trans (hb6.mono HBw5.out.size))
        have R1_w6 := hid (R1_w5.out.keep hb6)
        have M_w6 := hid (M_w5.out.keep hb6)
        have F1_w6 := hid (F1_w5.out.keep hb6)
        have F2_w6 := hid (F2_w5.out.keep hb6)
        have C1_w6 := hid hp6
        clear hb6 hp6
        go_wp2_with fail
        refine ((sCherriesOf_u _ M _ M_w6.out).mono fun e w' h => h.lp HC.out).mono ?_
        rintro e w7 ⟨a7, n7, c7, rfl, hp7, hb7⟩
        have HBw7 := hid (HBw6.out.trans (hb7.mono HBw6.out.size))
        have R1_w7 := hid (R1_w6.out.keep hb7)
        have M_w7 := hid (M_w6.out.keep hb7)
        have F1_w7 := hid (F1_w6.out.keep hb7)
        have F2_w7 := hid (F2_w6.out.keep hb7)
        have C1_w7 := hid (C1_w6.out.keep hb7)
        have C2_w7 := hid hp7
        clear hb7 hp7
        go_wp2_with fail
        refine (sameInts_y _ _ [] _ F1_w7.out F2_w7.out).mono ?_
        rintro e w8 ⟨rfl, hb8⟩
        have HBw8 := hid (HBw7.out.trans (hb8.mono HBw7.out.size))
        have R1_w8 := hid (R1_w7.out.keep hb8)
        have M_w8 := hid (M_w7.out.keep hb8)
        have F1_w8 := hid (F1_w7.out.keep hb8)
        have F2_w8 := hid (F2_w7.out.keep hb8)
        have C1_w8 := hid (C1_w7.out.keep hb8)
        have C2_w8 := hid (C2_w7.out.keep hb8)
        clear hb8
        go_wp2_with fail
        refine (sameLists_y _ _ C _ C1_w8.out C2_w8.out).mono ?_
        rintro e w9 ⟨rfl, hb9⟩
        have HBw9 := hid (HBw8.out.trans (hb9.mono HBw8.out.size))
        have R1_w9 := hid (R1_w8.out.keep hb9)
        have M_w9 := hid (M_w8.out.keep hb9)
        have F1_w9 := hid (F1_w8.out.keep hb9)
        have F2_w9 := hid (F2_w8.out.keep hb9)
        have C1_w9 := hid (C1_w8.out.keep hb9)
        have C2_w9 := hid (C2_w8.out.keep hb9)
        clear hb9
        obtain ⟨e3, e4⟩ := rmat_n C2_w9.out
        have hcz : ((n7 : Int) == 0) = false := by
          rw [beq_eq_false_iff_ne]
          have := List.length_pos_iff.2 hne
          omega
        clear hne e3 e4
        go_wp2_with fail
        refine ((iIsUltrametric_u _ M _ M_w9.out).mono fun e w' h => bbLp h HU.out).mono ?_
        rintro e w10 ⟨rfl, hb10⟩
        have HBw10 := hid (HBw9.out.trans (hb10.mono HBw9.out.size))
        have R1_w10 := hid (R1_w9.out.keep hb10)
        have M_w10 := hid (M_w9.out.keep hb10)
        clear hb10
        cases ub
        all_goals
          as_aux_lemma =>
            go_wp2_with fail
            refine (DrawTwiceEnd_c _ x1 _ R1_w10.out).mono ?_
            rintro e w11 ⟨vu, U, iu, rfl, hU, hb11⟩
            have HBw11 := hid (HBw10.out.trans (hb11.mono HBw10.out.size))
            have R1_w11 := hid (R1_w10.out.keep hb11)
            have U_w11 := hid hU
            obtain ⟨aU, nU, cU, rfl⟩ : ∃ a n c, vu = .slice a n c := by obtain ⟨a, c, rfl, _⟩ := hU; exact ⟨a, _, c, rfl⟩
            obtain ⟨p, y, b7, hn7⟩ : ∃ p y b7, nearB U iu = ((p, y), b7) := ⟨_, _, _, rfl⟩
            obtain ⟨x, b5, he5⟩ : ∃ x b5, endB U iu = (x, b5) := ⟨_, _, rfl⟩
            have HN := hid hn7
            have HE := hid he5
            clear hn7 he5
            clear hb11 hU
            go_wp2_with fail
            refine ((iTwiceEnd_u _ U iu _ U_w11.out).mono fun e w' h => zbLp h HE.out).mono ?_
            rintro e w12 ⟨rfl, hb12⟩
            have HBw12 := hid (HBw11.out.trans (hb12.mono HBw11.out.size))
            have R1_w12 := hid (R1_w11.out.keep hb12)
            have U_w12 := hid (U_w11.out.keep hb12)
            clear hb12
            go_wp2_with fail
            refine ((sTwiceEnd_u _ U iu _ U_w12.out).mono fun e w' h => zbLp h HE.out).mono ?_
            rintro e w13 ⟨rfl, hb13⟩
            have HBw13 := hid (HBw12.out.trans (hb13.mono HBw12.out.size))
            have R1_w13 := hid (R1_w12.out.keep hb13)
            have U_w13 := hid (U_w12.out.keep hb13)
            clear hb13
            go_wp2_with fail
            refine ((iNearestTaxon_u _ U iu _ U_w13.out).mono fun e w' h => zzbLp h HN.out).mono ?_
            rintro e w14 ⟨rfl, hb14⟩
            have HBw14 := hid (HBw13.out.trans (hb14.mono HBw13.out.size))
            have R1_w14 := hid (R1_w13.out.keep hb14)
            have U_w14 := hid (U_w13.out.keep hb14)
            clear hb14
            go_wp2_with fail
            refine ((sNearestTaxon_u _ U iu _ U_w14.out).mono fun e w' h => zzbLp h HN.out).mono ?_
            rintro e w15 ⟨rfl, hb15⟩
            have HBw15 := hid (HBw14.out.trans (hb15.mono HBw14.out.size))
            have R1_w15 := hid (R1_w14.out.keep hb15)
            have U_w15 := hid (U_w14.out.keep hb15)
            clear hb15
            cases b7
            · have h00 := near_no_end (M := U) (i := iu) (by rw [HN.out])
              rw [HE.out] at h00
              obtain ⟨rfl, rfl⟩ : x = 0 ∧ b5 = false := by simpa using h00
              clear h00
              as_aux_lemma =>
                go_wp2_with fail
                refine (DrawFourSums_c _ x1 _ R1_w15.out).mono ?_
                rintro e w16 ⟨vx, X, j1, j2, j3, j4, rfl, hX, hb16⟩
                have HBw16 := hid (HBw15.out.trans (hb16.mono HBw15.out.size))
                have X_w16 := hid hX
                obtain ⟨ax, nx, cx, rfl⟩ : ∃ a n c, vx = .slice a n c := by obtain ⟨a, c, rfl, _⟩ := hX; exact ⟨a, _, c, rfl⟩
                obtain ⟨S4, b4, hs4⟩ : ∃ S4 b4, fourB X j1 j2 j3 j4 = (S4, b4) := ⟨_, _, rfl⟩
                have HS4 := hid hs4
                clear hs4
                clear hb16 hX
                go_wp2_with fail
                refine ((iFourSums_u _ X j1 j2 j3 j4 _ X_w16.out).mono fun e w' h => h.lp HS4.out).mono ?_
                rintro e w17 ⟨a17, n17, c17, rfl, hp17, hb17⟩
                have HBw17 := hid (HBw16.out.trans (hb17.mono HBw16.out.size))
                have X_w17 := hid (X_w16.out.keep hb17)
                have S1_w17 := hid hp17
                clear hb17 hp17
                go_wp2_with fail
                refine ((sFourSums_u _ X j1 j2 j3 j4 _ X_w17.out).mono fun e w' h => h.lp HS4.out).mono ?_
                rintro e w18 ⟨a18, n18, c18, rfl, hp18, hb18⟩
                have HBw18 := hid (HBw17.out.trans (hb18.mono HBw17.out.size))
                have X_w18 := hid (X_w17.out.keep hb18)
                have S1_w18 := hid (S1_w17.out.keep hb18)
                have S2_w18 := hid hp18
                clear hb18 hp18
                cases b4
                all_goals
                  go_wp2_with fail
                  refine (sameInts_y _ _ S4 _ S1_w18.out S2_w18.out).mono ?_
                  rintro e w19 ⟨rfl, hb19⟩
                  have HBw19 := hid (HBw18.out.trans (hb19.mono HBw18.out.size))
                  have X_w19 := hid (X_w18.out.keep hb19)
                  have S1_w19 := hid (S1_w18.out.keep hb19)
                  have S2_w19 := hid (S2_w18.out.keep hb19)
                  clear hb19
                  go_wp2
                  go_ret
                  exact ⟨rfl, HBw19.out⟩
            · obtain ⟨hmU, j, k, hij, _, hj, _, _, _, y1, y2, hall⟩ := near_law HN.out
              subst hij
              have HALL := hid hall
              have hend : b5 = true → 0 ≤ x ∧ x ≤ 2 * y := fun hb => by
                obtain ⟨p', y', h1, h2, h3⟩ := end_law (M := U) (i := (j : Int)) (x := x) (by rw [HE.out, hb])
                rw [HN.out] at h1
                simp only [Prod.mk.injEq, and_true] at h1
                obtain ⟨-, rfl⟩ := h1
                exact ⟨h2, h3⟩
              obtain ⟨g, o, cap, G, O, C, hv, hc1, hc2, hsq⟩ := met_open U_w15.out hmU
              simp only [Value.slice.injEq] at hv
              obtain ⟨rfl, -, rfl⟩ := hv
              obtain ⟨e1, e2⟩ := rmat_n U_w15.out
              obtain ⟨N, hN⟩ : ∃ N, U.length = N := ⟨_, rfl⟩
              have hN7 := (metB_parts hmU).2.1
              rw [hN] at hj hsq HALL e1 hN7 hc1
              obtain rfl : N = nU := e1.symm
              have HSQ := hid hsq
              have HNN := hid hN
              have hjz : (j : Int) < (N : Int) := by omega
              have ri := hsq.row j hj
              have f2 : IntKind.i64.wrap (2 * y) = 2 * y := IntWalk.i64_in _ (by omega)
              clear hsq hmU hall e2 hN
              cases b5
              · clear hend
                go_wp2
                go_loopg [277] N (fun gk iv wr => ∃ k : Nat, iv = .int .i64 k ∧ k ≤ N ∧ gk = N - k ∧ w15 = wr)
                case atStart => exact ⟨0, rfl, Nat.zero_le _, rfl, rfl⟩
                case round =>
                  obtain ⟨k, rfl, hk, rfl, rfl⟩ := hrel
                  by_cases hlt : k < N
                  · have hltz : (k : Int) < (N : Int) := by omega
                    have k1 := HSQ.out.at_ j k hj hlt
                    have h5 := HALL.out k hlt
                    obtain ⟨z, hz⟩ : ∃ z, ent U j k = z := ⟨_, rfl⟩
                    rw [hz] at k1 h5
                    clear hz
                    by_cases hkj : k = j
                    · have t1 := bne_nat_false hkj
                      clear h5 hkj
                      go_wp2
                      go_roundg (N - (k + 1))
                      case rel => exact ⟨k + 1, by go_num, by omega, rfl, rfl⟩
                      case measure => omega
                    · have t1 := bne_nat_true hkj
                      have h6 : ¬ (z < y) := by have := h5 hkj; omega
                      clear h5 hkj
                      go_wp2
                      go_roundg (N - (k + 1))
                      case rel => exact ⟨k + 1, by go_num, by omega, rfl, rfl⟩
                      case measure => omega
                  · obtain rfl : N = k := by omega
                    clear HSQ HALL ri
                    as_aux_lemma =>
                      go_wp2_with fail
                      refine (DrawFourSums_c _ x1 _ R1_w15.out).mono ?_
                      rintro e w16 ⟨vx, X, j1, j2, j3, j4, rfl, hX, hb16⟩
                      have HBw16 := hid (HBw15.out.trans (hb16.mono HBw15.out.size))
                      have X_w16 := hid hX
                      obtain ⟨ax, nx, cx, rfl⟩ : ∃ a n c, vx = .slice a n c := by obtain ⟨a, c, rfl, _⟩ := hX; exact ⟨a, _, c, rfl⟩
                      obtain ⟨S4, b4, hs4⟩ : ∃ S4 b4, fourB X j1 j2 j3 j4 = (S4, b4) := ⟨_, _, rfl⟩
                      have HS4 := hid hs4
                      clear hs4
                      clear hb16 hX
                      go_wp2_with fail
                      refine ((iFourSums_u _ X j1 j2 j3 j4 _ X_w16.out).mono fun e w' h => h.lp HS4.out).mono ?_
                      rintro e w17 ⟨a17, n17, c17, rfl, hp17, hb17⟩
                      have HBw17 := hid (HBw16.out.trans (hb17.mono HBw16.out.size))
                      have X_w17 := hid (X_w16.out.keep hb17)
                      have S1_w17 := hid hp17
                      clear hb17 hp17
                      go_wp2_with fail
                      refine ((sFourSums_u _ X j1 j2 j3 j4 _ X_w17.out).mono fun e w' h => h.lp HS4.out).mono ?_
                      rintro e w18 ⟨a18, n18, c18, rfl, hp18, hb18⟩
                      have HBw18 := hid (HBw17.out.trans (hb18.mono HBw17.out.size))
                      have X_w18 := hid (X_w17.out.keep hb18)
                      have S1_w18 := hid (S1_w17.out.keep hb18)
                      have S2_w18 := hid hp18
                      clear hb18 hp18
                      cases b4
                      all_goals
                        go_wp2_with fail
                        refine (sameInts_y _ _ S4 _ S1_w18.out S2_w18.out).mono ?_
                        rintro e w19 ⟨rfl, hb19⟩
                        have HBw19 := hid (HBw18.out.trans (hb19.mono HBw18.out.size))
                        have X_w19 := hid (X_w18.out.keep hb19)
                        have S1_w19 := hid (S1_w18.out.keep hb19)
                        have S2_w19 := hid (S2_w18.out.keep hb19)
                        clear hb19
                        go_wp2
                        go_ret
                        exact ⟨rfl, HBw19.out⟩
              · obtain ⟨q1, q2⟩ := hend rfl
                have h1x : ¬ (x < 0) := by omega
                have h2x : ¬ (x > 2 * y) := by omega
                clear hend q1 q2
                go_wp2
                go_loopg [277] N (fun gk iv wr => ∃ k : Nat, iv = .int .i64 k ∧ k ≤ N ∧ gk = N - k ∧ w15 = wr)
                case atStart => exact ⟨0, rfl, Nat.zero_le _, rfl, rfl⟩
                case round =>
                  obtain ⟨k, rfl, hk, rfl, rfl⟩ := hrel
                  by_cases hlt : k < N
                  · have hltz : (k : Int) < (N : Int) := by omega
                    have k1 := HSQ.out.at_ j k hj hlt
                    have h5 := HALL.out k hlt
                    obtain ⟨z, hz⟩ : ∃ z, ent U j k = z := ⟨_, rfl⟩
                    rw [hz] at k1 h5
                    clear hz
                    by_cases hkj : k = j
                    · have t1 := bne_nat_false hkj
                      clear h5 hkj
                      go_wp2
                      go_roundg (N - (k + 1))
                      case rel => exact ⟨k + 1, by go_num, by omega, rfl, rfl⟩
                      case measure => omega
                    · have t1 := bne_nat_true hkj
                      have h6 : ¬ (z < y) := by have := h5 hkj; omega
                      clear h5 hkj
                      go_wp2
                      go_roundg (N - (k + 1))
                      case rel => exact ⟨k + 1, by go_num, by omega, rfl, rfl⟩
                      case measure => omega
                  · obtain rfl : N = k := by omega
                    clear HSQ HALL ri
                    as_aux_lemma =>
                      go_wp2_with fail
                      refine (DrawFourSums_c _ x1 _ R1_w15.out).mono ?_
                      rintro e w16 ⟨vx, X, j1, j2, j3, j4, rfl, hX, hb16⟩
                      have HBw16 := hid (HBw15.out.trans (hb16.mono HBw15.out.size))
                      have X_w16 := hid hX
                      obtain ⟨ax, nx, cx, rfl⟩ : ∃ a n c, vx = .slice a n c := by obtain ⟨a, c, rfl, _⟩ := hX; exact ⟨a, _, c, rfl⟩
                      obtain ⟨S4, b4, hs4⟩ : ∃ S4 b4, fourB X j1 j2 j3 j4 = (S4, b4) := ⟨_, _, rfl⟩
                      have HS4 := hid hs4
                      clear hs4
                      clear hb16 hX
                      go_wp2_with fail
                      refine ((iFourSums_u _ X j1 j2 j3 j4 _ X_w16.out).mono fun e w' h => h.lp HS4.out).mono ?_
                      rintro e w17 ⟨a17, n17, c17, rfl, hp17, hb17⟩
                      have HBw17 := hid (HBw16.out.trans (hb17.mono HBw16.out.size))
                      have X_w17 := hid (X_w16.out.keep hb17)
                      have S1_w17 := hid hp17
                      clear hb17 hp17
                      go_wp2_with fail
                      refine ((sFourSums_u _ X j1 j2 j3 j4 _ X_w17.out).mono fun e w' h => h.lp HS4.out).mono ?_
                      rintro e w18 ⟨a18, n18, c18, rfl, hp18, hb18⟩
                      have HBw18 := hid (HBw17.out.trans (hb18.mono HBw17.out.size))
                      have X_w18 := hid (X_w17.out.keep hb18)
                      have S1_w18 := hid (S1_w17.out.keep hb18)
                      have S2_w18 := hid hp18
                      clear hb18 hp18
                      cases b4
                      all_goals
                        go_wp2_with fail
                        refine (sameInts_y _ _ S4 _ S1_w18.out S2_w18.out).mono ?_
                        rintro e w19 ⟨rfl, hb19⟩
                        have HBw19 := hid (HBw18.out.trans (hb19.mono HBw18.out.size))
                        have X_w19 := hid (X_w18.out.keep hb19)
                        have S1_w19 := hid (S1_w18.out.keep hb19)
                        have S2_w19 := hid (S2_w18.out.keep hb19)
                        clear hb19
                        go_wp2
                        go_ret
                        exact ⟨rfl, HBw19.out⟩
      · have HC := hid hc
        have hgt : ¬ ((nm : Int) > 2) := by omega
        clear hc h3 e1
        go_wp2_with fail
        refine ((iFirstBadFour_u _ M _ M_w1.out).mono fun e w' h => h.lp HF.out).mono ?_
        rintro e w2 ⟨a2, n2, c2, rfl, hp2, hb2⟩
        have HBw2 := hid (HBw1.out.trans (hb2.mono HBw1.out.size))
        have R1_w2 := hid (R1_w1.out.keep hb2)
        have M_w2 := hid (M_w1.out.keep hb2)
        have F1_w2 := hid hp2
        clear hb2 hp2
        go_wp2_with fail
        refine ((sFirstBadFour_u _ M _ M_w2.out).mono fun e w' h => h.lp HF.out).mono ?_
        rintro e w3 ⟨a3, n3, c3, rfl, hp3, hb3⟩
        have HBw3 := hid (HBw2.out.trans (hb3.mono HBw2.out.size))
        have R1_w3 := hid (R1_w2.out.keep hb3)
        have M_w3 := hid (M_w2.out.keep hb3)
        have F1_w3 := hid (F1_w2.out.keep hb3)
        have F2_w3 := hid hp3
        clear hb3 hp3
        go_wp2_with fail
        refine ((iIsTreeMetric_u _ M _ M_w3.out).mono fun e w' h => bbLp h HT.out).mono ?_
        rintro e w4 ⟨rfl, hb4⟩
        have HBw4 := hid (HBw3.out.trans (hb4.mono HBw3.out.size))
        have R1_w4 := hid (R1_w3.out.keep hb4)
        have M_w4 := hid (M_w3.out.keep hb4)
        have F1_w4 := hid (F1_w3.out.keep hb4)
        have F2_w4 := hid (F2_w3.out.keep hb4)
        clear hb4
        go_wp2_with fail
        refine ((sIsTreeMetric_u _ M _ M_w4.out).mono fun e w' h => bbLp h HT.out).mono ?_
        rintro e w5 ⟨rfl, hb5⟩
        have HBw5 := hid (HBw4.out.trans (hb5.mono HBw4.out.size))
        have R1_w5 := hid (R1_w4.out.keep hb5)
        have M_w5 := hid (M_w4.out.keep hb5)
        have F1_w5 := hid (F1_w4.out.keep hb5)
        have F2_w5 := hid (F2_w4.out.keep hb5)
        clear hb5
        go_wp2_with fail
        refine ((iCherriesOf_u _ M _ M_w5.out).mono fun e w' h => h.lp HC.out).mono ?_
        rintro e w6 ⟨a6, n6, c6, rfl, hp6, hb6⟩
        have HBw6 := hid (HBw5.out.trans (hb6.mono HBw5.out.size))
        have R1_w6 := hid (R1_w5.out.keep hb6)
        have M_w6 := hid (M_w5.out.keep hb6)
        have F1_w6 := hid (F1_w5.out.keep hb6)
        have F2_w6 := hid (F2_w5.out.keep hb6)
        have C1_w6 := hid hp6
        clear hb6 hp6
        go_wp2_with fail
        refine ((sCherriesOf_u _ M _ M_w6.out).mono fun e w' h => h.lp HC.out).mono ?_
        rintro e w7 ⟨a7, n7, c7, rfl, hp7, hb7⟩
        have HBw7 := hid (HBw6.out.trans (hb7.mono HBw6.out.size))
        have R1_w7 := hid (R1_w6.out.keep hb7)
        have M_w7 := hid (M_w6.out.keep hb7)
        have F1_w7 := hid (F1_w6.out.keep hb7)
        have F2_w7 := hid (F2_w6.out.keep hb7)
        have C1_w7 := hid (C1_w6.out.keep hb7)
        have C2_w7 := hid hp7
        clear hb7 hp7
        go_wp2_with fail
        refine (sameInts_y _ _ [] _ F1_w7.out F2_w7.out).mono ?_
        rintro e w8 ⟨rfl, hb8⟩
        have HBw8 := hid (HBw7.out.trans (hb8.mono HBw7.out.size))
        have R1_w8 := hid (R1_w7.out.keep hb8)
        have M_w8 := hid (M_w7.out.keep hb8)
        have F1_w8 := hid (F1_w7.out.keep hb8)
        have F2_w8 := hid (F2_w7.out.keep hb8)
        have C1_w8 := hid (C1_w7.out.keep hb8)
        have C2_w8 := hid (C2_w7.out.keep hb8)
        clear hb8
        go_wp2_with fail
        refine (sameLists_y _ _ [] _ C1_w8.out C2_w8.out).mono ?_
        rintro e w9 ⟨rfl, hb9⟩
        have HBw9 := hid (HBw8.out.trans (hb9.mono HBw8.out.size))
        have R1_w9 := hid (R1_w8.out.keep hb9)
        have M_w9 := hid (M_w8.out.keep hb9)
        have F1_w9 := hid (F1_w8.out.keep hb9)
        have F2_w9 := hid (F2_w8.out.keep hb9)
        have C1_w9 := hid (C1_w8.out.keep hb9)
        have C2_w9 := hid (C2_w8.out.keep hb9)
        clear hb9
        go_wp2_with fail
        refine ((iIsUltrametric_u _ M _ M_w9.out).mono fun e w' h => bbLp h HU.out).mono ?_
        rintro e w10 ⟨rfl, hb10⟩
        have HBw10 := hid (HBw9.out.trans (hb10.mono HBw9.out.size))
        have R1_w10 := hid (R1_w9.out.keep hb10)
        have M_w10 := hid (M_w9.out.keep hb10)
        clear hb10
        cases ub
        all_goals
          as_aux_lemma =>
            go_wp2_with fail
            refine (DrawTwiceEnd_c _ x1 _ R1_w10.out).mono ?_
            rintro e w11 ⟨vu, U, iu, rfl, hU, hb11⟩
            have HBw11 := hid (HBw10.out.trans (hb11.mono HBw10.out.size))
            have R1_w11 := hid (R1_w10.out.keep hb11)
            have U_w11 := hid hU
            obtain ⟨aU, nU, cU, rfl⟩ : ∃ a n c, vu = .slice a n c := by obtain ⟨a, c, rfl, _⟩ := hU; exact ⟨a, _, c, rfl⟩
            obtain ⟨p, y, b7, hn7⟩ : ∃ p y b7, nearB U iu = ((p, y), b7) := ⟨_, _, _, rfl⟩
            obtain ⟨x, b5, he5⟩ : ∃ x b5, endB U iu = (x, b5) := ⟨_, _, rfl⟩
            have HN := hid hn7
            have HE := hid he5
            clear hn7 he5
            clear hb11 hU
            go_wp2_with fail
            refine ((iTwiceEnd_u _ U iu _ U_w11.out).mono fun e w' h => zbLp h HE.out).mono ?_
            rintro e w12 ⟨rfl, hb12⟩
            have HBw12 := hid (HBw11.out.trans (hb12.mono HBw11.out.size))
            have R1_w12 := hid (R1_w11.out.keep hb12)
            have U_w12 := hid (U_w11.out.keep hb12)
            clear hb12
            go_wp2_with fail
            refine ((sTwiceEnd_u _ U iu _ U_w12.out).mono fun e w' h => zbLp h HE.out).mono ?_
            rintro e w13 ⟨rfl, hb13⟩
            have HBw13 := hid (HBw12.out.trans (hb13.mono HBw12.out.size))
            have R1_w13 := hid (R1_w12.out.keep hb13)
            have U_w13 := hid (U_w12.out.keep hb13)
            clear hb13
            go_wp2_with fail
            refine ((iNearestTaxon_u _ U iu _ U_w13.out).mono fun e w' h => zzbLp h HN.out).mono ?_
            rintro e w14 ⟨rfl, hb14⟩
            have HBw14 := hid (HBw13.out.trans (hb14.mono HBw13.out.size))
            have R1_w14 := hid (R1_w13.out.keep hb14)
            have U_w14 := hid (U_w13.out.keep hb14)
            clear hb14
            go_wp2_with fail
            refine ((sNearestTaxon_u _ U iu _ U_w14.out).mono fun e w' h => zzbLp h HN.out).mono ?_
            rintro e w15 ⟨rfl, hb15⟩
            have HBw15 := hid (HBw14.out.trans (hb15.mono HBw14.out.size))
            have R1_w15 := hid (R1_w14.out.keep hb15)
            have U_w15 := hid (U_w14.out.keep hb15)
            clear hb15
            cases b7
            · have h00 := near_no_end (M := U) (i := iu) (by rw [HN.out])
              rw [HE.out] at h00
              obtain ⟨rfl, rfl⟩ : x = 0 ∧ b5 = false := by simpa using h00
              clear h00
              as_aux_lemma =>
                go_wp2_with fail
                refine (DrawFourSums_c _ x1 _ R1_w15.out).mono ?_
                rintro e w16 ⟨vx, X, j1, j2, j3, j4, rfl, hX, hb16⟩
                have HBw16 := hid (HBw15.out.trans (hb16.mono HBw15.out.size))
                have X_w16 := hid hX
                obtain ⟨ax, nx, cx, rfl⟩ : ∃ a n c, vx = .slice a n c := by obtain ⟨a, c, rfl, _⟩ := hX; exact ⟨a, _, c, rfl⟩
                obtain ⟨S4, b4, hs4⟩ : ∃ S4 b4, fourB X j1 j2 j3 j4 = (S4, b4) := ⟨_, _, rfl⟩
                have HS4 := hid hs4
                clear hs4
                clear hb16 hX
                go_wp2_with fail
                refine ((iFourSums_u _ X j1 j2 j3 j4 _ X_w16.out).mono fun e w' h => h.lp HS4.out).mono ?_
                rintro e w17 ⟨a17, n17, c17, rfl, hp17, hb17⟩
                have HBw17 := hid (HBw16.out.trans (hb17.mono HBw16.out.size))
                have X_w17 := hid (X_w16.out.keep hb17)
                have S1_w17 := hid hp17
                clear hb17 hp17
                go_wp2_with fail
                refine ((sFourSums_u _ X j1 j2 j3 j4 _ X_w17.out).mono fun e w' h => h.lp HS4.out).mono ?_
                rintro e w18 ⟨a18, n18, c18, rfl, hp18, hb18⟩
                have HBw18 := hid (HBw17.out.trans (hb18.mono HBw17.out.size))
                have X_w18 := hid (X_w17.out.keep hb18)
                have S1_w18 := hid (S1_w17.out.keep hb18)
                have S2_w18 := hid hp18
                clear hb18 hp18
                cases b4
                all_goals
                  go_wp2_with fail
                  refine (sameInts_y _ _ S4 _ S1_w18.out S2_w18.out).mono ?_
                  rintro e w19 ⟨rfl, hb19⟩
                  have HBw19 := hid (HBw18.out.trans (hb19.mono HBw18.out.size))
                  have X_w19 := hid (X_w18.out.keep hb19)
                  have S1_w19 := hid (S1_w18.out.keep hb19)
                  have S2_w19 := hid (S2_w18.out.keep hb19)
                  clear hb19
                  go_wp2
                  go_ret
                  exact ⟨rfl, HBw19.out⟩
            · obtain ⟨hmU, j, k, hij, _, hj, _, _, _, y1, y2, hall⟩ := near_law HN.out
              subst hij
              have HALL := hid hall
              have hend : b5 = true → 0 ≤ x ∧ x ≤ 2 * y := fun hb => by
                obtain ⟨p', y', h1, h2, h3⟩ := end_law (M := U) (i := (j : Int)) (x := x) (by rw [HE.out, hb])
                rw [HN.out] at h1
                simp only [Prod.mk.injEq, and_true] at h1
                obtain ⟨-, rfl⟩ := h1
                exact ⟨h2, h3⟩
              obtain ⟨g, o, cap, G, O, C, hv, hc1, hc2, hsq⟩ := met_open U_w15.out hmU
              simp only [Value.slice.injEq] at hv
              obtain ⟨rfl, -, rfl⟩ := hv
              obtain ⟨e1, e2⟩ := rmat_n U_w15.out
              obtain ⟨N, hN⟩ : ∃ N, U.length = N := ⟨_, rfl⟩
              have hN7 := (metB_parts hmU).2.1
              rw [hN] at hj hsq HALL e1 hN7 hc1
              obtain rfl : N = nU := e1.symm
              have HSQ := hid hsq
              have HNN := hid hN
              have hjz : (j : Int) < (N : Int) := by omega
              have ri := hsq.row j hj
              have f2 : IntKind.i64.wrap (2 * y) = 2 * y := IntWalk.i64_in _ (by omega)
              clear hsq hmU hall e2 hN
              cases b5
              · clear hend
                go_wp2
                go_loopg [277] N (fun gk iv wr => ∃ k : Nat, iv = .int .i64 k ∧ k ≤ N ∧ gk = N - k ∧ w15 = wr)
                case atStart => exact ⟨0, rfl, Nat.zero_le _, rfl, rfl⟩
                case round =>
                  obtain ⟨k, rfl, hk, rfl, rfl⟩ := hrel
                  by_cases hlt : k < N
                  · have hltz : (k : Int) < (N : Int) := by omega
                    have k1 := HSQ.out.at_ j k hj hlt
                    have h5 := HALL.out k hlt
                    obtain ⟨z, hz⟩ : ∃ z, ent U j k = z := ⟨_, rfl⟩
                    rw [hz] at k1 h5
                    clear hz
                    by_cases hkj : k = j
                    · have t1 := bne_nat_false hkj
                      clear h5 hkj
                      go_wp2
                      go_roundg (N - (k + 1))
                      case rel => exact ⟨k + 1, by go_num, by omega, rfl, rfl⟩
                      case measure => omega
                    · have t1 := bne_nat_true hkj
                      have h6 : ¬ (z < y) := by have := h5 hkj; omega
                      clear h5 hkj
                      go_wp2
                      go_roundg (N - (k + 1))
                      case rel => exact ⟨k + 1, by go_num, by omega, rfl, rfl⟩
                      case measure => omega
                  · obtain rfl : N = k := by omega
                    clear HSQ HALL ri
                    as_aux_lemma =>
                      go_wp2_with fail
                      refine (DrawFourSums_c _ x1 _ R1_w15.out).mono ?_
                      rintro e w16 ⟨vx, X, j1, j2, j3, j4, rfl, hX, hb16⟩
                      have HBw16 := hid (HBw15.out.trans (hb16.mono HBw15.out.size))
                      have X_w16 := hid hX
                      obtain ⟨ax, nx, cx, rfl⟩ : ∃ a n c, vx = .slice a n c := by obtain ⟨a, c, rfl, _⟩ := hX; exact ⟨a, _, c, rfl⟩
                      obtain ⟨S4, b4, hs4⟩ : ∃ S4 b4, fourB X j1 j2 j3 j4 = (S4, b4) := ⟨_, _, rfl⟩
                      have HS4 := hid hs4
                      clear hs4
                      clear hb16 hX
                      go_wp2_with fail
                      refine ((iFourSums_u _ X j1 j2 j3 j4 _ X_w16.out).mono fun e w' h => h.lp HS4.out).mono ?_
                      rintro e w17 ⟨a17, n17, c17, rfl, hp17, hb17⟩
                      have HBw17 := hid (HBw16.out.trans (hb17.mono HBw16.out.size))
                      have X_w17 := hid (X_w16.out.keep hb17)
                      have S1_w17 := hid hp17
                      clear hb17 hp17
                      go_wp2_with fail
                      refine ((sFourSums_u _ X j1 j2 j3 j4 _ X_w17.out).mono fun e w' h => h.lp HS4.out).mono ?_
                      rintro e w18 ⟨a18, n18, c18, rfl, hp18, hb18⟩
                      have HBw18 := hid (HBw17.out.trans (hb18.mono HBw17.out.size))
                      have X_w18 := hid (X_w17.out.keep hb18)
                      have S1_w18 := hid (S1_w17.out.keep hb18)
                      have S2_w18 := hid hp18
                      clear hb18 hp18
                      cases b4
                      all_goals
                        go_wp2_with fail
                        refine (sameInts_y _ _ S4 _ S1_w18.out S2_w18.out).mono ?_
                        rintro e w19 ⟨rfl, hb19⟩
                        have HBw19 := hid (HBw18.out.trans (hb19.mono HBw18.out.size))
                        have X_w19 := hid (X_w18.out.keep hb19)
                        have S1_w19 := hid (S1_w18.out.keep hb19)
                        have S2_w19 := hid (S2_w18.out.keep hb19)
                        clear hb19
                        go_wp2
                        go_ret
                        exact ⟨rfl, HBw19.out⟩
              · obtain ⟨q1, q2⟩ := hend rfl
                have h1x : ¬ (x < 0) := by omega
                have h2x : ¬ (x > 2 * y) := by omega
                clear hend q1 q2
                go_wp2
                go_loopg [277] N (fun gk iv wr => ∃ k : Nat, iv = .int .i64 k ∧ k ≤ N ∧ gk = N - k ∧ w15 = wr)
                case atStart => exact ⟨0, rfl, Nat.zero_le _, rfl, rfl⟩
                case round =>
                  obtain ⟨k, rfl, hk, rfl, rfl⟩ := hrel
                  by_cases hlt : k < N
                  · have hltz : (k : Int) < (N : Int) := by omega
                    have k1 := HSQ.out.at_ j k hj hlt
                    have h5 := HALL.out k hlt
                    obtain ⟨z, hz⟩ : ∃ z, ent U j k = z := ⟨_, rfl⟩
                    rw [hz] at k1 h5
                    clear hz
                    by_cases hkj : k = j
                    · have t1 := bne_nat_false hkj
                      clear h5 hkj
                      go_wp2
                      go_roundg (N - (k + 1))
                      case rel => exact ⟨k + 1, by go_num, by omega, rfl, rfl⟩
                      case measure => omega
                    · have t1 := bne_nat_true hkj
                      have h6 : ¬ (z < y) := by have := h5 hkj; omega
                      clear h5 hkj
                      go_wp2
                      go_roundg (N - (k + 1))
                      case rel => exact ⟨k + 1, by go_num, by omega, rfl, rfl⟩
                      case measure => omega
                  · obtain rfl : N = k := by omega
                    clear HSQ HALL ri
                    as_aux_lemma =>
                      go_wp2_with fail
                      refine (DrawFourSums_c _ x1 _ R1_w15.out).mono ?_
                      rintro e w16 ⟨vx, X, j1, j2, j3, j4, rfl, hX, hb16⟩
                      have HBw16 := hid (HBw15.out.trans (hb16.mono HBw15.out.size))
                      have X_w16 := hid hX
                      obtain ⟨ax, nx, cx, rfl⟩ : ∃ a n c, vx = .slice a n c := by obtain ⟨a, c, rfl, _⟩ := hX; exact ⟨a, _, c, rfl⟩
                      obtain ⟨S4, b4, hs4⟩ : ∃ S4 b4, fourB X j1 j2 j3 j4 = (S4, b4) := ⟨_, _, rfl⟩
                      have HS4 := hid hs4
                      clear hs4
                      clear hb16 hX
                      go_wp2_with fail
                      refine ((iFourSums_u _ X j1 j2 j3 j4 _ X_w16.out).mono fun e w' h => h.lp HS4.out).mono ?_
                      rintro e w17 ⟨a17, n17, c17, rfl, hp17, hb17⟩
                      have HBw17 := hid (HBw16.out.trans (hb17.mono HBw16.out.size))
                      have X_w17 := hid (X_w16.out.keep hb17)
                      have S1_w17 := hid hp17
                      clear hb17 hp17
                      go_wp2_with fail
                      refine ((sFourSums_u _ X j1 j2 j3 j4 _ X_w17.out).mono fun e w' h => h.lp HS4.out).mono ?_
                      rintro e w18 ⟨a18, n18, c18, rfl, hp18, hb18⟩
                      have HBw18 := hid (HBw17.out.trans (hb18.mono HBw17.out.size))
                      have X_w18 := hid (X_w17.out.keep hb18)
                      have S1_w18 := hid (S1_w17.out.keep hb18)
                      have S2_w18 := hid hp18
                      clear hb18 hp18
                      cases b4
                      all_goals
                        go_wp2_with fail
                        refine (sameInts_y _ _ S4 _ S1_w18.out S2_w18.out).mono ?_
                        rintro e w19 ⟨rfl, hb19⟩
                        have HBw19 := hid (HBw18.out.trans (hb19.mono HBw18.out.size))
                        have X_w19 := hid (X_w18.out.keep hb19)
                        have S1_w19 := hid (S1_w18.out.keep hb19)
                        have S2_w19 := hid (S2_w18.out.keep hb19)
                        clear hb19
                        go_wp2
                        go_ret
                        exact ⟨rfl, HBw19.out⟩
    · rename_i r
      obtain ⟨hf, ht, hc, hu, i1, i2, i3, i4, rfl, h4, hmc⟩ := tm_bad t tb
      have HF := hid hf
      have HT := hid ht
      have HC := hid hc
      have HU := hid hu
      have H4 := hid h4
      have HMC := hid hmc
      have HSL := hid (sums_range (M := M) (i := i1) (j := i2) (k := i3) (l := i4))
      obtain ⟨S, hS⟩ : ∃ S, sumsL M i1 i2 i3 i4 = S := ⟨_, rfl⟩
      rw [hS] at H4 HMC HSL
      clear hf ht hc hu h4 hmc t tb hS
      go_wp2_with fail
      refine ((iFirstBadFour_u _ M _ M_w1.out).mono fun e w' h => h.lp HF.out).mono ?_
      rintro e w2 ⟨a2, n2, c2, rfl, hp2, hb2⟩
      have HBw2 := hid (HBw1.out.trans (hb2.mono HBw1.out.size))
      have R1_w2 := hid (R1_w1.out.keep hb2)
      have M_w2 := hid (M_w1.out.keep hb2)
      have F1_w2 := hid hp2
      clear hb2 hp2
      go_wp2_with fail
      refine ((sFirstBadFour_u _ M _ M_w2.out).mono fun e w' h => h.lp HF.out).mono ?_
      rintro e w3 ⟨a3, n3, c3, rfl, hp3, hb3⟩
      have HBw3 := hid (HBw2.out.trans (hb3.mono HBw2.out.size))
      have R1_w3 := hid (R1_w2.out.keep hb3)
      have M_w3 := hid (M_w2.out.keep hb3)
      have F1_w3 := hid (F1_w2.out.keep hb3)
      have F2_w3 := hid hp3
      clear hb3 hp3
      go_wp2_with fail
      refine ((iIsTreeMetric_u _ M _ M_w3.out).mono fun e w' h => bbLp h HT.out).mono ?_
      rintro e w4 ⟨rfl, hb4⟩
      have HBw4 := hid (HBw3.out.trans (hb4.mono HBw3.out.size))
      have R1_w4 := hid (R1_w3.out.keep hb4)
      have M_w4 := hid (M_w3.out.keep hb4)
      have F1_w4 := hid (F1_w3.out.keep hb4)
      have F2_w4 := hid (F2_w3.out.keep hb4)
      clear hb4
      go_wp2_with fail
      refine ((sIsTreeMetric_u _ M _ M_w4.out).mono fun e w' h => bbLp h HT.out).mono ?_
      rintro e w5 ⟨rfl, hb5⟩
      have HBw5 := hid (HBw4.out.trans (hb5.mono HBw4.out.size))
      have R1_w5 := hid (R1_w4.out.keep hb5)
      have M_w5 := hid (M_w4.out.keep hb5)
      have F1_w5 := hid (F1_w4.out.keep hb5)
      have F2_w5 := hid (F2_w4.out.keep hb5)
      clear hb5
      go_wp2_with fail
      refine ((iCherriesOf_u _ M _ M_w5.out).mono fun e w' h => h.lp HC.out).mono ?_
      rintro e w6 ⟨a6, n6, c6, rfl, hp6, hb6⟩
      have HBw6 := hid (HBw5.out.trans (hb6.mono HBw5.out.size))
      have R1_w6 := hid (R1_w5.out.keep hb6)
      have M_w6 := hid (M_w5.out.keep hb6)
      have F1_w6 := hid (F1_w5.out.keep hb6)
      have F2_w6 := hid (F2_w5.out.keep hb6)
      have C1_w6 := hid hp6
      clear hb6 hp6
      go_wp2_with fail
      refine ((sCherriesOf_u _ M _ M_w6.out).mono fun e w' h => h.lp HC.out).mono ?_
      rintro e w7 ⟨a7, n7, c7, rfl, hp7, hb7⟩
      have HBw7 := hid (HBw6.out.trans (hb7.mono HBw6.out.size))
      have R1_w7 := hid (R1_w6.out.keep hb7)
      have M_w7 := hid (M_w6.out.keep hb7)
      have F1_w7 := hid (F1_w6.out.keep hb7)
      have F2_w7 := hid (F2_w6.out.keep hb7)
      have C1_w7 := hid (C1_w6.out.keep hb7)
      have C2_w7 := hid hp7
      clear hb7 hp7
      go_wp2_with fail
      refine (sameInts_y _ _ [(i1 : Int), (i2 : Int), (i3 : Int), (i4 : Int)] _ F1_w7.out F2_w7.out).mono ?_
      rintro e w8 ⟨rfl, hb8⟩
      have HBw8 := hid (HBw7.out.trans (hb8.mono HBw7.out.size))
      have R1_w8 := hid (R1_w7.out.keep hb8)
      have M_w8 := hid (M_w7.out.keep hb8)
      have F1_w8 := hid (F1_w7.out.keep hb8)
      have F2_w8 := hid (F2_w7.out.keep hb8)
      have C1_w8 := hid (C1_w7.out.keep hb8)
      have C2_w8 := hid (C2_w7.out.keep hb8)
      clear hb8
      go_wp2_with fail
      refine (sameLists_y _ _ [] _ C1_w8.out C2_w8.out).mono ?_
      rintro e w9 ⟨rfl, hb9⟩
      have HBw9 := hid (HBw8.out.trans (hb9.mono HBw8.out.size))
      have R1_w9 := hid (R1_w8.out.keep hb9)
      have M_w9 := hid (M_w8.out.keep hb9)
      have F1_w9 := hid (F1_w8.out.keep hb9)
      have F2_w9 := hid (F2_w8.out.keep hb9)
      have C1_w9 := hid (C1_w8.out.keep hb9)
      have C2_w9 := hid (C2_w8.out.keep hb9)
      clear hb9
      have hbad := F2_w9.out
      obtain ⟨ga, ca, hva, l1, l2, hca⟩ := hbad
      simp only [Value.slice.injEq] at hva
      obtain ⟨rfl, hnb, rfl⟩ := hva
      simp only [List.length_cons, List.length_nil, Nat.reduceAdd] at hnb
      subst hnb
      obtain ⟨gl, ol, rfl, d0⟩ := hca 0 (by simp)
      obtain ⟨g1, o1, he1, d1⟩ := hca 1 (by simp)
      obtain ⟨g2, o2, he2, d2⟩ := hca 2 (by simp)
      obtain ⟨g3, o3, he3, d3⟩ := hca 3 (by simp)
      simp only [Option.some.injEq, Addr.mk.injEq, and_true] at he1 he2 he3
      obtain ⟨rfl, rfl⟩ := he1
      obtain ⟨rfl, rfl⟩ := he2
      obtain ⟨rfl, rfl⟩ := he3
      have d0 : w9.cell? ⟨gl, ol, none⟩ = some (.int .i64 (i1 : Int)) := d0
      have d1 : w9.cell? ⟨gl, ol + 1, none⟩ = some (.int .i64 (i2 : Int)) := d1
      have d2 : w9.cell? ⟨gl, ol + 2, none⟩ = some (.int .i64 (i3 : Int)) := d2
      have d3 : w9.cell? ⟨gl, ol + 3, none⟩ = some (.int .i64 (i4 : Int)) := d3
      have M_q := hid (M_w9.out.keep (w' := w9.drew) ((Below.refl _ _).drew))
      unfold maxLen at l2
      simp only [List.length_cons, List.length_nil, Nat.reduceAdd] at l1
      clear hca
      go_wp2
      go_region_held3 (fun w' => w'.cell? ⟨gl, ol, none⟩ = some (.int .i64 (i1 : Int)) ∧ w'.cell? ⟨gl, ol + 1, none⟩ = some (.int .i64 (i2 : Int)) ∧ w'.cell? ⟨gl, ol + 2, none⟩ = some (.int .i64 (i3 : Int)) ∧ w'.cell? ⟨gl, ol + 3, none⟩ = some (.int .i64 (i4 : Int)))
        (first | go_keep | exact ⟨(hb20.cell (p := ⟨gl, ol, none⟩) (cell_lt d0)).trans d0, (hb20.cell (p := ⟨gl, ol + 1, none⟩) (cell_lt d1)).trans d1, (hb20.cell (p := ⟨gl, ol + 2, none⟩) (cell_lt d2)).trans d2, (hb20.cell (p := ⟨gl, ol + 3, none⟩) (cell_lt d3)).trans d3⟩)
        ((go_at_call 10; refine (iFourSums_u _ M i1 i2 i3 i4 _ M_q.out).mono ?_; rintro e w20 h20; obtain ⟨a20, n20, c20, rfl, hS1, hb20⟩ := h20.lp H4.out))
      have HS1 := hid hS1
      have HB20 := hid (show Below w9.heap.size w9 w20 from below_of_drew hb20)
      clear hS1 hb20 d0 d1 d2 d3 M_q
      have S1_20 := HS1
      have HBW := hid (HBw9.out.trans (HB20.out.mono HBw9.out.size))
      have M_20 := hid (M_w9.out.keep HB20.out)
      have R1_20 := hid (R1_w9.out.keep HB20.out)
      obtain ⟨gs, cs, hvs, l3, l4, hcs⟩ := S1_20.out
      simp only [Value.slice.injEq] at hvs
      obtain ⟨rfl, hns, rfl⟩ := hvs
      rw [HSL.out] at hns
      subst hns
      have HCS := hid hcs
      clear hcs
      unfold maxLen at l4
      go_wp2
      go_loopg [20, 21, 163] 3 (fun gk mv kv iv wr => ∃ (k : Nat) (m z : Int), iv = .int .i64 k ∧ mv = .int .i64 m ∧ kv = .int .i64 z ∧ k ≤ 3 ∧ gk = 3 - k ∧ 0 ≤ z ∧ z ≤ k ∧ mcL (S.drop k) m z = mcL S 0 0 ∧ w20 = wr)
      case atStart => exact ⟨0, 0, 0, rfl, rfl, rfl, Nat.zero_le _, rfl, by omega, by omega, rfl, rfl⟩
      case round =>
        obtain ⟨k, m, z, rfl, rfl, rfl, hk, rfl, hz0, hzk, hr, rfl⟩ := hrel
        have HRR := hid hr
        clear hr
        by_cases hlt : k < 3
        · obtain ⟨g, o, rfl, hcell⟩ := HCS.out k (by have := HSL.out; omega)
          obtain ⟨x, hx⟩ : ∃ x, S.getD k 0 = x := ⟨_, rfl⟩
          rw [hx] at hcell
          have HD := hid (drop_at (S := S) (k := k) (by have := HSL.out; omega))
          rw [hx] at HD
          clear hx
          have f1 : IntKind.i64.wrap (z + 1) = z + 1 := IntWalk.i64_in _ (by omega)
          by_cases h1 : m < x
          · have HST : Hid (mcL (S.drop (k + 1)) x 1 = mcL S 0 0) := by show _ = _; rw [← HRR.out, HD.out, mcL_step, if_pos h1]
            have h2 : x > m := h1
            clear h1 f1
            go_wp2
            go_roundg (3 - (k + 1))
            case rel => exact ⟨k + 1, x, 1, by go_num, rfl, by go_num, by omega, rfl, by omega, by omega, HST.out, rfl⟩
            case measure => omega
          · have h2 : ¬ (x > m) := h1
            by_cases h3 : x = m
            · have HST : Hid (mcL (S.drop (k + 1)) m (z + 1) = mcL S 0 0) := by show _ = _; rw [← HRR.out, HD.out, mcL_step, if_neg h1, if_pos h3]
              have h4 : (x == m) = true := by rw [beq_iff_eq]; exact h3
              clear h1 h3
              go_wp2
              go_roundg (3 - (k + 1))
              case rel => exact ⟨k + 1, m, z + 1, by go_num, rfl, rfl, by omega, rfl, by omega, by omega, HST.out, rfl⟩
              case measure => omega
            · have HST : Hid (mcL (S.drop (k + 1)) m z = mcL S 0 0) := by show _ = _; rw [← HRR.out, HD.out, mcL_step, if_neg h1, if_neg h3]
              have h4 : (x == m) = false := by rw [beq_eq_false_iff_ne]; exact h3
              clear h1 h3 f1
              go_wp2
              go_roundg (3 - (k + 1))
              case rel => exact ⟨k + 1, m, z, by go_num, rfl, rfl, by omega, rfl, by omega, by omega, HST.out, rfl⟩
              case measure => omega
        · have hz1 : z = 1 := by
            have h1 := HRR.out
            rw [List.drop_eq_nil_of_le (by have := HSL.out; omega)] at h1
            have h2 := HMC.out
            rw [← h1] at h2
            exact h2
          subst hz1
          clear HCS HSL HMC HRR hzk hz0
          go_wp2_with fail
          refine ((iIsUltrametric_u _ M _ M_20.out).mono fun e w' h => bbLp h HU.out).mono ?_
          rintro e w21 ⟨rfl, hb21⟩
          have HBw21 := hid (HBW.out.trans (hb21.mono HBW.out.size))
          have M_w21 := hid (M_20.out.keep hb21)
          have R1_w21 := hid (R1_20.out.keep hb21)
          clear hb21
          as_aux_lemma =>
            go_wp2_with fail
            refine (DrawTwiceEnd_c _ x1 _ R1_w21.out).mono ?_
            rintro e w22 ⟨vu, U, iu, rfl, hU, hb22⟩
            have HBw22 := hid (HBw21.out.trans (hb22.mono HBw21.out.size))
            have R1_w22 := hid (R1_w21.out.keep hb22)
            have U_w22 := hid hU
            obtain ⟨aU, nU, cU, rfl⟩ : ∃ a n c, vu = .slice a n c := by obtain ⟨a, c, rfl, _⟩ := hU; exact ⟨a, _, c, rfl⟩
            obtain ⟨p, y, b7, hn7⟩ : ∃ p y b7, nearB U iu = ((p, y), b7) := ⟨_, _, _, rfl⟩
            obtain ⟨x, b5, he5⟩ : ∃ x b5, endB U iu = (x, b5) := ⟨_, _, rfl⟩
            have HN := hid hn7
            have HE := hid he5
            clear hn7 he5
            clear hb22 hU
            go_wp2_with fail
            refine ((iTwiceEnd_u _ U iu _ U_w22.out).mono fun e w' h => zbLp h HE.out).mono ?_
            rintro e w23 ⟨rfl, hb23⟩
            have HBw23 := hid (HBw22.out.trans (hb23.mono HBw22.out.size))
            have R1_w23 := hid (R1_w22.out.keep hb23)
            have U_w23 := hid (U_w22.out.keep hb23)
            clear hb23
            go_wp2_with fail
            refine ((sTwiceEnd_u _ U iu _ U_w23.out).mono fun e w' h => zbLp h HE.out).mono ?_
            rintro e w24 ⟨rfl, hb24⟩
            have HBw24 := hid (HBw23.out.trans (hb24.mono HBw23.out.size))
            have R1_w24 := hid (R1_w23.out.keep hb24)
            have U_w24 := hid (U_w23.out.keep hb24)
            clear hb24
            go_wp2_with fail
            refine ((iNearestTaxon_u _ U iu _ U_w24.out).mono fun e w' h => zzbLp h HN.out).mono ?_
            rintro e w25 ⟨rfl, hb25⟩
            have HBw25 := hid (HBw24.out.trans (hb25.mono HBw24.out.size))
            have R1_w25 := hid (R1_w24.out.keep hb25)
            have U_w25 := hid (U_w24.out.keep hb25)
            clear hb25
            go_wp2_with fail
            refine ((sNearestTaxon_u _ U iu _ U_w25.out).mono fun e w' h => zzbLp h HN.out).mono ?_
            rintro e w26 ⟨rfl, hb26⟩
            have HBw26 := hid (HBw25.out.trans (hb26.mono HBw25.out.size))
            have R1_w26 := hid (R1_w25.out.keep hb26)
            have U_w26 := hid (U_w25.out.keep hb26)
            clear hb26
            cases b7
            · have h00 := near_no_end (M := U) (i := iu) (by rw [HN.out])
              rw [HE.out] at h00
              obtain ⟨rfl, rfl⟩ : x = 0 ∧ b5 = false := by simpa using h00
              clear h00
              as_aux_lemma =>
                go_wp2_with fail
                refine (DrawFourSums_c _ x1 _ R1_w26.out).mono ?_
                rintro e w27 ⟨vx, X, j1, j2, j3, j4, rfl, hX, hb27⟩
                have HBw27 := hid (HBw26.out.trans (hb27.mono HBw26.out.size))
                have X_w27 := hid hX
                obtain ⟨ax, nx, cx, rfl⟩ : ∃ a n c, vx = .slice a n c := by obtain ⟨a, c, rfl, _⟩ := hX; exact ⟨a, _, c, rfl⟩
                obtain ⟨S4, b4, hs4⟩ : ∃ S4 b4, fourB X j1 j2 j3 j4 = (S4, b4) := ⟨_, _, rfl⟩
                have HS4 := hid hs4
                clear hs4
                clear hb27 hX
                go_wp2_with fail
                refine ((iFourSums_u _ X j1 j2 j3 j4 _ X_w27.out).mono fun e w' h => h.lp HS4.out).mono ?_
                rintro e w28 ⟨a28, n28, c28, rfl, hp28, hb28⟩
                have HBw28 := hid (HBw27.out.trans (hb28.mono HBw27.out.size))
                have X_w28 := hid (X_w27.out.keep hb28)
                have S1_w28 := hid hp28
                clear hb28 hp28
                go_wp2_with fail
                refine ((sFourSums_u _ X j1 j2 j3 j4 _ X_w28.out).mono fun e w' h => h.lp HS4.out).mono ?_
                rintro e w29 ⟨a29, n29, c29, rfl, hp29, hb29⟩
                have HBw29 := hid (HBw28.out.trans (hb29.mono HBw28.out.size))
                have X_w29 := hid (X_w28.out.keep hb29)
                have S1_w29 := hid (S1_w28.out.keep hb29)
                have S2_w29 := hid hp29
                clear hb29 hp29
                cases b4
                all_goals
                  go_wp2_with fail
                  refine (sameInts_y _ _ S4 _ S1_w29.out S2_w29.out).mono ?_
                  rintro e w30 ⟨rfl, hb30⟩
                  have HBw30 := hid (HBw29.out.trans (hb30.mono HBw29.out.size))
                  have X_w30 := hid (X_w29.out.keep hb30)
                  have S1_w30 := hid (S1_w29.out.keep hb30)
                  have S2_w30 := hid (S2_w29.out.keep hb30)
                  clear hb30
                  go_wp2
                  go_ret
                  exact ⟨rfl, HBw30.out⟩
            · obtain ⟨hmU, j, k, hij, _, hj, _, _, _, y1, y2, hall⟩ := near_law HN.out
              subst hij
              have HALL := hid hall
              have hend : b5 = true → 0 ≤ x ∧ x ≤ 2 * y := fun hb => by
                obtain ⟨p', y', h1, h2, h3⟩ := end_law (M := U) (i := (j : Int)) (x := x) (by rw [HE.out, hb])
                rw [HN.out] at h1
                simp only [Prod.mk.injEq, and_true] at h1
                obtain ⟨-, rfl⟩ := h1
                exact ⟨h2, h3⟩
              obtain ⟨g, o, cap, G, O, C, hv, hc1, hc2, hsq⟩ := met_open U_w26.out hmU
              simp only [Value.slice.injEq] at hv
              obtain ⟨rfl, -, rfl⟩ := hv
              obtain ⟨e1, e2⟩ := rmat_n U_w26.out
              obtain ⟨N, hN⟩ : ∃ N, U.length = N := ⟨_, rfl⟩
              have hN7 := (metB_parts hmU).2.1
              rw [hN] at hj hsq HALL e1 hN7 hc1
              obtain rfl : N = nU := e1.symm
              have HSQ := hid hsq
              have HNN := hid hN
              have hjz : (j : Int) < (N : Int) := by omega
              have ri := hsq.row j hj
              have f2 : IntKind.i64.wrap (2 * y) = 2 * y := IntWalk.i64_in _ (by omega)
              clear hsq hmU hall e2 hN
              cases b5
              · clear hend
                go_wp2
                go_loopg [277] N (fun gk iv wr => ∃ k : Nat, iv = .int .i64 k ∧ k ≤ N ∧ gk = N - k ∧ w26 = wr)
                case atStart => exact ⟨0, rfl, Nat.zero_le _, rfl, rfl⟩
                case round =>
                  obtain ⟨k, rfl, hk, rfl, rfl⟩ := hrel
                  by_cases hlt : k < N
                  · have hltz : (k : Int) < (N : Int) := by omega
                    have k1 := HSQ.out.at_ j k hj hlt
                    have h5 := HALL.out k hlt
                    obtain ⟨z, hz⟩ : ∃ z, ent U j k = z := ⟨_, rfl⟩
                    rw [hz] at k1 h5
                    clear hz
                    by_cases hkj : k = j
                    · have t1 := bne_nat_false hkj
                      clear h5 hkj
                      go_wp2
                      go_roundg (N - (k + 1))
                      case rel => exact ⟨k + 1, by go_num, by omega, rfl, rfl⟩
                      case measure => omega
                    · have t1 := bne_nat_true hkj
                      have h6 : ¬ (z < y) := by have := h5 hkj; omega
                      clear h5 hkj
                      go_wp2
                      go_roundg (N - (k + 1))
                      case rel => exact ⟨k + 1, by go_num, by omega, rfl, rfl⟩
                      case measure => omega
                  · obtain rfl : N = k := by omega
                    clear HSQ HALL ri
                    as_aux_lemma =>
                      go_wp2_with fail
                      refine (DrawFourSums_c _ x1 _ R1_w26.out).mono ?_
                      rintro e w27 ⟨vx, X, j1, j2, j3, j4, rfl, hX, hb27⟩
                      have HBw27 := hid (HBw26.out.trans (hb27.mono HBw26.out.size))
                      have X_w27 := hid hX
                      obtain ⟨ax, nx, cx, rfl⟩ : ∃ a n c, vx = .slice a n c := by obtain ⟨a, c, rfl, _⟩ := hX; exact ⟨a, _, c, rfl⟩
                      obtain ⟨S4, b4, hs4⟩ : ∃ S4 b4, fourB X j1 j2 j3 j4 = (S4, b4) := ⟨_, _, rfl⟩
                      have HS4 := hid hs4
                      clear hs4
                      clear hb27 hX
                      go_wp2_with fail
                      refine ((iFourSums_u _ X j1 j2 j3 j4 _ X_w27.out).mono fun e w' h => h.lp HS4.out).mono ?_
                      rintro e w28 ⟨a28, n28, c28, rfl, hp28, hb28⟩
                      have HBw28 := hid (HBw27.out.trans (hb28.mono HBw27.out.size))
                      have X_w28 := hid (X_w27.out.keep hb28)
                      have S1_w28 := hid hp28
                      clear hb28 hp28
                      go_wp2_with fail
                      refine ((sFourSums_u _ X j1 j2 j3 j4 _ X_w28.out).mono fun e w' h => h.lp HS4.out).mono ?_
                      rintro e w29 ⟨a29, n29, c29, rfl, hp29, hb29⟩
                      have HBw29 := hid (HBw28.out.trans (hb29.mono HBw28.out.size))
                      have X_w29 := hid (X_w28.out.keep hb29)
                      have S1_w29 := hid (S1_w28.out.keep hb29)
                      have S2_w29 := hid hp29
                      clear hb29 hp29
                      cases b4
                      all_goals
                        go_wp2_with fail
                        refine (sameInts_y _ _ S4 _ S1_w29.out S2_w29.out).mono ?_
                        rintro e w30 ⟨rfl, hb30⟩
                        have HBw30 := hid (HBw29.out.trans (hb30.mono HBw29.out.size))
                        have X_w30 := hid (X_w29.out.keep hb30)
                        have S1_w30 := hid (S1_w29.out.keep hb30)
                        have S2_w30 := hid (S2_w29.out.keep hb30)
                        clear hb30
                        go_wp2
                        go_ret
                        exact ⟨rfl, HBw30.out⟩
              · obtain ⟨q1, q2⟩ := hend rfl
                have h1x : ¬ (x < 0) := by omega
                have h2x : ¬ (x > 2 * y) := by omega
                clear hend q1 q2
                go_wp2
                go_loopg [277] N (fun gk iv wr => ∃ k : Nat, iv = .int .i64 k ∧ k ≤ N ∧ gk = N - k ∧ w26 = wr)
                case atStart => exact ⟨0, rfl, Nat.zero_le _, rfl, rfl⟩
                case round =>
                  obtain ⟨k, rfl, hk, rfl, rfl⟩ := hrel
                  by_cases hlt : k < N
                  · have hltz : (k : Int) < (N : Int) := by omega
                    have k1 := HSQ.out.at_ j k hj hlt
                    have h5 := HALL.out k hlt
                    obtain ⟨z, hz⟩ : ∃ z, ent U j k = z := ⟨_, rfl⟩
                    rw [hz] at k1 h5
                    clear hz
                    by_cases hkj : k = j
                    · have t1 := bne_nat_false hkj
                      clear h5 hkj
                      go_wp2
                      go_roundg (N - (k + 1))
                      case rel => exact ⟨k + 1, by go_num, by omega, rfl, rfl⟩
                      case measure => omega
                    · have t1 := bne_nat_true hkj
                      have h6 : ¬ (z < y) := by have := h5 hkj; omega
                      clear h5 hkj
                      go_wp2
                      go_roundg (N - (k + 1))
                      case rel => exact ⟨k + 1, by go_num, by omega, rfl, rfl⟩
                      case measure => omega
                  · obtain rfl : N = k := by omega
                    clear HSQ HALL ri
                    as_aux_lemma =>
                      go_wp2_with fail
                      refine (DrawFourSums_c _ x1 _ R1_w26.out).mono ?_
                      rintro e w27 ⟨vx, X, j1, j2, j3, j4, rfl, hX, hb27⟩
                      have HBw27 := hid (HBw26.out.trans (hb27.mono HBw26.out.size))
                      have X_w27 := hid hX
                      obtain ⟨ax, nx, cx, rfl⟩ : ∃ a n c, vx = .slice a n c := by obtain ⟨a, c, rfl, _⟩ := hX; exact ⟨a, _, c, rfl⟩
                      obtain ⟨S4, b4, hs4⟩ : ∃ S4 b4, fourB X j1 j2 j3 j4 = (S4, b4) := ⟨_, _, rfl⟩
                      have HS4 := hid hs4
                      clear hs4
                      clear hb27 hX
                      go_wp2_with fail
                      refine ((iFourSums_u _ X j1 j2 j3 j4 _ X_w27.out).mono fun e w' h => h.lp HS4.out).mono ?_
                      rintro e w28 ⟨a28, n28, c28, rfl, hp28, hb28⟩
                      have HBw28 := hid (HBw27.out.trans (hb28.mono HBw27.out.size))
                      have X_w28 := hid (X_w27.out.keep hb28)
                      have S1_w28 := hid hp28
                      clear hb28 hp28
                      go_wp2_with fail
                      refine ((sFourSums_u _ X j1 j2 j3 j4 _ X_w28.out).mono fun e w' h => h.lp HS4.out).mono ?_
                      rintro e w29 ⟨a29, n29, c29, rfl, hp29, hb29⟩
                      have HBw29 := hid (HBw28.out.trans (hb29.mono HBw28.out.size))
                      have X_w29 := hid (X_w28.out.keep hb29)
                      have S1_w29 := hid (S1_w28.out.keep hb29)
                      have S2_w29 := hid hp29
                      clear hb29 hp29
                      cases b4
                      all_goals
                        go_wp2_with fail
                        refine (sameInts_y _ _ S4 _ S1_w29.out S2_w29.out).mono ?_
                        rintro e w30 ⟨rfl, hb30⟩
                        have HBw30 := hid (HBw29.out.trans (hb30.mono HBw29.out.size))
                        have X_w30 := hid (X_w29.out.keep hb30)
                        have S1_w30 := hid (S1_w29.out.keep hb30)
                        have S2_w30 := hid (S2_w29.out.keep hb30)
                        clear hb30
                        go_wp2
                        go_ret
                        exact ⟨rfl, HBw30.out⟩

set_option maxRecDepth 100000 in
theorem fnTreeMetrics_lifted (os : Os) (started : os.Started) (H : Type) (enc : TypeId × Value → H) :
    ReturnsInHanded {} Try.checked os 6 .any (Rows.fnTreeMetricsSpec.pre6 enc Try.prog Try.f6 Rows.fnTreeMetricsRow.domain false) (Rows.fnTreeMetricsSpec.post enc Try.prog Try.f6 false true false false) := by
  refine returnsInHanded_of_change (C := Try.checked) Try.own' started (by kernel_rfl) Try.func6
    (ChangeSpec.witness6 (enc := enc) (C := Try.checked) false ⟨#[], #[.slice none 0 0, .slice none 0 0], []⟩ 8 (by kernel_rfl) (by kernel_rfl) (by kernel_rfl) (by kernel_rfl)) ?_
  intro W base args ds gs before hval0 hW hcnd _
  have hval : ∀ (j : Nat) t v, Try.f6.params[j]? = some t → args[j]? = some v → Value.okWide Try.prog W .any base t v := hval0
  have hW' := hW
  obtain ⟨p, q, hA0, hV, rfl, hfz, hnd⟩ := hW
  have hA : DataW.TrodAll enc Try.prog W 0 (fun _ => true) true Try.f6.params.toList args.toList ds p := hA0
  rw [Try.params6] at hA hval
  obtain ⟨v0, vs0, d0, ds0, p0, q0, hargs, rfl, rfl, h0, t0⟩ := trodAll_cons hA
  obtain ⟨v1, vs1, d1, ds1, p1, q1, rfl, rfl, rfl, h1, t1⟩ := trodAll_cons t0
  obtain ⟨rfl, rfl, rfl⟩ := trodAll_nil t1
  obtain rfl : args = #[v0, v1] := by cases args; simp_all
  obtain ⟨rfl, rfl⟩ := trodVars_none hV
  have k0 := h0
  have lt0 := trod_blocks k0
  obtain ⟨x0, r0, i0⟩ := open_rbytes (hval 0 35 v0 rfl rfl) h0
  have k1 := h1
  have lt1 := trod_blocks k1
  obtain ⟨x1, r1, i1⟩ := open_rbytes (hval 1 35 v1 rfl rfl) h1
  clear hA0 hval0
  refine (FnTreeMetrics_c v0 x0 v1 x1 W r0 r1).mono fun e W' ⟨he, bel⟩ => ?_
  subst he
  exact ⟨_, rfl, _, _, _, [], _, [], hW', trodAll_mk1 (shut_bool Try.underlying4 _), (trodAll_cons_mk (Below.trod Try.laidOut' (by kernel_rfl) (of_decide_eq_true (by kernel_rfl)) k0 bel lt0) (trodAll_cons_mk (Below.trod Try.laidOut' (by kernel_rfl) (of_decide_eq_true (by kernel_rfl)) k1 bel lt1) trodAll_mk0)), rfl, bel.frame _, fun h => by cases h⟩

theorem fnTreeMetrics_holds : Rows.FnTreeMetricsSaid :=
  OpenClaim.holds_of_wide 6 Try.f6 rfl rfl rfl rfl rfl rfl rfl ⟨rfl, rfl, rfl, rfl, rfl⟩ rfl rfl rfl rfl rfl (by kernel_rfl) Try.func6 (by kernel_rfl)
    (of_decide_eq_true (by kernel_rfl)) (by unfold Func.isWrapper; first | (rw [if_pos (by decide +kernel)]; kernel_rfl) | (rw [if_neg (by decide +kernel)]; exact ⟨rfl, rfl⟩))
    (fun os started H enc _ => fnTreeMetrics_lifted os started H enc)

end Go.Proofs.Ytcgcgmlonhganaa
