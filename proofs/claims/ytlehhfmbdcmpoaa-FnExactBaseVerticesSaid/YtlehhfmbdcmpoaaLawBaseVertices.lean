/- FnExactBaseVertices returns true for every input, and its arguments read as before. No condition. -/
import Derived.Test.YtlehhfmbdcmpoaaBase
import Derived.Test.YtlehhfmbdcmpoaaOpenL
namespace Go.Proofs.Ytlehhfmbdcmpoaa
open Go.ChangeShapes Go.WideShapes Go.ChangeAt Go.RowKit
open Go.Lib (hid)

set_option maxRecDepth 100000 in
set_option maxHeartbeats 4000000 in
theorem FnExactBaseVertices_c (a0 : Int) (v1 : Value) (x1 : List Lnk) (v2 : Value) (x2 : List Int) (w : World) (r1 : RLinks w v1 x1) (r2 : RInts w v2 x2) :
    Calls Try.prog 3 #[.int .i64 a0, v1, v2] w fun e w' => e = .returned (.bool true) ∧ Below w.heap.size w w' := by
  have rr2 := r2
  obtain ⟨ad2, cap2, rfl, hl2, hm2, hc2⟩ := r2
  clear hc2
  unfold maxLen at hm2
  have r2 := rr2; clear rr2
  by_cases g2 : x2.length ≤ 1048576
  · go_enter Try.func3, Try.ntmps3
    go_wp2_with fail
    refine (szLinkS_c _ x1 _ _ r1 (by omega) (by omega)).mono ?_
    rintro e w' ⟨rfl, rfl⟩
    by_cases z1n : (szI x1.length 1048576) < 0
    · go_wp2_with fail
      go_ret
      exact ⟨rfl, Below.refl _ _⟩
    have z1 := szL_small z1n (by omega)
    have z1r := szI_le (x1.length : Int) 1048576 (by omega) (by omega)
    go_wp2_with fail
    refine (toLinkS_c _ x1 _ r1 z1).mono ?_
    rintro e w1 ⟨u1, rfl, f1, hb1⟩
    have s1 := hb1.size
    have B1 := hb1
    obtain ⟨ua1, uc1, rfl⟩ := f1.form
    go_wp2_with fail
    refine (toIntS_c _ x2 _ (r2.keep B1) g2).mono ?_
    rintro e w2 ⟨u2, rfl, f2, hb2⟩
    have s2 := hb2.size
    have B2 := B1.trans (hb2.mono B1.size)
    have f1_2 := f1.keep hb2
    obtain ⟨ua2, uc2, rfl⟩ := f2.form
    go_wp2_with fail
    refine (sBaseVertices_u _ _ x1 _ x2 _ f1_2.r f2.r).mono ?_
    rintro e w3 ⟨u3_0, rfl, f3_0, hb3⟩
    have s3 := hb3.size
    have B3 := B2.trans (hb3.mono B2.size)
    obtain ⟨ua3_0, uc3_0, rfl⟩ := f3_0.form
    go_wp2_with fail
    refine (toLinkS_c _ x1 _ (r1.keep B3) z1).mono ?_
    rintro e w4 ⟨u4, rfl, f4, hb4⟩
    have s4 := hb4.size
    have B4 := B3.trans (hb4.mono B3.size)
    have f3_0_4 := f3_0.keep hb4
    obtain ⟨ua4, uc4, rfl⟩ := f4.form
    go_wp2_with fail
    refine (toIntS_c _ x2 _ (r2.keep B4) g2).mono ?_
    rintro e w5 ⟨u5, rfl, f5, hb5⟩
    have s5 := hb5.size
    have B5 := B4.trans (hb5.mono B4.size)
    have f3_0_5 := f3_0_4.keep hb5
    have f4_5 := f4.keep hb5
    obtain ⟨ua5, uc5, rfl⟩ := f5.form
    go_wp2_with fail
    refine (iBaseVertices_u _ _ x1 _ x2 _ f4_5.r f5.r).mono ?_
    rintro e w6 ⟨u6_0, rfl, f6_0, hb6⟩
    have s6 := hb6.size
    have B6 := B5.trans (hb6.mono B5.size)
    have f3_0_6 := f3_0_5.keep hb6
    have f4_6 := f4_5.keep hb6
    have f5_6 := f5.keep hb6
    obtain ⟨ua6_0, uc6_0, rfl⟩ := f6_0.form
    go_wp2_with fail
    refine (eqIntS_b _ _ _ _ _ f6_0.r f3_0_6.r).mono ?_
    rintro e w7 ⟨rfl, hb7⟩
    have s7 := hb7.size
    have B7 := B6.trans (hb7.mono B6.size)
    have f3_0_7 := f3_0_6.keep hb7
    have f4_7 := f4_6.keep hb7
    have f5_7 := f5_6.keep hb7
    have f6_0_7 := f6_0.keep hb7
    go_wp2_with fail
    refine (toLinkS_c _ x1 _ (r1.keep B7) z1).mono ?_
    rintro e w8 ⟨u8, rfl, f8, hb8⟩
    have s8 := hb8.size
    have B8 := B7.trans (hb8.mono B7.size)
    have f3_0_8 := f3_0_7.keep hb8
    have f4_8 := f4_7.keep hb8
    have f5_8 := f5_7.keep hb8
    have f6_0_8 := f6_0_7.keep hb8
    obtain ⟨ua8, uc8, rfl⟩ := f8.form
    go_wp2_with fail
    refine (eqLinkS_b _ _ _ _ f4_8.r f8.r).mono ?_
    rintro e w9 ⟨rfl, hb9⟩
    have s9 := hb9.size
    have B9 := B8.trans (hb9.mono B8.size)
    have f3_0_9 := f3_0_8.keep hb9
    have f4_9 := f4_8.keep hb9
    have f5_9 := f5_8.keep hb9
    have f6_0_9 := f6_0_8.keep hb9
    have f8_9 := f8.keep hb9
    go_wp2_with fail
    refine (toIntS_c _ x2 _ (r2.keep B9) g2).mono ?_
    rintro e w10 ⟨u10, rfl, f10, hb10⟩
    have s10 := hb10.size
    have B10 := B9.trans (hb10.mono B9.size)
    have f3_0_10 := f3_0_9.keep hb10
    have f4_10 := f4_9.keep hb10
    have f5_10 := f5_9.keep hb10
    have f6_0_10 := f6_0_9.keep hb10
    obtain ⟨ua10, uc10, rfl⟩ := f10.form
    go_wp2_with fail
    refine (eqIntS_b _ _ _ _ _ f5_10.r f10.r).mono ?_
    rintro e w11 ⟨rfl, hb11⟩
    have s11 := hb11.size
    have B11 := B10.trans (hb11.mono B10.size)
    have f3_0_11 := f3_0_10.keep hb11
    have f4_11 := f4_10.keep hb11
    have f5_11 := f5_10.keep hb11
    have f6_0_11 := f6_0_10.keep hb11
    have f10_11 := f10.keep hb11
    go_wp2_with fail
    refine (markLinkS_c _ _ _ _ _ _ f4_11 (by omega) (by omega)).mono ?_
    rintro e w12 ⟨rfl, f12, ht12⟩
    have s12 := ht12.size
    have B12 := B11.trans (ht12.below (by omega) (by omega) : Below w.heap.size _ _)
    have f3_0_12 := f3_0_11.same (.of_touch ht12 (by omega))
    have f5_12 := f5_11.same (.of_touch ht12 (by omega))
    have f6_0_12 := f6_0_11.same (.of_touch ht12 (by omega))
    go_wp2_with fail
    have t13 := g2
    refine (markIntS_b _ _ _ _ _ _ f5_12 (by omega) (by omega)).mono ?_
    rintro e w13 ⟨rfl, f13, ht13⟩
    have s13 := ht13.size
    have B13 := B12.trans (ht13.below (by omega) (by omega) : Below w.heap.size _ _)
    have f3_0_13 := f3_0_12.same (.of_touch ht13 (by omega))
    have f6_0_13 := f6_0_12.same (.of_touch ht13 (by omega))
    go_wp2_with fail
    refine (eqIntS_b _ _ _ _ _ f6_0_13.r f3_0_13.r).mono ?_
    rintro e w14 ⟨rfl, hb14⟩
    have s14 := hb14.size
    have B14 := B13.trans (hb14.mono B13.size)
    have f3_0_14 := f3_0_13.keep hb14
    have f13_14 := f13.keep hb14
    have f6_0_14 := f6_0_13.keep hb14
    go_wp2_with fail
    have t15 := basB_len a0 x1 x2
    refine (markIntS_b _ _ _ _ _ _ f6_0_14 (by omega) (by omega)).mono ?_
    rintro e w15 ⟨rfl, f15, ht15⟩
    have s15 := ht15.size
    have B15 := B14.trans (ht15.below (by omega) (by omega) : Below w.heap.size _ _)
    have f3_0_15 := f3_0_14.same (.of_touch ht15 (by omega))
    have f13_15 := f13_14.same (.of_touch ht15 (by omega))
    go_wp2_with fail
    refine (heldIntS_c _ _ _ _ f15.r (by omega) (by omega)).mono ?_
    rintro e w' ⟨rfl, rfl⟩
    go_wp2_with fail
    refine (toLinkS_c _ x1 _ (r1.keep B15) z1).mono ?_
    rintro e w16 ⟨u16, rfl, f16, hb16⟩
    have s16 := hb16.size
    have B16 := B15.trans (hb16.mono B15.size)
    have f3_0_16 := f3_0_15.keep hb16
    have f13_16 := f13_15.keep hb16
    have f15_16 := f15.keep hb16
    obtain ⟨ua16, uc16, rfl⟩ := f16.form
    go_wp2_with fail
    refine (toIntS_c _ x2 _ (r2.keep B16) g2).mono ?_
    rintro e w17 ⟨u17, rfl, f17, hb17⟩
    have s17 := hb17.size
    have B17 := B16.trans (hb17.mono B16.size)
    have f3_0_17 := f3_0_16.keep hb17
    have f13_17 := f13_16.keep hb17
    have f15_17 := f15_16.keep hb17
    have f16_17 := f16.keep hb17
    obtain ⟨ua17, uc17, rfl⟩ := f17.form
    go_wp2_with fail
    refine (iBaseVertices_u _ _ x1 _ x2 _ f16_17.r f17.r).mono ?_
    rintro e w18 ⟨u18_0, rfl, f18_0, hb18⟩
    have s18 := hb18.size
    have B18 := B17.trans (hb18.mono B17.size)
    have f3_0_18 := f3_0_17.keep hb18
    have f13_18 := f13_17.keep hb18
    have f15_18 := f15_17.keep hb18
    obtain ⟨ua18_0, uc18_0, rfl⟩ := f18_0.form
    go_wp2_with fail
    refine (eqIntS_b _ _ _ _ _ f18_0.r f3_0_18.r).mono ?_
    rintro e w19 ⟨rfl, hb19⟩
    have s19 := hb19.size
    have B19 := B18.trans (hb19.mono B18.size)
    have f3_0_19 := f3_0_18.keep hb19
    have f13_19 := f13_18.keep hb19
    have f15_19 := f15_18.keep hb19
    have f18_0_19 := f18_0.keep hb19
    go_wp2_with fail
    refine (heldIntS_c _ _ _ _ f15_19.r (by omega) (by omega)).mono ?_
    rintro e w' ⟨rfl, rfl⟩
    go_wp2_with fail
    go_ret
    exact ⟨rfl, B19⟩
  all_goals
    go_enter Try.func3, Try.ntmps3
    go_wp2
    go_ret
    exact ⟨rfl, Below.refl _ _⟩

set_option maxRecDepth 100000 in
theorem fnExactBaseVertices_lifted (os : Os) (started : os.Started) (H : Type) (enc : TypeId × Value → H) :
    ReturnsInHanded {} Try.checked os 3 .any (Rows.fnExactBaseVerticesSpec.pre6 enc Try.prog Try.f3 Rows.fnExactBaseVerticesRow.domain false) (Rows.fnExactBaseVerticesSpec.post enc Try.prog Try.f3 false true false false) := by
  refine returnsInHanded_of_change (C := Try.checked) Try.own' started (by kernel_rfl) Try.func3
    (ChangeSpec.witness6 (enc := enc) (C := Try.checked) false ⟨#[], #[.int .i64 0, .slice none 0 0, .slice none 0 0], []⟩ 8 (by kernel_rfl) (by kernel_rfl) (by kernel_rfl) (by kernel_rfl)) ?_
  intro W base args ds gs before hval0 hW hcnd _
  have hval : ∀ (j : Nat) t v, Try.f3.params[j]? = some t → args[j]? = some v → Value.okWide Try.prog W .any base t v := hval0
  have hW' := hW
  obtain ⟨p, q, hA0, hV, rfl, hfz, hnd⟩ := hW
  have hA : DataW.TrodAll enc Try.prog W 0 (fun _ => true) true Try.f3.params.toList args.toList ds p := hA0
  rw [Try.params3] at hA hval
  obtain ⟨v0, vs0, d0, ds0, p0, q0, hargs, rfl, rfl, h0, t0⟩ := trodAll_cons hA
  obtain ⟨v1, vs1, d1, ds1, p1, q1, rfl, rfl, rfl, h1, t1⟩ := trodAll_cons t0
  obtain ⟨v2, vs2, d2, ds2, p2, q2, rfl, rfl, rfl, h2, t2⟩ := trodAll_cons t1
  obtain ⟨rfl, rfl, rfl⟩ := trodAll_nil t2
  obtain rfl : args = #[v0, v1, v2] := by cases args; simp_all
  obtain ⟨rfl, rfl⟩ := trodVars_none hV
  obtain ⟨a0, rfl, rfl, rfl, w0⟩ := open_int Try.underlying3 (hval 0 3 v0 rfl rfl) h0
  have b0 := I64_of w0
  have k1 := h1
  have lt1 := trod_blocks k1
  obtain ⟨x1, r1, i1⟩ := open_rlinks (hval 1 22 v1 rfl rfl) h1
  have k2 := h2
  have lt2 := trod_blocks k2
  obtain ⟨x2, r2, i2⟩ := open_rints (hval 2 23 v2 rfl rfl) h2
  clear hA0 hval0
  refine (FnExactBaseVertices_c a0 v1 x1 v2 x2 W r1 r2).mono fun e W' ⟨he, bel⟩ => ?_
  subst he
  exact ⟨_, rfl, _, _, _, [], _, [], hW', trodAll_mk1 (shut_bool Try.underlying4 _), (trodAll_cons_mk (shut_int Try.underlying3 w0) (trodAll_cons_mk (Below.trod Try.laidOut' (by kernel_rfl) (of_decide_eq_true (by kernel_rfl)) k1 bel lt1) (trodAll_cons_mk (Below.trod Try.laidOut' (by kernel_rfl) (of_decide_eq_true (by kernel_rfl)) k2 bel lt2) trodAll_mk0))), rfl, bel.frame _, fun h => by cases h⟩

theorem fnExactBaseVertices_holds : Rows.FnExactBaseVerticesSaid :=
  OpenClaim.holds_of_wide 3 Try.f3 rfl rfl rfl rfl rfl rfl rfl ⟨rfl, rfl, rfl, rfl, rfl⟩ rfl rfl rfl rfl rfl (by kernel_rfl) Try.func3 (by kernel_rfl)
    (of_decide_eq_true (by kernel_rfl)) (by unfold Func.isWrapper; first | (rw [if_pos (by decide +kernel)]; kernel_rfl) | (rw [if_neg (by decide +kernel)]; exact ⟨rfl, rfl⟩))
    (fun os started H enc _ => fnExactBaseVertices_lifted os started H enc)

end Go.Proofs.Ytlehhfmbdcmpoaa
