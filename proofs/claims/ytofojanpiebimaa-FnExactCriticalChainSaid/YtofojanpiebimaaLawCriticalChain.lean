/- FnExactCriticalChain returns true for every input, and its argument reads as before. No condition. -/
import Derived.Test.YtofojanpiebimaaCrit3
import Derived.Test.YtofojanpiebimaaOpenT
namespace Go.Proofs.Ytofojanpiebimaa
open Go.ChangeShapes Go.WideShapes Go.ChangeAt Go.RowKit
open Go.Lib (hid)

set_option maxRecDepth 100000 in
set_option maxHeartbeats 4000000 in
theorem FnExactCriticalChain_c (v0 : Value) (x0 : List Tsk) (w : World) (r0 : RTasks w v0 x0) :
    Calls Try.prog 13 #[v0] w fun e w' => e = .returned (.bool true) ∧ Below w.heap.size w w' := by
  go_enter Try.func13, Try.ntmps13
  go_wp2_with fail
  refine (szTaskS_c _ x0 _ _ r0 (by omega) (by omega)).mono ?_
  rintro e w1 ⟨rfl, hb1⟩
  have s1 := hb1.size
  have B1 := hb1
  by_cases z0n : (szT x0 1048576) < 0
  · go_wp2_with fail
    go_ret
    exact ⟨rfl, B1⟩
  have z0s := szT_small z0n
  have z0r := szT_range (M := x0) (left := 1048576) (by omega)
  have z0 := szT_lim z0s (by omega)
  clear z0s
  go_wp2_with fail
  refine (toTaskS_c _ x0 _ (r0.keep B1) z0).mono ?_
  rintro e w2 ⟨u2, rfl, f2, hb2⟩
  have s2 := hb2.size
  have B2 := B1.trans (hb2.mono B1.size)
  obtain ⟨ua2, uc2, rfl⟩ := f2.form
  go_wp2_with fail
  refine (sCriticalChain_u _ x0 _ f2.r).mono ?_
  rintro e w3 ⟨u3_0, rfl, f3_0, hb3⟩
  have s3 := hb3.size
  have B3 := B2.trans (hb3.mono B2.size)
  obtain ⟨ua3_0, uc3_0, rfl⟩ := f3_0.form
  go_wp2_with fail
  refine (toTaskS_c _ x0 _ (r0.keep B3) z0).mono ?_
  rintro e w4 ⟨u4, rfl, f4, hb4⟩
  have s4 := hb4.size
  have B4 := B3.trans (hb4.mono B3.size)
  have f3_0_4 := f3_0.keep hb4
  obtain ⟨ua4, uc4, rfl⟩ := f4.form
  go_wp2_with fail
  refine (iCriticalChain_u _ x0 _ f4.r).mono ?_
  rintro e w5 ⟨u5_0, rfl, f5_0, hb5⟩
  have s5 := hb5.size
  have B5 := B4.trans (hb5.mono B4.size)
  have f3_0_5 := f3_0_4.keep hb5
  have f4_5 := f4.keep hb5
  obtain ⟨ua5_0, uc5_0, rfl⟩ := f5_0.form
  go_wp2_with fail
  refine (eqIntS_b _ _ _ _ _ f5_0.r f3_0_5.r).mono ?_
  rintro e w6 ⟨rfl, hb6⟩
  have s6 := hb6.size
  have B6 := B5.trans (hb6.mono B5.size)
  have f3_0_6 := f3_0_5.keep hb6
  have f4_6 := f4_5.keep hb6
  have f5_0_6 := f5_0.keep hb6
  go_wp2_with fail
  refine (toTaskS_c _ x0 _ (r0.keep B6) z0).mono ?_
  rintro e w7 ⟨u7, rfl, f7, hb7⟩
  have s7 := hb7.size
  have B7 := B6.trans (hb7.mono B6.size)
  have f3_0_7 := f3_0_6.keep hb7
  have f4_7 := f4_6.keep hb7
  have f5_0_7 := f5_0_6.keep hb7
  obtain ⟨ua7, uc7, rfl⟩ := f7.form
  go_wp2_with fail
  refine (eqTaskS_b _ _ _ _ f4_7.r f7.r).mono ?_
  rintro e w8 ⟨rfl, hb8⟩
  have s8 := hb8.size
  have B8 := B7.trans (hb8.mono B7.size)
  have f3_0_8 := f3_0_7.keep hb8
  have f4_8 := f4_7.keep hb8
  have f5_0_8 := f5_0_7.keep hb8
  have f7_8 := f7.keep hb8
  go_wp2_with fail
  have t9 := totT_small z0
  refine (markTaskS_c _ _ _ _ _ _ f4_8 (by omega) (by omega)).mono ?_
  rintro e w9 ⟨rfl, f9, ht9⟩
  have s9 := ht9.size
  have B9 := B8.trans (ht9.below (by omega) (by omega) : Below w.heap.size _ _)
  have f3_0_9 := f3_0_8.same (.of_touch ht9 (by omega))
  have f5_0_9 := f5_0_8.same (.of_touch ht9 (by omega))
  go_wp2_with fail
  refine (eqIntS_b _ _ _ _ _ f5_0_9.r f3_0_9.r).mono ?_
  rintro e w10 ⟨rfl, hb10⟩
  have s10 := hb10.size
  have B10 := B9.trans (hb10.mono B9.size)
  have f3_0_10 := f3_0_9.keep hb10
  have f5_0_10 := f5_0_9.keep hb10
  go_wp2_with fail
  have t11 := chnB_len x0
  refine (markIntS_b _ _ _ _ _ _ f5_0_10 (by omega) (by omega)).mono ?_
  rintro e w11 ⟨rfl, f11, ht11⟩
  have s11 := ht11.size
  have B11 := B10.trans (ht11.below (by omega) (by omega) : Below w.heap.size _ _)
  have f3_0_11 := f3_0_10.same (.of_touch ht11 (by omega))
  go_wp2_with fail
  refine (heldIntS_c _ _ _ _ f11.r (by omega) (by omega)).mono ?_
  rintro e w' ⟨rfl, rfl⟩
  go_wp2_with fail
  refine (toTaskS_c _ x0 _ (r0.keep B11) z0).mono ?_
  rintro e w12 ⟨u12, rfl, f12, hb12⟩
  have s12 := hb12.size
  have B12 := B11.trans (hb12.mono B11.size)
  have f3_0_12 := f3_0_11.keep hb12
  have f11_12 := f11.keep hb12
  obtain ⟨ua12, uc12, rfl⟩ := f12.form
  go_wp2_with fail
  refine (iCriticalChain_u _ x0 _ f12.r).mono ?_
  rintro e w13 ⟨u13_0, rfl, f13_0, hb13⟩
  have s13 := hb13.size
  have B13 := B12.trans (hb13.mono B12.size)
  have f3_0_13 := f3_0_12.keep hb13
  have f11_13 := f11_12.keep hb13
  obtain ⟨ua13_0, uc13_0, rfl⟩ := f13_0.form
  go_wp2_with fail
  refine (eqIntS_b _ _ _ _ _ f13_0.r f3_0_13.r).mono ?_
  rintro e w14 ⟨rfl, hb14⟩
  have s14 := hb14.size
  have B14 := B13.trans (hb14.mono B13.size)
  have f3_0_14 := f3_0_13.keep hb14
  have f11_14 := f11_13.keep hb14
  have f13_0_14 := f13_0.keep hb14
  go_wp2_with fail
  refine (heldIntS_c _ _ _ _ f11_14.r (by omega) (by omega)).mono ?_
  rintro e w' ⟨rfl, rfl⟩
  go_wp2_with fail
  go_ret
  exact ⟨rfl, B14⟩

set_option maxRecDepth 100000 in
theorem fnExactCriticalChain_lifted (os : Os) (started : os.Started) (H : Type) (enc : TypeId × Value → H) :
    ReturnsInHanded {} Try.checked os 13 .any (Rows.fnExactCriticalChainSpec.pre6 enc Try.prog Try.f13 Rows.fnExactCriticalChainRow.domain false) (Rows.fnExactCriticalChainSpec.post enc Try.prog Try.f13 false true false false) := by
  refine returnsInHanded_of_change (C := Try.checked) Try.own' started (by kernel_rfl) Try.func13
    (ChangeSpec.witness6 (enc := enc) (C := Try.checked) false ⟨#[], #[.slice none 0 0], []⟩ 8 (by kernel_rfl) (by kernel_rfl) (by kernel_rfl) (by kernel_rfl)) ?_
  intro W base args ds gs before hval0 hW hcnd _
  have hval : ∀ (j : Nat) t v, Try.f13.params[j]? = some t → args[j]? = some v → Value.okWide Try.prog W .any base t v := hval0
  have hW' := hW
  obtain ⟨p, q, hA0, hV, rfl, hfz, hnd⟩ := hW
  have hA : DataW.TrodAll enc Try.prog W 0 (fun _ => true) true Try.f13.params.toList args.toList ds p := hA0
  rw [Try.params13] at hA hval
  obtain ⟨v0, vs0, d0, ds0, p0, q0, hargs, rfl, rfl, h0, t0⟩ := trodAll_cons hA
  obtain ⟨rfl, rfl, rfl⟩ := trodAll_nil t0
  obtain rfl : args = #[v0] := by cases args; simp_all
  obtain ⟨rfl, rfl⟩ := trodVars_none hV
  have k0 := h0
  have lt0 := trod_blocks k0
  obtain ⟨x0, r0, i0⟩ := open_rtasks (hval 0 22 v0 rfl rfl) h0
  clear hA0 hval0
  refine (FnExactCriticalChain_c v0 x0 W r0).mono fun e W' ⟨he, bel⟩ => ?_
  subst he
  exact ⟨_, rfl, _, _, _, [], _, [], hW', trodAll_mk1 (shut_bool Try.underlying4 _), (trodAll_cons_mk (Below.trod Try.laidOut' (by kernel_rfl) (of_decide_eq_true (by kernel_rfl)) k0 bel lt0) trodAll_mk0), rfl, bel.frame _, fun h => by cases h⟩

theorem fnExactCriticalChain_holds : Rows.FnExactCriticalChainSaid :=
  OpenClaim.holds_of_wide 13 Try.f13 rfl rfl rfl rfl rfl rfl rfl ⟨rfl, rfl, rfl, rfl, rfl⟩ rfl rfl rfl rfl rfl (by kernel_rfl) Try.func13 (by kernel_rfl)
    (of_decide_eq_true (by kernel_rfl)) (by unfold Func.isWrapper; first | (rw [if_pos (by decide +kernel)]; kernel_rfl) | (rw [if_neg (by decide +kernel)]; exact ⟨rfl, rfl⟩))
    (fun os started H enc _ => fnExactCriticalChain_lifted os started H enc)

end Go.Proofs.Ytofojanpiebimaa
