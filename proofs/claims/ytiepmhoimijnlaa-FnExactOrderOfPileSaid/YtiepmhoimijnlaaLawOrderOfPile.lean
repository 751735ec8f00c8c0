/- FnExactOrderOfPile returns true for every input, and its arguments read as before. No condition. -/
import Derived.Test.YtiepmhoimijnlaaPileR6
import Derived.Test.YtiepmhoimijnlaaOpenL
namespace Go.Proofs.Ytiepmhoimijnlaa
open Go.ChangeShapes Go.WideShapes Go.ChangeAt Go.RowKit
open Go.Lib (hid)

set_option maxRecDepth 100000 in
set_option maxHeartbeats 4000000 in
theorem FnExactOrderOfPile_c (a0 : Int) (v1 : Value) (x1 : List Lnk) (a2 : Int) (v3 : Value) (x3 : List Int) (w : World) (r1 : RLinks w v1 x1) (r3 : RInts w v3 x3) :
    Calls Try.prog 8 #[.int .i64 a0, v1, .int .i64 a2, v3] w fun e w' => e = .returned (.bool true) ∧ Below w.heap.size w w' := by
  have rr3 := r3
  obtain ⟨ad3, cap3, rfl, hl3, hm3, hc3⟩ := r3
  clear hc3
  unfold maxLen at hm3
  have r3 := rr3; clear rr3
  by_cases g3 : x3.length ≤ 1048576
  · go_enter Try.func8, Try.ntmps8
    go_wp2_with fail
    refine (szLinkS_c _ x1 _ _ r1 (by omega) (by omega)).mono ?_
    rintro e w' ⟨rfl, rfl⟩
    by_cases z1n : (szI x1.length 1048576) < 0
    · go_wp2_with fail
      go_ret
      exact ⟨rfl, Below.refl _ _⟩
    have z1 := szL_small z1n (by omega)
    have z1r := szI_le (x1.length : Int) 1048576 (by omega) (by omega)
    go_wp2_with fail
    refine (toLinkS_c _ x1 _ r1 z1).mono ?_
    rintro e w1 ⟨u1, rfl, f1, hb1⟩
    have s1 := hb1.size
    have B1 := hb1
    obtain ⟨ua1, uc1, rfl⟩ := f1.form
    go_wp2_with fail
    refine (toIntS_c _ x3 _ (r3.keep B1) g3).mono ?_
    rintro e w2 ⟨u2, rfl, f2, hb2⟩
    have s2 := hb2.size
    have B2 := B1.trans (hb2.mono B1.size)
    have f1_2 := f1.keep hb2
    obtain ⟨ua2, uc2, rfl⟩ := f2.form
    go_wp2_with fail
    refine (sOrderOfPile_u _ _ x1 _ _ x3 _ f1_2.r f2.r).mono ?_
    rintro e w3 ⟨rfl, hb3⟩
    have s3 := hb3.size
    have B3 := B2.trans (hb3.mono B2.size)
    go_wp2_with fail
    refine (toLinkS_c _ x1 _ (r1.keep B3) z1).mono ?_
    rintro e w4 ⟨u4, rfl, f4, hb4⟩
    have s4 := hb4.size
    have B4 := B3.trans (hb4.mono B3.size)
    obtain ⟨ua4, uc4, rfl⟩ := f4.form
    go_wp2_with fail
    refine (toIntS_c _ x3 _ (r3.keep B4) g3).mono ?_
    rintro e w5 ⟨u5, rfl, f5, hb5⟩
    have s5 := hb5.size
    have B5 := B4.trans (hb5.mono B4.size)
    have f4_5 := f4.keep hb5
    obtain ⟨ua5, uc5, rfl⟩ := f5.form
    go_wp2_with fail
    refine (iOrderOfPile_u _ _ x1 _ _ x3 _ f4_5.r f5.r).mono ?_
    rintro e w6 ⟨rfl, hb6⟩
    have s6 := hb6.size
    have B6 := B5.trans (hb6.mono B5.size)
    have f4_6 := f4_5.keep hb6
    have f5_6 := f5.keep hb6
    go_wp2_with fail
    refine (toLinkS_c _ x1 _ (r1.keep B6) z1).mono ?_
    rintro e w7 ⟨u7, rfl, f7, hb7⟩
    have s7 := hb7.size
    have B7 := B6.trans (hb7.mono B6.size)
    have f4_7 := f4_6.keep hb7
    have f5_7 := f5_6.keep hb7
    obtain ⟨ua7, uc7, rfl⟩ := f7.form
    go_wp2_with fail
    refine (eqLinkS_b _ _ _ _ f4_7.r f7.r).mono ?_
    rintro e w8 ⟨rfl, hb8⟩
    have s8 := hb8.size
    have B8 := B7.trans (hb8.mono B7.size)
    have f4_8 := f4_7.keep hb8
    have f5_8 := f5_7.keep hb8
    have f7_8 := f7.keep hb8
    go_wp2_with fail
    refine (toIntS_c _ x3 _ (r3.keep B8) g3).mono ?_
    rintro e w9 ⟨u9, rfl, f9, hb9⟩
    have s9 := hb9.size
    have B9 := B8.trans (hb9.mono B8.size)
    have f4_9 := f4_8.keep hb9
    have f5_9 := f5_8.keep hb9
    obtain ⟨ua9, uc9, rfl⟩ := f9.form
    go_wp2_with fail
    refine (eqIntS_b _ _ _ _ _ f5_9.r f9.r).mono ?_
    rintro e w10 ⟨rfl, hb10⟩
    have s10 := hb10.size
    have B10 := B9.trans (hb10.mono B9.size)
    have f4_10 := f4_9.keep hb10
    have f5_10 := f5_9.keep hb10
    have f9_10 := f9.keep hb10
    go_wp2_with fail
    go_ret
    exact ⟨rfl, B10⟩
  all_goals
    go_enter Try.func8, Try.ntmps8
    go_wp2
    go_ret
    exact ⟨rfl, Below.refl _ _⟩

set_option maxRecDepth 100000 in
theorem fnExactOrderOfPile_lifted (os : Os) (started : os.Started) (H : Type) (enc : TypeId × Value → H) :
    ReturnsInHanded {} Try.checked os 8 .any (Rows.fnExactOrderOfPileSpec.pre6 enc Try.prog Try.f8 Rows.fnExactOrderOfPileRow.domain false) (Rows.fnExactOrderOfPileSpec.post enc Try.prog Try.f8 false true false false) := by
  refine returnsInHanded_of_change (C := Try.checked) Try.own' started (by kernel_rfl) Try.func8
    (ChangeSpec.witness6 (enc := enc) (C := Try.checked) false ⟨#[], #[.int .i64 0, .slice none 0 0, .int .i64 0, .slice none 0 0], []⟩ 8 (by kernel_rfl) (by kernel_rfl) (by kernel_rfl) (by kernel_rfl)) ?_
  intro W base args ds gs before hval0 hW hcnd _
  have hval : ∀ (j : Nat) t v, Try.f8.params[j]? = some t → args[j]? = some v → Value.okWide Try.prog W .any base t v := hval0
  have hW' := hW
  obtain ⟨p, q, hA0, hV, rfl, hfz, hnd⟩ := hW
  have hA : DataW.TrodAll enc Try.prog W 0 (fun _ => true) true Try.f8.params.toList args.toList ds p := hA0
  rw [Try.params8] at hA hval
  obtain ⟨v0, vs0, d0, ds0, p0, q0, hargs, rfl, rfl, h0, t0⟩ := trodAll_cons hA
  obtain ⟨v1, vs1, d1, ds1, p1, q1, rfl, rfl, rfl, h1, t1⟩ := trodAll_cons t0
  obtain ⟨v2, vs2, d2, ds2, p2, q2, rfl, rfl, rfl, h2, t2⟩ := trodAll_cons t1
  obtain ⟨v3, vs3, d3, ds3, p3, q3, rfl, rfl, rfl, h3, t3⟩ := trodAll_cons t2
  obtain ⟨rfl, rfl, rfl⟩ := trodAll_nil t3
  obtain rfl : args = #[v0, v1, v2, v3] := by cases args; simp_all
  obtain ⟨rfl, rfl⟩ := trodVars_none hV
  obtain ⟨a0, rfl, rfl, rfl, w0⟩ := open_int Try.underlying3 (hval 0 3 v0 rfl rfl) h0
  have b0 := I64_of w0
  have k1 := h1
  have lt1 := trod_blocks k1
  obtain ⟨x1, r1, i1⟩ := open_rlinks (hval 1 22 v1 rfl rfl) h1
  obtain ⟨a2, rfl, rfl, rfl, w2⟩ := open_int Try.underlying3 (hval 2 3 v2 rfl rfl) h2
  have b2 := I64_of w2
  have k3 := h3
  have lt3 := trod_blocks k3
  obtain ⟨x3, r3, i3⟩ := open_rints (hval 3 23 v3 rfl rfl) h3
  clear hA0 hval0
  refine (FnExactOrderOfPile_c a0 v1 x1 a2 v3 x3 W r1 r3).mono fun e W' ⟨he, bel⟩ => ?_
  subst he
  exact ⟨_, rfl, _, _, _, [], _, [], hW', trodAll_mk1 (shut_bool Try.underlying4 _), (trodAll_cons_mk (shut_int Try.underlying3 w0) (trodAll_cons_mk (Below.trod Try.laidOut' (by kernel_rfl) (of_decide_eq_true (by kernel_rfl)) k1 bel lt1) (trodAll_cons_mk (shut_int Try.underlying3 w2) (trodAll_cons_mk (Below.trod Try.laidOut' (by kernel_rfl) (of_decide_eq_true (by kernel_rfl)) k3 bel lt3) trodAll_mk0)))), rfl, bel.frame _, fun h => by cases h⟩

theorem fnExactOrderOfPile_holds : Rows.FnExactOrderOfPileSaid :=
  OpenClaim.holds_of_wide 8 Try.f8 rfl rfl rfl rfl rfl rfl rfl ⟨rfl, rfl, rfl, rfl, rfl⟩ rfl rfl rfl rfl rfl (by kernel_rfl) Try.func8 (by kernel_rfl)
    (of_decide_eq_true (by kernel_rfl)) (by unfold Func.isWrapper; first | (rw [if_pos (by decide +kernel)]; kernel_rfl) | (rw [if_neg (by decide +kernel)]; exact ⟨rfl, rfl⟩))
    (fun os started H enc _ => fnExactOrderOfPile_lifted os started H enc)

end Go.Proofs.Ytiepmhoimijnlaa
