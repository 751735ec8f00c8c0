/- FnExactEndWithDelay returns true for every input, and its argument reads as before. No condition. -/
import Derived.Test.YtofojanpiebimaaDelay
import Derived.Test.YtofojanpiebimaaOpenT
namespace Go.Proofs.Ytofojanpiebimaa
open Go.ChangeShapes Go.WideShapes Go.ChangeAt Go.RowKit
open Go.Lib (hid)

set_option maxRecDepth 100000 in
set_option maxHeartbeats 4000000 in
theorem FnExactEndWithDelay_c (v0 : Value) (x0 : List Tsk) (a1 : Int) (a2 : Int) (w : World) (r0 : RTasks w v0 x0) :
    Calls Try.prog 7 #[v0, .int .i64 a1, .int .i64 a2] w fun e w' => e = .returned (.bool true) ∧ Below w.heap.size w w' := by
  go_enter Try.func7, Try.ntmps7
  go_wp2_with fail
  refine (szTaskS_c _ x0 _ _ r0 (by omega) (by omega)).mono ?_
  rintro e w1 ⟨rfl, hb1⟩
  have s1 := hb1.size
  have B1 := hb1
  by_cases z0n : (szT x0 1048576) < 0
  · go_wp2_with fail
    go_ret
    exact ⟨rfl, B1⟩
  have z0s := szT_small z0n
  have z0r := szT_range (M := x0) (left := 1048576) (by omega)
  have z0 := szT_lim z0s (by omega)
  clear z0s
  go_wp2_with fail
  refine (toTaskS_c _ x0 _ (r0.keep B1) z0).mono ?_
  rintro e w2 ⟨u2, rfl, f2, hb2⟩
  have s2 := hb2.size
  have B2 := B1.trans (hb2.mono B1.size)
  obtain ⟨ua2, uc2, rfl⟩ := f2.form
  go_wp2_with fail
  refine (sEndWithDelay_u _ x0 _ _ _ f2.r).mono ?_
  rintro e w3 ⟨rfl, hb3⟩
  have s3 := hb3.size
  have B3 := B2.trans (hb3.mono B2.size)
  go_wp2_with fail
  refine (toTaskS_c _ x0 _ (r0.keep B3) z0).mono ?_
  rintro e w4 ⟨u4, rfl, f4, hb4⟩
  have s4 := hb4.size
  have B4 := B3.trans (hb4.mono B3.size)
  obtain ⟨ua4, uc4, rfl⟩ := f4.form
  go_wp2_with fail
  refine (iEndWithDelay_u _ x0 _ _ _ f4.r).mono ?_
  rintro e w5 ⟨rfl, hb5⟩
  have s5 := hb5.size
  have B5 := B4.trans (hb5.mono B4.size)
  have f4_5 := f4.keep hb5
  go_wp2_with fail
  refine (toTaskS_c _ x0 _ (r0.keep B5) z0).mono ?_
  rintro e w6 ⟨u6, rfl, f6, hb6⟩
  have s6 := hb6.size
  have B6 := B5.trans (hb6.mono B5.size)
  have f4_6 := f4_5.keep hb6
  obtain ⟨ua6, uc6, rfl⟩ := f6.form
  go_wp2_with fail
  refine (eqTaskS_b _ _ _ _ f4_6.r f6.r).mono ?_
  rintro e w7 ⟨rfl, hb7⟩
  have s7 := hb7.size
  have B7 := B6.trans (hb7.mono B6.size)
  have f4_7 := f4_6.keep hb7
  have f6_7 := f6.keep hb7
  go_wp2_with fail
  go_ret
  exact ⟨rfl, B7⟩

set_option maxRecDepth 100000 in
theorem fnExactEndWithDelay_lifted (os : Os) (started : os.Started) (H : Type) (enc : TypeId × Value → H) :
    ReturnsInHanded {} Try.checked os 7 .any (Rows.fnExactEndWithDelaySpec.pre6 enc Try.prog Try.f7 Rows.fnExactEndWithDelayRow.domain false) (Rows.fnExactEndWithDelaySpec.post enc Try.prog Try.f7 false true false false) := by
  refine returnsInHanded_of_change (C := Try.checked) Try.own' started (by kernel_rfl) Try.func7
    (ChangeSpec.witness6 (enc := enc) (C := Try.checked) false ⟨#[], #[.slice none 0 0, .int .i64 0, .int .i64 0], []⟩ 8 (by kernel_rfl) (by kernel_rfl) (by kernel_rfl) (by kernel_rfl)) ?_
  intro W base args ds gs before hval0 hW hcnd _
  have hval : ∀ (j : Nat) t v, Try.f7.params[j]? = some t → args[j]? = some v → Value.okWide Try.prog W .any base t v := hval0
  have hW' := hW
  obtain ⟨p, q, hA0, hV, rfl, hfz, hnd⟩ := hW
  have hA : DataW.TrodAll enc Try.prog W 0 (fun _ => true) true Try.f7.params.toList args.toList ds p := hA0
  rw [Try.params7] at hA hval
  obtain ⟨v0, vs0, d0, ds0, p0, q0, hargs, rfl, rfl, h0, t0⟩ := trodAll_cons hA
  obtain ⟨v1, vs1, d1, ds1, p1, q1, rfl, rfl, rfl, h1, t1⟩ := trodAll_cons t0
  obtain ⟨v2, vs2, d2, ds2, p2, q2, rfl, rfl, rfl, h2, t2⟩ := trodAll_cons t1
  obtain ⟨rfl, rfl, rfl⟩ := trodAll_nil t2
  obtain rfl : args = #[v0, v1, v2] := by cases args; simp_all
  obtain ⟨rfl, rfl⟩ := trodVars_none hV
  have k0 := h0
  have lt0 := trod_blocks k0
  obtain ⟨x0, r0, i0⟩ := open_rtasks (hval 0 22 v0 rfl rfl) h0
  obtain ⟨a1, rfl, rfl, rfl, w1⟩ := open_int Try.underlying3 (hval 1 3 v1 rfl rfl) h1
  have b1 := I64_of w1
  obtain ⟨a2, rfl, rfl, rfl, w2⟩ := open_int Try.underlying3 (hval 2 3 v2 rfl rfl) h2
  have b2 := I64_of w2
  clear hA0 hval0
  refine (FnExactEndWithDelay_c v0 x0 a1 a2 W r0).mono fun e W' ⟨he, bel⟩ => ?_
  subst he
  exact ⟨_, rfl, _, _, _, [], _, [], hW', trodAll_mk1 (shut_bool Try.underlying4 _), (trodAll_cons_mk (Below.trod Try.laidOut' (by kernel_rfl) (of_decide_eq_true (by kernel_rfl)) k0 bel lt0) (trodAll_cons_mk (shut_int Try.underlying3 w1) (trodAll_cons_mk (shut_int Try.underlying3 w2) trodAll_mk0))), rfl, bel.frame _, fun h => by cases h⟩

theorem fnExactEndWithDelay_holds : Rows.FnExactEndWithDelaySaid :=
  OpenClaim.holds_of_wide 7 Try.f7 rfl rfl rfl rfl rfl rfl rfl ⟨rfl, rfl, rfl, rfl, rfl⟩ rfl rfl rfl rfl rfl (by kernel_rfl) Try.func7 (by kernel_rfl)
    (of_decide_eq_true (by kernel_rfl)) (by unfold Func.isWrapper; first | (rw [if_pos (by decide +kernel)]; kernel_rfl) | (rw [if_neg (by decide +kernel)]; exact ⟨rfl, rfl⟩))
    (fun os started H enc _ => fnExactEndWithDelay_lifted os started H enc)

end Go.Proofs.Ytofojanpiebimaa
