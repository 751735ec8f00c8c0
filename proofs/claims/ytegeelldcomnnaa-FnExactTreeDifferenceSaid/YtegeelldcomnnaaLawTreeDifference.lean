/- FnExactTreeDifference returns true for every input, and its arguments read as before. No condition. -/
import Derived.Test.YtegeelldcomnnaaDiff
import Derived.Test.YtegeelldcomnnaaOpen
namespace Go.Proofs.Ytegeelldcomnnaa
open Go.ChangeShapes Go.WideShapes Go.ChangeAt Go.RowKit
open Go.Lib (hid)

set_option maxRecDepth 100000 in
set_option maxHeartbeats 4000000 in
theorem FnExactTreeDifference_c (v0 : Value) (x0 : List (List Int)) (v1 : Value) (x1 : List (List Int)) (w : World) (r0 : RMat w v0 x0) (r1 : RMat w v1 x1) :
    Calls Try.prog 3 #[v0, v1] w fun e w' => e = .returned (.bool true) ∧ Below w.heap.size w w' := by
  go_enter Try.func3, Try.ntmps3
  go_wp2_with fail
  refine (szIntSS_c _ x0 _ _ r0 (by omega) (by omega)).mono ?_
  rintro e w' ⟨rfl, rfl⟩
  by_cases z0n : (szM x0 1048576) < 0
  · go_wp2_with fail
    go_ret
    exact ⟨rfl, Below.refl _ _⟩
  have z0s := szM_small z0n
  have z0r := szM_range (M := x0) (left := 1048576) (by omega)
  have z0 : (x0.length : Int) ≤ 1048576 ∧ ∀ r ∈ x0, (r.length : Int) ≤ 1048576 := ⟨by omega, fun r hr => by have := z0s.2 r hr; omega⟩
  clear z0s
  go_wp2_with fail
  refine (szIntSS_c _ x1 _ _ r1 (by omega) (by omega)).mono ?_
  rintro e w' ⟨rfl, rfl⟩
  by_cases z1n : (szM x1 (szM x0 1048576)) < 0
  · go_wp2_with fail
    go_ret
    exact ⟨rfl, Below.refl _ _⟩
  have z1s := szM_small z1n
  have z1r := szM_range (M := x1) (left := (szM x0 1048576)) (by omega)
  have z1 : (x1.length : Int) ≤ 1048576 ∧ ∀ r ∈ x1, (r.length : Int) ≤ 1048576 := ⟨by omega, fun r hr => by have := z1s.2 r hr; omega⟩
  clear z1s
  go_wp2_with fail
  refine (toIntSS_c _ x0 _ r0 z0).mono ?_
  rintro e w1 ⟨u1, rfl, f1, hb1⟩
  have s1 := hb1.size
  have B1 := hb1
  obtain ⟨ua1, uc1, rfl⟩ := f1.form
  go_wp2_with fail
  refine (toIntSS_c _ x1 _ (r1.keep B1) z1).mono ?_
  rintro e w2 ⟨u2, rfl, f2, hb2⟩
  have s2 := hb2.size
  have B2 := B1.trans (hb2.mono B1.size)
  have f1_2 := f1.keep hb2
  obtain ⟨ua2, uc2, rfl⟩ := f2.form
  go_wp2_with fail
  refine (sTreeDifference_u _ x0 _ x1 _ f1_2.r f2.r).mono ?_
  rintro e w3 ⟨rfl, hb3⟩
  have s3 := hb3.size
  have B3 := B2.trans (hb3.mono B2.size)
  go_wp2_with fail
  refine (toIntSS_c _ x0 _ (r0.keep B3) z0).mono ?_
  rintro e w4 ⟨u4, rfl, f4, hb4⟩
  have s4 := hb4.size
  have B4 := B3.trans (hb4.mono B3.size)
  obtain ⟨ua4, uc4, rfl⟩ := f4.form
  go_wp2_with fail
  refine (toIntSS_c _ x1 _ (r1.keep B4) z1).mono ?_
  rintro e w5 ⟨u5, rfl, f5, hb5⟩
  have s5 := hb5.size
  have B5 := B4.trans (hb5.mono B4.size)
  have f4_5 := f4.keep hb5
  obtain ⟨ua5, uc5, rfl⟩ := f5.form
  go_wp2_with fail
  refine (iTreeDifference_u _ x0 _ x1 _ f4_5.r f5.r).mono ?_
  rintro e w6 ⟨rfl, hb6⟩
  have s6 := hb6.size
  have B6 := B5.trans (hb6.mono B5.size)
  have f4_6 := f4_5.keep hb6
  have f5_6 := f5.keep hb6
  go_wp2_with fail
  refine (toIntSS_c _ x0 _ (r0.keep B6) z0).mono ?_
  rintro e w7 ⟨u7, rfl, f7, hb7⟩
  have s7 := hb7.size
  have B7 := B6.trans (hb7.mono B6.size)
  have f4_7 := f4_6.keep hb7
  have f5_7 := f5_6.keep hb7
  obtain ⟨ua7, uc7, rfl⟩ := f7.form
  go_wp2_with fail
  refine (eqIntSS_b _ _ _ _ _ f4_7.r f7.r).mono ?_
  rintro e w8 ⟨rfl, hb8⟩
  have s8 := hb8.size
  have B8 := B7.trans (hb8.mono B7.size)
  have f4_8 := f4_7.keep hb8
  have f5_8 := f5_7.keep hb8
  have f7_8 := f7.keep hb8
  go_wp2_with fail
  refine (toIntSS_c _ x1 _ (r1.keep B8) z1).mono ?_
  rintro e w9 ⟨u9, rfl, f9, hb9⟩
  have s9 := hb9.size
  have B9 := B8.trans (hb9.mono B8.size)
  have f4_9 := f4_8.keep hb9
  have f5_9 := f5_8.keep hb9
  obtain ⟨ua9, uc9, rfl⟩ := f9.form
  go_wp2_with fail
  refine (eqIntSS_b _ _ _ _ _ f5_9.r f9.r).mono ?_
  rintro e w10 ⟨rfl, hb10⟩
  have s10 := hb10.size
  have B10 := B9.trans (hb10.mono B9.size)
  have f4_10 := f4_9.keep hb10
  have f5_10 := f5_9.keep hb10
  have f9_10 := f9.keep hb10
  go_wp2_with fail
  go_ret
  exact ⟨rfl, B10⟩

set_option maxRecDepth 100000 in
theorem fnExactTreeDifference_lifted (os : Os) (started : os.Started) (H : Type) (enc : TypeId × Value → H) :
    ReturnsInHanded {} Try.checked os 3 .any (Rows.fnExactTreeDifferenceSpec.pre6 enc Try.prog Try.f3 Rows.fnExactTreeDifferenceRow.domain false) (Rows.fnExactTreeDifferenceSpec.post enc Try.prog Try.f3 false true false false) := by
  refine returnsInHanded_of_change (C := Try.checked) Try.own' started (by kernel_rfl) Try.func3
    (ChangeSpec.witness6 (enc := enc) (C := Try.checked) false ⟨#[], #[.slice none 0 0, .slice none 0 0], []⟩ 8 (by kernel_rfl) (by kernel_rfl) (by kernel_rfl) (by kernel_rfl)) ?_
  intro W base args ds gs before hval0 hW hcnd _
  have hval : ∀ (j : Nat) t v, Try.f3.params[j]? = some t → args[j]? = some v → Value.okWide Try.prog W .any base t v := hval0
  have hW' := hW
  obtain ⟨p, q, hA0, hV, rfl, hfz, hnd⟩ := hW
  have hA : DataW.TrodAll enc Try.prog W 0 (fun _ => true) true Try.f3.params.toList args.toList ds p := hA0
  rw [Try.params3] at hA hval
  obtain ⟨v0, vs0, d0, ds0, p0, q0, hargs, rfl, rfl, h0, t0⟩ := trodAll_cons hA
  obtain ⟨v1, vs1, d1, ds1, p1, q1, rfl, rfl, rfl, h1, t1⟩ := trodAll_cons t0
  obtain ⟨rfl, rfl, rfl⟩ := trodAll_nil t1
  obtain rfl : args = #[v0, v1] := by cases args; simp_all
  obtain ⟨rfl, rfl⟩ := trodVars_none hV
  have k0 := h0
  have lt0 := trod_blocks k0
  obtain ⟨x0, r0, i0⟩ := open_rmat (hval 0 22 v0 rfl rfl) h0
  have k1 := h1
  have lt1 := trod_blocks k1
  obtain ⟨x1, r1, i1⟩ := open_rmat (hval 1 22 v1 rfl rfl) h1
  clear hA0 hval0
  refine (FnExactTreeDifference_c v0 x0 v1 x1 W r0 r1).mono fun e W' ⟨he, bel⟩ => ?_
  subst he
  exact ⟨_, rfl, _, _, _, [], _, [], hW', trodAll_mk1 (shut_bool Try.underlying4 _), (trodAll_cons_mk (Below.trod Try.laidOut' (by kernel_rfl) (of_decide_eq_true (by kernel_rfl)) k0 bel lt0) (trodAll_cons_mk (Below.trod Try.laidOut' (by kernel_rfl) (of_decide_eq_true (by kernel_rfl)) k1 bel lt1) trodAll_mk0)), rfl, bel.frame _, fun h => by cases h⟩

theorem fnExactTreeDifference_holds : Rows.FnExactTreeDifferenceSaid :=
  OpenClaim.holds_of_wide 3 Try.f3 rfl rfl rfl rfl rfl rfl rfl ⟨rfl, rfl, rfl, rfl, rfl⟩ rfl rfl rfl rfl rfl (by kernel_rfl) Try.func3 (by kernel_rfl)
    (of_decide_eq_true (by kernel_rfl)) (by unfold Func.isWrapper; first | (rw [if_pos (by decide +kernel)]; kernel_rfl) | (rw [if_neg (by decide +kernel)]; exact ⟨rfl, rfl⟩))
    (fun os started H enc _ => fnExactTreeDifference_lifted os started H enc)

end Go.Proofs.Ytegeelldcomnnaa
