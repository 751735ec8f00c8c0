/- FnExactIsBinaryTree returns true for every input, and its arguments read as before. No condition. -/
import Derived.Test.YtagjmakcooppoaaBinary
import Derived.Test.YtagjmakcooppoaaMark
import Derived.Test.YtagjmakcooppoaaOpen
namespace Go.Proofs.Ytagjmakcooppoaa
open Go.ChangeShapes Go.WideShapes Go.ChangeAt Go.RowKit
open Go.Lib (hid)

set_option maxRecDepth 100000 in
set_option maxHeartbeats 4000000 in
theorem FnExactIsBinaryTree_c (v0 : Value) (x0 : List (List Int)) (w : World) (r0 : RMat w v0 x0) :
    Calls Try.prog 11 #[v0] w fun e w' => e = .returned (.bool true) ∧ Below w.heap.size w w' := by
  go_enter Try.func11, Try.ntmps11
  go_wp2_with fail
  refine (szIntSS_c _ x0 _ _ r0 (by omega) (by omega)).mono ?_
  rintro e w' ⟨rfl, rfl⟩
  by_cases z0n : (szM x0 1048576) < 0
  · go_wp2_with fail
    go_ret
    exact ⟨rfl, Below.refl _ _⟩
  have z0s := szM_small z0n
  have z0r := szM_range (M := x0) (left := 1048576) (by omega)
  have z0 : (x0.length : Int) ≤ 1048576 ∧ ∀ r ∈ x0, (r.length : Int) ≤ 1048576 := ⟨by omega, fun r hr => by have := z0s.2 r hr; omega⟩
  clear z0s
  go_wp2_with fail
  refine (toIntSS_c _ x0 _ r0 z0).mono ?_
  rintro e w1 ⟨u1, rfl, f1, hb1⟩
  have s1 := hb1.size
  have B1 := hb1
  obtain ⟨ua1, uc1, rfl⟩ := f1.form
  go_wp2_with fail
  refine (sIsBinaryTree_u _ x0 _ f1.r).mono ?_
  rintro e w2 ⟨rfl, hb2⟩
  have s2 := hb2.size
  have B2 := B1.trans (hb2.mono B1.size)
  go_wp2_with fail
  refine (toIntSS_c _ x0 _ (r0.keep B2) z0).mono ?_
  rintro e w3 ⟨u3, rfl, f3, hb3⟩
  have s3 := hb3.size
  have B3 := B2.trans (hb3.mono B2.size)
  obtain ⟨ua3, uc3, rfl⟩ := f3.form
  go_wp2_with fail
  refine (iIsBinaryTree_u _ x0 _ f3.r).mono ?_
  rintro e w4 ⟨rfl, hb4⟩
  have s4 := hb4.size
  have B4 := B3.trans (hb4.mono B3.size)
  have f3_4 := f3.keep hb4
  go_wp2_with fail
  refine (toIntSS_c _ x0 _ (r0.keep B4) z0).mono ?_
  rintro e w5 ⟨u5, rfl, f5, hb5⟩
  have s5 := hb5.size
  have B5 := B4.trans (hb5.mono B4.size)
  have f3_5 := f3_4.keep hb5
  obtain ⟨ua5, uc5, rfl⟩ := f5.form
  go_wp2_with fail
  refine (eqIntSS_b _ _ _ _ _ f3_5.r f5.r).mono ?_
  rintro e w6 ⟨rfl, hb6⟩
  have s6 := hb6.size
  have B6 := B5.trans (hb6.mono B5.size)
  have f3_6 := f3_5.keep hb6
  have f5_6 := f5.keep hb6
  go_wp2_with fail
  go_ret
  exact ⟨rfl, B6⟩

set_option maxRecDepth 100000 in
theorem fnExactIsBinaryTree_lifted (os : Os) (started : os.Started) (H : Type) (enc : TypeId × Value → H) :
    ReturnsInHanded {} Try.checked os 11 .any (Rows.fnExactIsBinaryTreeSpec.pre6 enc Try.prog Try.f11 Rows.fnExactIsBinaryTreeRow.domain false) (Rows.fnExactIsBinaryTreeSpec.post enc Try.prog Try.f11 false true false false) := by
  refine returnsInHanded_of_change (C := Try.checked) Try.own' started (by kernel_rfl) Try.func11
    (ChangeSpec.witness6 (enc := enc) (C := Try.checked) false ⟨#[], #[.slice none 0 0], []⟩ 8 (by kernel_rfl) (by kernel_rfl) (by kernel_rfl) (by kernel_rfl)) ?_
  intro W base args ds gs before hval0 hW hcnd _
  have hval : ∀ (j : Nat) t v, Try.f11.params[j]? = some t → args[j]? = some v → Value.okWide Try.prog W .any base t v := hval0
  have hW' := hW
  obtain ⟨p, q, hA0, hV, rfl, hfz, hnd⟩ := hW
  have hA : DataW.TrodAll enc Try.prog W 0 (fun _ => true) true Try.f11.params.toList args.toList ds p := hA0
  rw [Try.params11] at hA hval
  obtain ⟨v0, vs0, d0, ds0, p0, q0, hargs, rfl, rfl, h0, t0⟩ := trodAll_cons hA
  obtain ⟨rfl, rfl, rfl⟩ := trodAll_nil t0
  obtain rfl : args = #[v0] := by cases args; simp_all
  obtain ⟨rfl, rfl⟩ := trodVars_none hV
  have k0 := h0
  have lt0 := trod_blocks k0
  obtain ⟨x0, r0, i0⟩ := open_rmat (hval 0 22 v0 rfl rfl) h0
  clear hA0 hval0
  refine (FnExactIsBinaryTree_c v0 x0 W r0).mono fun e W' ⟨he, bel⟩ => ?_
  subst he
  exact ⟨_, rfl, _, _, _, [], _, [], hW', trodAll_mk1 (shut_bool Try.underlying4 _), (trodAll_cons_mk (Below.trod Try.laidOut' (by kernel_rfl) (of_decide_eq_true (by kernel_rfl)) k0 bel lt0) trodAll_mk0), rfl, bel.frame _, fun h => by cases h⟩

theorem fnExactIsBinaryTree_holds : Rows.FnExactIsBinaryTreeSaid :=
  OpenClaim.holds_of_wide 11 Try.f11 rfl rfl rfl rfl rfl rfl rfl ⟨rfl, rfl, rfl, rfl, rfl⟩ rfl rfl rfl rfl rfl (by kernel_rfl) Try.func11 (by kernel_rfl)
    (of_decide_eq_true (by kernel_rfl)) (by unfold Func.isWrapper; first | (rw [if_pos (by decide +kernel)]; kernel_rfl) | (rw [if_neg (by decide +kernel)]; exact ⟨rfl, rfl⟩))
    (fun os started H enc _ => fnExactIsBinaryTree_lifted os started H enc)

end Go.Proofs.Ytagjmakcooppoaa
