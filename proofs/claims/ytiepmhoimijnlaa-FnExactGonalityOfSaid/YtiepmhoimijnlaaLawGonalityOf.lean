/- FnExactGonalityOf returns true for every input, and its arguments read as before. No condition. -/
import Derived.Test.YtiepmhoimijnlaaPenL
import Derived.Test.YtiepmhoimijnlaaOpenL
namespace Go.Proofs.Ytiepmhoimijnlaa
open Go.ChangeShapes Go.WideShapes Go.ChangeAt Go.RowKit
open Go.Lib (hid)

set_option maxRecDepth 100000 in
set_option maxHeartbeats 4000000 in
theorem FnExactGonalityOf_c (a0 : Int) (v1 : Value) (x1 : List Lnk) (w : World) (r1 : RLinks w v1 x1) :
    Calls Try.prog 7 #[.int .i64 a0, v1] w fun e w' => e = .returned (.bool true) ∧ Below w.heap.size w w' := by
  go_enter Try.func7, Try.ntmps7
  go_wp2_with fail
  refine (szLinkS_c _ x1 _ _ r1 (by omega) (by omega)).mono ?_
  rintro e w' ⟨rfl, rfl⟩
  by_cases z1n : (szI x1.length 1048576) < 0
  · go_wp2_with fail
    go_ret
    exact ⟨rfl, Below.refl _ _⟩
  have z1 := szL_small z1n (by omega)
  have z1r := szI_le (x1.length : Int) 1048576 (by omega) (by omega)
  go_wp2_with fail
  refine (toLinkS_c _ x1 _ r1 z1).mono ?_
  rintro e w1 ⟨u1, rfl, f1, hb1⟩
  have s1 := hb1.size
  have B1 := hb1
  obtain ⟨ua1, uc1, rfl⟩ := f1.form
  go_wp2_with fail
  refine (sGonalityOf_u _ _ x1 _ f1.r).mono ?_
  rintro e w2 ⟨rfl, hb2⟩
  have s2 := hb2.size
  have B2 := B1.trans (hb2.mono B1.size)
  go_wp2_with fail
  refine (toLinkS_c _ x1 _ (r1.keep B2) z1).mono ?_
  rintro e w3 ⟨u3, rfl, f3, hb3⟩
  have s3 := hb3.size
  have B3 := B2.trans (hb3.mono B2.size)
  obtain ⟨ua3, uc3, rfl⟩ := f3.form
  go_wp2_with fail
  refine (iGonalityOf_u _ _ x1 _ f3.r).mono ?_
  rintro e w4 ⟨rfl, hb4⟩
  have s4 := hb4.size
  have B4 := B3.trans (hb4.mono B3.size)
  have f3_4 := f3.keep hb4
  go_wp2_with fail
  refine (toLinkS_c _ x1 _ (r1.keep B4) z1).mono ?_
  rintro e w5 ⟨u5, rfl, f5, hb5⟩
  have s5 := hb5.size
  have B5 := B4.trans (hb5.mono B4.size)
  have f3_5 := f3_4.keep hb5
  obtain ⟨ua5, uc5, rfl⟩ := f5.form
  go_wp2_with fail
  refine (eqLinkS_b _ _ _ _ f3_5.r f5.r).mono ?_
  rintro e w6 ⟨rfl, hb6⟩
  have s6 := hb6.size
  have B6 := B5.trans (hb6.mono B5.size)
  have f3_6 := f3_5.keep hb6
  have f5_6 := f5.keep hb6
  go_wp2_with fail
  go_ret
  exact ⟨rfl, B6⟩

set_option maxRecDepth 100000 in
theorem fnExactGonalityOf_lifted (os : Os) (started : os.Started) (H : Type) (enc : TypeId × Value → H) :
    ReturnsInHanded {} Try.checked os 7 .any (Rows.fnExactGonalityOfSpec.pre6 enc Try.prog Try.f7 Rows.fnExactGonalityOfRow.domain false) (Rows.fnExactGonalityOfSpec.post enc Try.prog Try.f7 false true false false) := by
  refine returnsInHanded_of_change (C := Try.checked) Try.own' started (by kernel_rfl) Try.func7
    (ChangeSpec.witness6 (enc := enc) (C := Try.checked) false ⟨#[], #[.int .i64 0, .slice none 0 0], []⟩ 8 (by kernel_rfl) (by kernel_rfl) (by kernel_rfl) (by kernel_rfl)) ?_
  intro W base args ds gs before hval0 hW hcnd _
  have hval : ∀ (j : Nat) t v, Try.f7.params[j]? = some t → args[j]? = some v → Value.okWide Try.prog W .any base t v := hval0
  have hW' := hW
  obtain ⟨p, q, hA0, hV, rfl, hfz, hnd⟩ := hW
  have hA : DataW.TrodAll enc Try.prog W 0 (fun _ => true) true Try.f7.params.toList args.toList ds p := hA0
  rw [Try.params7] at hA hval
  obtain ⟨v0, vs0, d0, ds0, p0, q0, hargs, rfl, rfl, h0, t0⟩ := trodAll_cons hA
  obtain ⟨v1, vs1, d1, ds1, p1, q1, rfl, rfl, rfl, h1, t1⟩ := trodAll_cons t0
  obtain ⟨rfl, rfl, rfl⟩ := trodAll_nil t1
  obtain rfl : args = #[v0, v1] := by cases args; simp_all
  obtain ⟨rfl, rfl⟩ := trodVars_none hV
  obtain ⟨a0, rfl, rfl, rfl, w0⟩ := open_int Try.underlying3 (hval 0 3 v0 rfl rfl) h0
  have b0 := I64_of w0
  have k1 := h1
  have lt1 := trod_blocks k1
  obtain ⟨x1, r1, i1⟩ := open_rlinks (hval 1 22 v1 rfl rfl) h1
  clear hA0 hval0
  refine (FnExactGonalityOf_c a0 v1 x1 W r1).mono fun e W' ⟨he, bel⟩ => ?_
  subst he
  exact ⟨_, rfl, _, _, _, [], _, [], hW', trodAll_mk1 (shut_bool Try.underlying4 _), (trodAll_cons_mk (shut_int Try.underlying3 w0) (trodAll_cons_mk (Below.trod Try.laidOut' (by kernel_rfl) (of_decide_eq_true (by kernel_rfl)) k1 bel lt1) trodAll_mk0)), rfl, bel.frame _, fun h => by cases h⟩

theorem fnExactGonalityOf_holds : Rows.FnExactGonalityOfSaid :=
  OpenClaim.holds_of_wide 7 Try.f7 rfl rfl rfl rfl rfl rfl rfl ⟨rfl, rfl, rfl, rfl, rfl⟩ rfl rfl rfl rfl rfl (by kernel_rfl) Try.func7 (by kernel_rfl)
    (of_decide_eq_true (by kernel_rfl)) (by unfold Func.isWrapper; first | (rw [if_pos (by decide +kernel)]; kernel_rfl) | (rw [if_neg (by decide +kernel)]; exact ⟨rfl, rfl⟩))
    (fun os started H enc _ => fnExactGonalityOf_lifted os started H enc)

end Go.Proofs.Ytiepmhoimijnlaa
