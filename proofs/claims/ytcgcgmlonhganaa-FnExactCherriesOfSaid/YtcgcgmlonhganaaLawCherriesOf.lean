/- FnExactCherriesOf returns true for every input, and its arguments read as before. No condition. -/
import Derived.Test.YtcgcgmlonhganaaCherS
import Derived.Test.YtcgcgmlonhganaaMark
import Derived.Test.YtcgcgmlonhganaaOpen
namespace Go.Proofs.Ytcgcgmlonhganaa
open Go.ChangeShapes Go.WideShapes Go.ChangeAt Go.RowKit
open Go.Lib (hid)

theorem cherries_tot (M : List (List Int)) : tot (cherriesB M).1 ≤ 1099511627776 := by
  by_cases h : treeB M = true ∧ 3 ≤ M.length
  · rw [cherriesB_yes h.1 h.2]
    show tot (cheL M) ≤ _
    have hm : metB M = true := by have := h.1; unfold treeB at this; exact (Bool.and_eq_true _ _ ▸ this).1
    have hn := (metB_parts hm).2.1
    refine tot_small ⟨by have := cheL_len M (by omega); omega, fun r hr => ?_⟩
    unfold cheL at hr
    simp only [List.mem_flatMap, List.mem_map] at hr
    obtain ⟨i, _, j, _, rfl⟩ := hr
    simp
  · have : cherriesB M = ([], false) := by
      by_cases h1 : treeB M = true
      · exact cherriesB_no2 (fun h2 => h ⟨h1, h2⟩)
      · exact cherriesB_no1 (by simpa using h1)
    rw [this]; simp [tot]

set_option maxRecDepth 100000 in
set_option maxHeartbeats 4000000 in
theorem FnExactCherriesOf_c (v0 : Value) (x0 : List (List Int)) (w : World) (r0 : RMat w v0 x0) :
    Calls Try.prog 4 #[v0] w fun e w' => e = .returned (.bool true) ∧ Below w.heap.size w w' := by
  go_enter Try.func4, Try.ntmps4
  go_wp2_with fail
  refine (szIntSS_c _ x0 _ _ r0 (by omega) (by omega)).mono ?_
  rintro e w' ⟨rfl, rfl⟩
  by_cases z0n : (szM x0 1048576) < 0
  · go_wp2_with fail
    go_ret
    exact ⟨rfl, Below.refl _ _⟩
  have z0s := szM_small z0n
  have z0r := szM_range (M := x0) (left := 1048576) (by omega)
  have z0 : (x0.length : Int) ≤ 1048576 ∧ ∀ r ∈ x0, (r.length : Int) ≤ 1048576 := ⟨by omega, fun r hr => by have := z0s.2 r hr; omega⟩
  clear z0s
  go_wp2_with fail
  refine (toIntSS_c _ x0 _ r0 z0).mono ?_
  rintro e w1 ⟨u1, rfl, f1, hb1⟩
  have s1 := hb1.size
  have B1 := hb1
  obtain ⟨ua1, uc1, rfl⟩ := f1.form
  go_wp2_with fail
  refine (sCherriesOf_u _ x0 _ f1.r).mono ?_
  rintro e w2 ⟨u2_0, rfl, f2_0, hb2⟩
  have s2 := hb2.size
  have B2 := B1.trans (hb2.mono B1.size)
  obtain ⟨ua2_0, uc2_0, rfl⟩ := f2_0.form
  go_wp2_with fail
  refine (toIntSS_c _ x0 _ (r0.keep B2) z0).mono ?_
  rintro e w3 ⟨u3, rfl, f3, hb3⟩
  have s3 := hb3.size
  have B3 := B2.trans (hb3.mono B2.size)
  have f2_0_3 := f2_0.keep hb3
  obtain ⟨ua3, uc3, rfl⟩ := f3.form
  go_wp2_with fail
  refine (iCherriesOf_u _ x0 _ f3.r).mono ?_
  rintro e w4 ⟨u4_0, rfl, f4_0, hb4⟩
  have s4 := hb4.size
  have B4 := B3.trans (hb4.mono B3.size)
  have f2_0_4 := f2_0_3.keep hb4
  have f3_4 := f3.keep hb4
  obtain ⟨ua4_0, uc4_0, rfl⟩ := f4_0.form
  go_wp2_with fail
  refine (eqIntSS_b _ _ _ _ _ f4_0.r f2_0_4.r).mono ?_
  rintro e w5 ⟨rfl, hb5⟩
  have s5 := hb5.size
  have B5 := B4.trans (hb5.mono B4.size)
  have f2_0_5 := f2_0_4.keep hb5
  have f3_5 := f3_4.keep hb5
  have f4_0_5 := f4_0.keep hb5
  go_wp2_with fail
  refine (toIntSS_c _ x0 _ (r0.keep B5) z0).mono ?_
  rintro e w6 ⟨u6, rfl, f6, hb6⟩
  have s6 := hb6.size
  have B6 := B5.trans (hb6.mono B5.size)
  have f2_0_6 := f2_0_5.keep hb6
  have f3_6 := f3_5.keep hb6
  have f4_0_6 := f4_0_5.keep hb6
  obtain ⟨ua6, uc6, rfl⟩ := f6.form
  go_wp2_with fail
  refine (eqIntSS_b _ _ _ _ _ f3_6.r f6.r).mono ?_
  rintro e w7 ⟨rfl, hb7⟩
  have s7 := hb7.size
  have B7 := B6.trans (hb7.mono B6.size)
  have f2_0_7 := f2_0_6.keep hb7
  have f3_7 := f3_6.keep hb7
  have f4_0_7 := f4_0_6.keep hb7
  have f6_7 := f6.keep hb7
  go_wp2_with fail
  have t8 := tot_small z0
  refine (markIntSS_c _ _ _ _ _ _ f3_7 (by omega) (by omega)).mono ?_
  rintro e w8 ⟨rfl, f8, ht8⟩
  have s8 := ht8.size
  have B8 := B7.trans (ht8.below (by omega) (by omega) : Below w.heap.size _ _)
  have f2_0_8 := f2_0_7.same (.of_touch ht8 (by omega))
  have f4_0_8 := f4_0_7.same (.of_touch ht8 (by omega))
  go_wp2_with fail
  refine (eqIntSS_b _ _ _ _ _ f4_0_8.r f2_0_8.r).mono ?_
  rintro e w9 ⟨rfl, hb9⟩
  have s9 := hb9.size
  have B9 := B8.trans (hb9.mono B8.size)
  have f2_0_9 := f2_0_8.keep hb9
  have f8_9 := f8.keep hb9
  have f4_0_9 := f4_0_8.keep hb9
  go_wp2_with fail
  have t10 := cherries_tot x0
  refine (markIntSS_c _ _ _ _ _ _ f4_0_9 (by omega) (by omega)).mono ?_
  rintro e w10 ⟨rfl, f10, ht10⟩
  have s10 := ht10.size
  have B10 := B9.trans (ht10.below (by omega) (by omega) : Below w.heap.size _ _)
  have f2_0_10 := f2_0_9.same (.of_touch ht10 (by omega))
  have f8_10 := f8_9.same (.of_touch ht10 (by omega))
  go_wp2_with fail
  refine (heldIntSS_c _ (cherriesB x0).1 _ _ f10.r (by omega) (by omega)).mono ?_
  rintro e w' ⟨rfl, rfl⟩
  go_wp2_with fail
  refine (toIntSS_c _ x0 _ (r0.keep B10) z0).mono ?_
  rintro e w11 ⟨u11, rfl, f11, hb11⟩
  have s11 := hb11.size
  have B11 := B10.trans (hb11.mono B10.size)
  have f2_0_11 := f2_0_10.keep hb11
  have f8_11 := f8_10.keep hb11
  have f10_11 := f10.keep hb11
  obtain ⟨ua11, uc11, rfl⟩ := f11.form
  go_wp2_with fail
  refine (iCherriesOf_u _ x0 _ f11.r).mono ?_
  rintro e w12 ⟨u12_0, rfl, f12_0, hb12⟩
  have s12 := hb12.size
  have B12 := B11.trans (hb12.mono B11.size)
  have f2_0_12 := f2_0_11.keep hb12
  have f8_12 := f8_11.keep hb12
  have f10_12 := f10_11.keep hb12
  obtain ⟨ua12_0, uc12_0, rfl⟩ := f12_0.form
  go_wp2_with fail
  refine (eqIntSS_b _ _ _ _ _ f12_0.r f2_0_12.r).mono ?_
  rintro e w13 ⟨rfl, hb13⟩
  have s13 := hb13.size
  have B13 := B12.trans (hb13.mono B12.size)
  have f2_0_13 := f2_0_12.keep hb13
  have f8_13 := f8_12.keep hb13
  have f10_13 := f10_12.keep hb13
  have f12_0_13 := f12_0.keep hb13
  go_wp2_with fail
  refine (heldIntSS_c _ (cherriesB x0).1 _ _ f10_13.r (by omega) (by omega)).mono ?_
  rintro e w' ⟨rfl, rfl⟩
  go_wp2_with fail
  go_ret
  exact ⟨rfl, B13⟩

set_option maxRecDepth 100000 in
theorem fnExactCherriesOf_lifted (os : Os) (started : os.Started) (H : Type) (enc : TypeId × Value → H) :
    ReturnsInHanded {} Try.checked os 4 .any (Rows.fnExactCherriesOfSpec.pre6 enc Try.prog Try.f4 Rows.fnExactCherriesOfRow.domain false) (Rows.fnExactCherriesOfSpec.post enc Try.prog Try.f4 false true false false) := by
  refine returnsInHanded_of_change (C := Try.checked) Try.own' started (by kernel_rfl) Try.func4
    (ChangeSpec.witness6 (enc := enc) (C := Try.checked) false ⟨#[], #[.slice none 0 0], []⟩ 8 (by kernel_rfl) (by kernel_rfl) (by kernel_rfl) (by kernel_rfl)) ?_
  intro W base args ds gs before hval0 hW hcnd _
  have hval : ∀ (j : Nat) t v, Try.f4.params[j]? = some t → args[j]? = some v → Value.okWide Try.prog W .any base t v := hval0
  have hW' := hW
  obtain ⟨p, q, hA0, hV, rfl, hfz, hnd⟩ := hW
  have hA : DataW.TrodAll enc Try.prog W 0 (fun _ => true) true Try.f4.params.toList args.toList ds p := hA0
  rw [Try.params4] at hA hval
  obtain ⟨v0, vs0, d0, ds0, p0, q0, hargs, rfl, rfl, h0, t0⟩ := trodAll_cons hA
  obtain ⟨rfl, rfl, rfl⟩ := trodAll_nil t0
  obtain rfl : args = #[v0] := by cases args; simp_all
  obtain ⟨rfl, rfl⟩ := trodVars_none hV
  have k0 := h0
  have lt0 := trod_blocks k0
  obtain ⟨x0, r0, i0⟩ := open_rmat (hval 0 22 v0 rfl rfl) h0
  clear hA0 hval0
  refine (FnExactCherriesOf_c v0 x0 W r0).mono fun e W' ⟨he, bel⟩ => ?_
  subst he
  exact ⟨_, rfl, _, _, _, [], _, [], hW', trodAll_mk1 (shut_bool Try.underlying4 _), (trodAll_cons_mk (Below.trod Try.laidOut' (by kernel_rfl) (of_decide_eq_true (by kernel_rfl)) k0 bel lt0) trodAll_mk0), rfl, bel.frame _, fun h => by cases h⟩

theorem fnExactCherriesOf_holds : Rows.FnExactCherriesOfSaid :=
  OpenClaim.holds_of_wide 4 Try.f4 rfl rfl rfl rfl rfl rfl rfl ⟨rfl, rfl, rfl, rfl, rfl⟩ rfl rfl rfl rfl rfl (by kernel_rfl) Try.func4 (by kernel_rfl)
    (of_decide_eq_true (by kernel_rfl)) (by unfold Func.isWrapper; first | (rw [if_pos (by decide +kernel)]; kernel_rfl) | (rw [if_neg (by decide +kernel)]; exact ⟨rfl, rfl⟩))
    (fun os started H enc _ => fnExactCherriesOf_lifted os started H enc)

end Go.Proofs.Ytcgcgmlonhganaa
