/- FnExactAreCompatible returns true for every input, and its arguments read as before. No condition. -/
import Derived.Test.YtjgnmpoccmmpjaaFit
import Derived.Test.YtjgnmpoccmmpjaaOpen
namespace Go.Proofs.Ytjgnmpoccmmpjaa
open Go.ChangeShapes Go.WideShapes Go.ChangeAt Go.RowKit
open Go.Lib (hid)

set_option maxHeartbeats 400000 in
theorem FnExactAreCompatible_c (n : Int) (v u : Value) (a b : List Int) (w : World) (h : RInts w v a) (h' : RInts w u b) :
    Calls Try.prog 4 #[.int .i64 n, v, u] w fun e w' => e = .returned (.bool true) ∧ Below w.heap.size w w' := by
  have hR := h
  have hR' := h'
  obtain ⟨ad, cap, rfl, h1, h2, hc⟩ := h
  obtain ⟨ad', cap', rfl, h1', h2', hc'⟩ := h'
  clear hc hc'
  unfold maxLen at h2 h2'
  by_cases hl : a.length ≤ 1048576 <;> by_cases hl' : b.length ≤ 1048576
  · go_enter Try.func4, Try.ntmps4
    go_wp2_with fail
    refine (toIntS_c _ a _ hR hl).mono ?_
    rintro e w1 ⟨u1, rfl, hu1, hb1⟩
    go_wp2_with fail
    refine (toIntS_c _ b _ (hR'.keep hb1) hl').mono ?_
    rintro e w2 ⟨u2, rfl, hu2, hb2⟩
    have B2 := hb1.trans (hb2.mono hb1.size)
    go_wp2_with fail
    refine (sAreCompatible_c _ _ _ a b _ (hu1.r.keep hb2) hu2.r).mono ?_
    rintro e w2' ⟨rfl, rfl⟩
    go_wp2_with fail
    refine (toIntS_c _ a _ (hR.keep B2) hl).mono ?_
    rintro e w3 ⟨u3, rfl, hu3, hb3⟩
    have B3 := B2.trans (hb3.mono B2.size)
    go_wp2_with fail
    refine (toIntS_c _ b _ (hR'.keep B3) hl').mono ?_
    rintro e w4 ⟨u4, rfl, hu4, hb4⟩
    have B4 := B3.trans (hb4.mono B3.size)
    have hu3' := hu3.keep hb4
    go_wp2_with fail
    refine (iAreCompatible_c _ _ _ a b _ hu3'.r hu4.r).mono ?_
    rintro e w4' ⟨rfl, rfl⟩
    go_wp2_with fail
    refine (toIntS_c _ a _ (hR.keep B4) hl).mono ?_
    rintro e w5 ⟨u5, rfl, hu5, hb5⟩
    have B5 := B4.trans (hb5.mono B4.size)
    go_wp2_with fail
    refine (eqIntS_c _ _ a a _ (hu3'.r.keep hb5) hu5.r).mono ?_
    rintro e w5' ⟨rfl, k, rfl⟩
    have B5' := below_drewN B5 k
    go_wp2_with fail
    refine (toIntS_c _ b _ (hR'.keep B5') hl').mono ?_
    rintro e w6 ⟨u6, rfl, hu6, hb6⟩
    have B6 := B5'.trans (hb6.mono B5'.size)
    go_wp2_with fail
    refine (eqIntS_c _ _ b b _ (((hu4.keep hb5).drewN (n := k)).keep hb6).r hu6.r).mono ?_
    rintro e w6' ⟨rfl, k', rfl⟩
    go_wp2_with fail
    go_ret
    exact ⟨rfl, below_drewN B6 _⟩
  all_goals
    go_enter Try.func4, Try.ntmps4
    go_wp2
    go_ret
    exact ⟨rfl, Below.refl _ _⟩

set_option maxRecDepth 100000 in
theorem fnExactAreCompatible_lifted (os : Os) (started : os.Started) (H : Type) (enc : TypeId × Value → H) :
    ReturnsInHanded {} Try.checked os 4 .any (Rows.fnExactAreCompatibleSpec.pre6 enc Try.prog Try.f4 Rows.fnExactAreCompatibleRow.domain false) (Rows.fnExactAreCompatibleSpec.post enc Try.prog Try.f4 false true false false) := by
  refine returnsInHanded_of_change (C := Try.checked) Try.own' started (by kernel_rfl) Try.func4
    (ChangeSpec.witness6 (enc := enc) (C := Try.checked) false ⟨#[], #[.int .i64 0, .slice none 0 0, .slice none 0 0], []⟩ 8 (by kernel_rfl) (by kernel_rfl) (by kernel_rfl) (by kernel_rfl)) ?_
  intro W base args ds gs before hval0 hW hcnd _
  have hval : ∀ (j : Nat) t v, Try.f4.params[j]? = some t → args[j]? = some v → Value.okWide Try.prog W .any base t v := hval0
  have hW' := hW
  obtain ⟨p, q, hA0, hV, rfl, hfz, hnd⟩ := hW
  have hA : DataW.TrodAll enc Try.prog W 0 (fun _ => true) true Try.f4.params.toList args.toList ds p := hA0
  rw [Try.params4] at hA hval
  obtain ⟨v0, vs0, d0, ds0, p0, q0, hargs, rfl, rfl, h0, t0⟩ := trodAll_cons hA
  obtain ⟨v1, vs1, d1, ds1, p1, q1, rfl, rfl, rfl, h1, t1⟩ := trodAll_cons t0
  obtain ⟨v2, vs2, d2, ds2, p2, q2, rfl, rfl, rfl, h2, t2⟩ := trodAll_cons t1
  obtain ⟨rfl, rfl, rfl⟩ := trodAll_nil t2
  obtain rfl : args = #[v0, v1, v2] := by cases args; simp_all
  obtain ⟨rfl, rfl⟩ := trodVars_none hV
  obtain ⟨a0, rfl, rfl, rfl, w0⟩ := open_int Try.underlying3 (hval 0 3 v0 rfl rfl) h0
  have b0 := I64_of w0
  have k1 := h1
  have lt1 := trod_blocks k1
  obtain ⟨x1, r1, i1⟩ := open_rints (hval 1 22 v1 rfl rfl) h1
  have k2 := h2
  have lt2 := trod_blocks k2
  obtain ⟨x2, r2, i2⟩ := open_rints (hval 2 22 v2 rfl rfl) h2
  clear hA0 hval0
  refine (FnExactAreCompatible_c a0 v1 v2 x1 x2 W r1 r2).mono fun e W' ⟨he, bel⟩ => ?_
  subst he
  exact ⟨_, rfl, _, _, _, [], _, [], hW', trodAll_mk1 (shut_bool Try.underlying4 _), (trodAll_cons_mk (shut_int Try.underlying3 w0) (trodAll_cons_mk (Below.trod Try.laidOut' (by kernel_rfl) (of_decide_eq_true (by kernel_rfl)) k1 bel lt1) (trodAll_cons_mk (Below.trod Try.laidOut' (by kernel_rfl) (of_decide_eq_true (by kernel_rfl)) k2 bel lt2) trodAll_mk0))), rfl, bel.frame _, fun h => by cases h⟩

theorem fnExactAreCompatible_holds : Rows.FnExactAreCompatibleSaid :=
  OpenClaim.holds_of_wide 4 Try.f4 rfl rfl rfl rfl rfl rfl rfl ⟨rfl, rfl, rfl, rfl, rfl⟩ rfl rfl rfl rfl rfl (by kernel_rfl) Try.func4 (by kernel_rfl)
    (of_decide_eq_true (by kernel_rfl)) (by unfold Func.isWrapper; first | (rw [if_pos (by decide +kernel)]; kernel_rfl) | (rw [if_neg (by decide +kernel)]; exact ⟨rfl, rfl⟩))
    (fun os started H enc _ => fnExactAreCompatible_lifted os started H enc)

end Go.Proofs.Ytjgnmpoccmmpjaa
