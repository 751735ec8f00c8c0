/- The inner splits, and binary trees, of both programs. -/
import Derived.Test.YtcgcgmlonhganaaGreatSplitsOf
namespace Go.Proofs.YtcgcgmlonhganaaGreat
open Go.RowKit
open Go.Lib (hid)

theorem omat_nil_ (w1 : World) : OMat w1 w1.heap.size (.slice none 0 0) [] := omat_nil _ _
theorem omat_e_ (w1 : World) : OMat (w1.alloc (.cells #[] 33)) w1.heap.size (.slice (some ⟨w1.heap.size, 0, none⟩) 0 0) [] := omat_empty _ _ (Nat.le_refl _)
theorem below_r (w1 : World) : Below w1.heap.size w1 w1 := Below.refl _ _
theorem below_a (w1 : World) : Below w1.heap.size w1 (w1.alloc (.cells #[] 33)) := (Below.refl _ _).alloc (Nat.le_refl _) _
def innerP (M : List (List Int)) (s : List Int) : Bool := inB (s.length : Int) 2 ((M.length : Int) - 2)
/-- the inner splits -/
def innerL (M : List (List Int)) : List (List Int) := (splL M).filter (innerP M)

set_option maxRecDepth 100000 in
set_option maxHeartbeats 2000000 in
theorem slInner_c (v : Value) (M : List (List Int)) (w : World) (hm : metB M = true) (h : RMat w v M) :
    Calls Tryz.prog 28 #[v] w (RetMat w (innerL M)) := by
  have hp := metB_parts hm
  have hn2 := hp.1
  have hn7 := hp.2.1
  have HM := hid hm
  have HR := hid h
  obtain ⟨a, cap, rfl, q1, q2, hc⟩ := h
  clear hc hp
  unfold maxLen at q2
  go_enter Tryz.func28, Tryz.ntmps28
  go_wp2_with fail
  refine (slOf_c _ M w HM.out HR.out).mono ?_
  rintro e w1 ⟨v1, rfl, hF1, hb1⟩
  obtain ⟨Y, hYM, hY, hYP, hYb⟩ := hF1.toZ
  obtain ⟨a1, c1, rfl⟩ := hY.form
  have HY := hid hY
  have HYP := hid hYP
  have HB1 := hid hb1
  have HYM := hid hYM
  have hYl : Y.length ≤ 128 := by
    have := congrArg List.length hYM
    rw [List.length_map] at this
    have h1 := List.length_filter_le (splitP M) (sidesL (M.length - 1) 1 [])
    have h2 := sidesL_small (show M.length - 1 ≤ 7 by omega) 1 []
    unfold splL at this
    omega
  have f0 : IntKind.i64.wrap ((M.length : Int) - 2) = (M.length : Int) - 2 := IntWalk.i64_in _ (by omega)
  have H1 := hid (HR.out.keep hb1)
  have HSL : Hid (innerL M = (Y.map Prod.snd).filter (innerP M)) := by show _ = _; rw [innerL, hYM]
  clear hY hYP hb1 hYM hF1 hYb
  go_wp2
  go_loopg [3, 9] Y.length (fun gk o iv wr => ∃ k : Nat, ∃ Z : List (Value × List Int), k ≤ Y.length ∧ gk = Y.length - k ∧ iv = .int .i64 k ∧ OMat wr w1.heap.size o Z ∧ Z.Sublist (Y.take k) ∧ innerL M = Z.map Prod.snd ++ ((Y.drop k).map Prod.snd).filter (innerP M) ∧ Below w1.heap.size w1 wr)
  case atStart => exact ⟨0, [], Nat.zero_le _, rfl, rfl, omat_nil_ w1, List.nil_sublist _, HSL.out, below_r w1⟩
  case round =>
    obtain ⟨k, Z, hk, rfl, rfl, hO, hZS, hr, hb⟩ := hrel
    obtain ⟨ao, co, rfl⟩ := hO.form
    have HO := hid hO
    have HZS := hid hZS
    have HRR := hid hr
    have HB := hid hb
    clear hO hZS hr hb
    have hZl : Z.length ≤ 128 := by have := HZS.out.length_le; rw [List.length_take] at this; omega
    by_cases hlt : k < Y.length
    · have hltz : (k : Int) < (Y.length : Int) := by omega
      obtain ⟨g, ⟨zv, zx⟩, rfl, hcell, hzY, hdrop, htake⟩ := (HY.out.keep HB.out).at hlt
      have HZY := hid hzY
      have hrow := (HYP.out.1 _ hzY).keep HB.out
      obtain ⟨az, cz, hzv⟩ := hrow.form
      simp only at hzv
      subst hzv
      have HTK := hid htake
      have HRZ := hid hrow.r
      have hM1 := H1.out.keep HB.out
      have HHR : Hid (innerL M = Z.map Prod.snd ++ (zx :: (Y.drop (k + 1)).map Prod.snd).filter (innerP M)) := by show _ = _; rw [HRR.out, hdrop]; rfl
      clear hdrop htake hrow hzY
      have HO2 := HO
      have HB2 := HB
      obtain ⟨w2, rfl⟩ : ∃ w2 : World, w2 = wr := ⟨_, rfl⟩
      have hq : inB (zx.length : Int) 2 ((M.length : Int) - 2) = innerP M zx := rfl
      clear hM1
      rcases Bool.eq_false_or_eq_true (innerP M zx) with t | t
      · rw [t] at hq
        have HS := hid (filter_yes (L := (Y.drop (k + 1)).map Prod.snd) t)
        have hal := (Below.refl w2.heap.size w2).alloc (Nat.le_refl _) (.cells #[.slice az zx.length cz] 33)
        have hO3 := HO2.out.keep hal
        have HB3 := hid (HB2.out.trans (hal.mono HB2.out.size))
        clear hal t
        go_wp2_with (first | (go_at_call 41; refine (l1In_c _ _ _ _).mono ?_; rintro e w' ⟨rfl, rfl⟩; rw [hq]) | at_builtin; refine wpList_append_vals rfl _ _ rfl _ _ _ [(.slice az zx.length cz, zx)] _ _ rfl rfl hO3 (by simp) (fun a j z he hz => row_cell _ a j z zx he hz) (by simp [Value.oneCell']) (by simp; omega) (by have := HB3.out.size; omega) ?_; intro v4 w4 hO4 hg4 hat4)
        have hb4 := filter_post hO3 hg4 HB3.out (Nat.le_refl _) HB3.out.size
        go_roundg (Y.length - (k + 1))
        case rel => exact ⟨k + 1, _, by omega, rfl, by go_num, hO4, by rw [HTK.out]; exact HZS.out.append (List.Sublist.refl _), by rw [HHR.out, HS.out, List.map_append, List.append_assoc]; rfl, hb4⟩
        case measure => omega
      · rw [t] at hq
        have HS := hid (filter_no (L := (Y.drop (k + 1)).map Prod.snd) t)
        clear t
        go_wp2_with (go_at_call 41; refine (l1In_c _ _ _ _).mono ?_; rintro e w' ⟨rfl, rfl⟩; rw [hq])
        go_roundg (Y.length - (k + 1))
        case rel => exact ⟨k + 1, Z, by omega, rfl, by go_num, HO2.out, by rw [HTK.out]; exact HZS.out.trans (List.sublist_append_left _ _), by rw [HHR.out, HS.out], HB2.out⟩
        case measure => omega
    · have HS : Hid (innerL M = Z.map Prod.snd) := by show _ = _; rw [HRR.out, List.drop_eq_nil_of_le (show Y.length ≤ k by omega)]; simp
      go_wp2
      go_ret
      refine ⟨_, rfl, ?_, HB1.out.trans (HB.out.mono HB1.out.size)⟩
      rw [HS.out]
      exact (HO.out.mono HB1.out.size).f (fun g hg => (HO.out.lt g hg).2) (((HYP.out.sub (HZS.out.trans (List.take_sublist _ _))).keep HB.out).mono (Nat.le_refl _) HB.out.size)

set_option maxRecDepth 100000 in
set_option maxHeartbeats 2000000 in
theorem innerSplits_c (v : Value) (M : List (List Int)) (w : World) (hm : metB M = true) (h : RMat w v M) :
    Calls Tryz.prog 24 #[v] w (RetMat w (innerL M)) := by
  have hp := metB_parts hm
  have hn2 := hp.1
  have hn7 := hp.2.1
  have HM := hid hm
  have HR := hid h
  obtain ⟨a, cap, rfl, q1, q2, hc⟩ := h
  clear hc hp
  unfold maxLen at q2
  go_enter Tryz.func24, Tryz.ntmps24
  go_wp2_with fail
  refine (splits_c _ M w HM.out HR.out).mono ?_
  rintro e w1 ⟨v1, v1b, rfl, hF1, _, hb1⟩
  obtain ⟨Y, hYM, hY, hYP, hYb⟩ := hF1.toZ
  obtain ⟨a1, c1, rfl⟩ := hY.form
  have HY := hid hY
  have HYP := hid hYP
  have HB1 := hid hb1
  have HYM := hid hYM
  have hYl : Y.length ≤ 128 := by
    have := congrArg List.length hYM
    rw [List.length_map] at this
    have h1 := List.length_filter_le (splitP M) (sidesL (M.length - 1) 1 [])
    have h2 := sidesL_small (show M.length - 1 ≤ 7 by omega) 1 []
    unfold splL at this
    omega
  have f0 : IntKind.i64.wrap ((M.length : Int) - 2) = (M.length : Int) - 2 := IntWalk.i64_in _ (by omega)
  have H1 := hid (HR.out.keep hb1)
  have HSL : Hid (innerL M = (Y.map Prod.snd).filter (innerP M)) := by show _ = _; rw [innerL, hYM]
  clear hY hYP hb1 hYM hF1 hYb
  go_wp2
  go_loopg [5, 16] Y.length (fun gk o iv wr => ∃ k : Nat, ∃ Z : List (Value × List Int), k ≤ Y.length ∧ gk = Y.length - k ∧ iv = .int .i64 k ∧ OMat wr w1.heap.size o Z ∧ Z.Sublist (Y.take k) ∧ innerL M = Z.map Prod.snd ++ ((Y.drop k).map Prod.snd).filter (innerP M) ∧ Below w1.heap.size w1 wr)
  case atStart => exact ⟨0, [], Nat.zero_le _, rfl, rfl, omat_e_ w1, List.nil_sublist _, HSL.out, below_a w1⟩
  case round =>
    obtain ⟨k, Z, hk, rfl, rfl, hO, hZS, hr, hb⟩ := hrel
    obtain ⟨ao, co, rfl⟩ := hO.form
    have HO := hid hO
    have HZS := hid hZS
    have HRR := hid hr
    have HB := hid hb
    clear hO hZS hr hb
    have hZl : Z.length ≤ 128 := by have := HZS.out.length_le; rw [List.length_take] at this; omega
    by_cases hlt : k < Y.length
    · have hltz : (k : Int) < (Y.length : Int) := by omega
      obtain ⟨g, ⟨zv, zx⟩, rfl, hcell, hzY, hdrop, htake⟩ := (HY.out.keep HB.out).at hlt
      have HZY := hid hzY
      have hrow := (HYP.out.1 _ hzY).keep HB.out
      obtain ⟨az, cz, hzv⟩ := hrow.form
      simp only at hzv
      subst hzv
      have HTK := hid htake
      have HRZ := hid hrow.r
      have hM1 := H1.out.keep HB.out
      have HHR : Hid (innerL M = Z.map Prod.snd ++ (zx :: (Y.drop (k + 1)).map Prod.snd).filter (innerP M)) := by show _ = _; rw [HRR.out, hdrop]; rfl
      clear hdrop htake hrow hzY
      have HO2 := HO
      have HB2 := HB
      obtain ⟨w2, rfl⟩ : ∃ w2 : World, w2 = wr := ⟨_, rfl⟩
      have hq : inB (zx.length : Int) 2 ((M.length : Int) - 2) = innerP M zx := rfl
      clear hM1
      rcases Bool.eq_false_or_eq_true (innerP M zx) with t | t
      · rw [t] at hq
        have HS := hid (filter_yes (L := (Y.drop (k + 1)).map Prod.snd) t)
        have hal := (Below.refl w2.heap.size w2).alloc (Nat.le_refl _) (.cells #[.slice az zx.length cz] 33)
        have hO3 := HO2.out.keep hal
        have HB3 := hid (HB2.out.trans (hal.mono HB2.out.size))
        clear hal t
        go_wp2_with (first | (go_at_call 49; refine (within_c _ _ _ _).mono ?_; rintro e w' ⟨rfl, rfl⟩; rw [hq]) | at_builtin; refine wpList_append_vals rfl _ _ rfl _ _ _ [(.slice az zx.length cz, zx)] _ _ rfl rfl hO3 (by simp) (fun a j z he hz => row_cell _ a j z zx he hz) (by simp [Value.oneCell']) (by simp; omega) (by have := HB3.out.size; omega) ?_; intro v4 w4 hO4 hg4 hat4)
        have hb4 := filter_post hO3 hg4 HB3.out (Nat.le_refl _) HB3.out.size
        go_roundg (Y.length - (k + 1))
        case rel => exact ⟨k + 1, _, by omega, rfl, by go_num, hO4, by rw [HTK.out]; exact HZS.out.append (List.Sublist.refl _), by rw [HHR.out, HS.out, List.map_append, List.append_assoc]; rfl, hb4⟩
        case measure => omega
      · rw [t] at hq
        have HS := hid (filter_no (L := (Y.drop (k + 1)).map Prod.snd) t)
        clear t
        go_wp2_with (go_at_call 49; refine (within_c _ _ _ _).mono ?_; rintro e w' ⟨rfl, rfl⟩; rw [hq])
        go_roundg (Y.length - (k + 1))
        case rel => exact ⟨k + 1, Z, by omega, rfl, by go_num, HO2.out, by rw [HTK.out]; exact HZS.out.trans (List.sublist_append_left _ _), by rw [HHR.out, HS.out], HB2.out⟩
        case measure => omega
    · have HS : Hid (innerL M = Z.map Prod.snd) := by show _ = _; rw [HRR.out, List.drop_eq_nil_of_le (show Y.length ≤ k by omega)]; simp
      go_wp2
      go_ret
      refine ⟨_, rfl, ?_, HB1.out.trans (HB.out.mono HB1.out.size)⟩
      rw [HS.out]
      exact (HO.out.mono HB1.out.size).f (fun g hg => (HO.out.lt g hg).2) (((HYP.out.sub (HZS.out.trans (List.take_sublist _ _))).keep HB.out).mono (Nat.le_refl _) HB.out.size)

end Go.Proofs.YtcgcgmlonhganaaGreat
