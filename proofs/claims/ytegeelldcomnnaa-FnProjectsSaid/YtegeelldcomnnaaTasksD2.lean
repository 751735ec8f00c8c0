/- Drawn starts; the drawing functions of tasks (printed by wip/taskdraws.py). -/
import Derived.Test.YtegeelldcomnnaaTasksD
import Derived.Test.YtegeelldcomnnaaLateLaw
import Derived.Test.YtegeelldcomnnaaCrit3
namespace Go.Proofs.Ytegeelldcomnnaa
open Go.RowKit
open Go.Lib (hid)

theorem early_range {L : List Tsk} (hL : GoodT L) : ∀ j, j < (earlyF L).length → 0 ≤ (earlyF L).getD j 0 ∧ (earlyF L).getD j 0 ≤ 24000 := fun j hj => by
  have h := (earlyF_ok hL).2 j hj
  have h1 := (earlyF_ok hL).1
  have := hL.1
  omega

set_option maxRecDepth 100000 in
set_option maxHeartbeats 4000000 in
theorem starts_c (b k : Nat) (v : Value) (L : List Tsk) (w : World) (h : Cur w b k) (hk : k ≤ 700000000000) (ht : RTasks w v L) (hL13 : L.length ≤ 13) :
    Calls Try.prog 137 #[.pointer (some ⟨b, 0, none⟩), v] w (RetNumsL b (k + 100) w.heap.size w) := by
  have HC0 := hid h
  have hlt0 := h.lt
  obtain ⟨lo, hlo⟩ : ∃ lo, w.heap.size = lo := ⟨_, rfl⟩
  rw [hlo] at hlt0
  have HS0 : Hid (lo ≤ w.heap.size) := Nat.le_of_eq hlo.symm
  have HD0 : Hid (Dr b lo w w) := Dr.refl _ _ _
  have HLO := hid hlo
  clear h hlo
  have HT := hid ht
  obtain ⟨a0, c0, rfl, _, _, _⟩ := ht
  rw [HLO.out]
  rcases Bool.eq_false_or_eq_true (tasksB L) with tb | tb
  · have HG := hid (good_of_tasksB tb)
    have hl12 := HG.out.1
    have HER := hid (early_range HG.out)
    have HEL := hid (earlyF_ok HG.out).1
    go_enter Try.func137, Try.ntmps137
    go_wp2_with fail
    refine (pjGood_c _ L _ HT.out).mono ?_
    rintro e w1 ⟨rfl, hb1⟩
    have HC1 := hid (HC0.out.keep hb1)
    have HD1 := hid (HD0.out.below (hb1.mono HS0.out))
    have HS1 : Hid (lo ≤ w1.heap.size) := Nat.le_trans HS0.out hb1.size
    rw [tb]
    have HT1 := hid (HT.out.keep hb1)
    clear hb1
    go_wp2_with fail
    refine (pjEarly_c _ L _ HT1.out HG.out).mono ?_
    rintro e w2 ⟨u2, rfl, hF2, hb2⟩
    have HC2 := hid (HC1.out.keep hb2)
    have HD2 := hid (HD1.out.below (hb2.mono HS1.out))
    have HS2 : Hid (lo ≤ w2.heap.size) := Nat.le_trans HS1.out hb2.size
    have F_2 := hid ((hF2.mono HS1.out (Nat.le_refl _)))
    obtain ⟨a3, c3, rfl⟩ := hF2.form
    clear hF2
    clear hb2
    obtain ⟨N, hN⟩ : ∃ N, (earlyF L).length = N := ⟨_, rfl⟩
    have hN12 : N ≤ 12 := by have := HEL.out; omega
    have HER2 : Hid (∀ j, 0 ≤ j → j < N → 0 ≤ (earlyF L).getD j 0 ∧ (earlyF L).getD j 0 ≤ 24000) := fun j _ hj => HER.out j (by omega)
    rw [hN] at F_2 ⊢
    have HN := hid hN
    clear hN
    go_wp2
    go_loopg [13] N (fun gk iv wr => ∃ (i : Nat) (xs : List Int) (s : Nat), iv = .int .i64 i ∧ i ≤ N ∧ gk = N - i ∧ Hid (xs.length = N) ∧ Hid (∀ j, i ≤ j → j < N → 0 ≤ xs.getD j 0 ∧ xs.getD j 0 ≤ 24000) ∧ s ≤ k + 4 * i ∧ FInts wr lo wr.heap.size (.slice a3 N c3) xs ∧ Cur wr b s ∧ Dr b lo w wr ∧ lo ≤ wr.heap.size)
    case atStart => exact ⟨0, earlyF L, k, rfl, Nat.zero_le _, rfl, HN, HER2, by omega, F_2.out, HC2.out, HD2.out, HS2.out⟩
    case round =>
      obtain ⟨w3, rfl⟩ : ∃ w' : World, w' = wr := ⟨_, rfl⟩
      obtain ⟨i, xs, s, rfl, hi, rfl, HLN, HX, hs, hF, hc, hd, hsz⟩ := hrel
      have HF3 := hid hF
      have HC3 := hid hc
      have HD3 := hid hd
      have HS3 := hid hsz
      clear hF hc hd hsz
      by_cases hlt : i < N
      · have hltz : (i : Int) < (N : Int) := by omega
        go_wp2_with fail
        refine (one_c b s 3 _ HC3.out (by omega) (by omega)).mono ?_
        rintro e w4 ⟨x, rfl, hc4, ht4⟩
        have HC4 := hid (hc4.more (show _ ≤ (s + 2) by omega))
        have HD4 := hid (HD3.out.touch HS0.out ht4)
        have F_4 := hid (HF3.out.tch ht4 hlt0)
        have HS4 : Hid (lo ≤ w4.heap.size) := Nat.le_trans HS3.out ht4.size
        clear hc4 ht4
        cases x
        · go_wp2
          go_roundg (N - (i + 1))
          case rel => exact ⟨i + 1, xs, _, by go_num, by omega, rfl, HLN, hid (fun j h1 h2 => HX.out j (by omega) h2), (show s + 2 ≤ k + 4 * (i + 1) by omega), F_4.out, HC4.out, HD4.out, HS4.out⟩
          case measure => omega
        · obtain ⟨g, y, rfl, hg1, hg2, e1, e2, HY⟩ := F_4.out.at (i := i) (by rw [HLN.out]; exact hlt)
          have hy := HX.out i (Nat.le_refl _) hlt
          rw [HY.out] at hy
          have HY0 := HY
          clear HY
          have hdr := (Below.refl w4.heap.size w4).drew
          have e1d := (hdr.cell (p := ⟨g, i, none⟩) (cell_lt e1)).trans e1
          have HDR := hid hdr
          clear hdr
          go_upto_region 8 with fail
          go_region_law (go_simp; go_at_call 94; (with_reducible refine (pick_c b (s + 2) 4 _ (HC4.out.keep HDR.out) (by omega) (by omega)).mono ?_); rintro e w5 ⟨z, rfl, ⟨hz1, hz2⟩, hc5, ht5⟩; have e3 := ht5.cell1 (b := g) (by omega) e1d; have HF5 := hid ((F_4.out.grw HDR.out).tch ht5 hlt0); have HC5 := hid hc5; have HD5 := hid ((HD4.out.below (HDR.out.mono HS4.out)).touch HS0.out ht5); have HS5 : Hid (lo ≤ w5.heap.size) := Nat.le_trans HS4.out ht5.size; obtain ⟨gx, qx, hgx, _, _, _, e4, _⟩ := HF5.out.at (i := i) (by rw [HLN.out]; exact hlt); have hgg : gx = g := (by simpa using hgx.symm); rw [hgg] at e4; have f5 : IntKind.i64.wrap (y + z) = y + z := IntWalk.i64_in _ (by omega); clear hc5 ht5 hgx hgg)
          all_goals
            have hst := HF5.out.set i (y + z)
            have hbl : Below lo w5 (w5.setCell ⟨g, i, none⟩ (.int .i64 (y + z))) := (Below.refl _ _).setCell hg1 _
            have HF6 := hid (hst.1.mono (Nat.le_refl _) (Nat.le_of_eq hst.2.2.symm))
            have HC6 := hid (HC5.out.low (hbl.mono hlt0))
            have HD6 := hid (HD5.out.below hbl)
            have HS6 : Hid (lo ≤ (w5.setCell ⟨g, i, none⟩ (.int .i64 (y + z))).heap.size) := Nat.le_trans HS5.out hbl.size
            clear hst hbl e1 e1d e2 e3 e4
            go_wp2
            go_roundg (N - (i + 1))
            case rel => exact ⟨i + 1, xs.set i (y + z), _, by go_num, by omega, rfl, hid (by rw [List.length_set]; exact HLN.out), hid (fun j h1 h2 => by rw [getD_set_other (by omega)]; exact HX.out j (by omega) h2), (show s + 2 + 2 ≤ k + 4 * (i + 1) by omega), HF6.out, HC6.out, HD6.out, HS6.out⟩
            case measure => omega
      · obtain rfl : i = N := by omega
        go_wp2_with fail
        refine (one_c b s 12 _ HC3.out (by omega) (by omega)).mono ?_
        rintro e w4 ⟨x, rfl, hc4, ht4⟩
        have HC4 := hid (hc4.more (show _ ≤ (s + 2) by omega))
        have HD4 := hid (HD3.out.touch HS0.out ht4)
        have F_4 := hid (HF3.out.tch ht4 hlt0)
        have HS4 : Hid (lo ≤ w4.heap.size) := Nat.le_trans HS3.out ht4.size
        clear hc4 ht4
        cases x
        · by_cases h0 : (0 : Int) < (i : Int)
          · go_wp2_with fail
            refine (one_c b (s + 2) 12 _ HC4.out (by omega) (by omega)).mono ?_
            rintro e w5 ⟨y, rfl, hc5, ht5⟩
            have HC5 := hid (hc5.more (show _ ≤ (s + 4) by omega))
            have HD5 := hid (HD4.out.touch HS0.out ht5)
            have F_5 := hid (F_4.out.tch ht5 hlt0)
            have HS5 : Hid (lo ≤ w5.heap.size) := Nat.le_trans HS4.out ht5.size
            clear hc5 ht5
            cases y
            · go_wp2
              go_ret
              exact retNums_mk (xs) (by rw [HLN.out]; omega) F_5.out (HC5.out.more (by omega)) HD5.out
            · have HLT := hid (ints_lit w5 w5.heap.size (Nat.le_refl _) [100000, 100001, 99, -1] (by simp)).r
              have HAL : Hid (Below w5.heap.size w5 _) := (Below.refl w5.heap.size w5).alloc (Nat.le_refl _) (.cells ([100000, 100001, 99, -1].map (.int .i64 ·)).toArray 3)
              go_wp2_with fail
              refine (among_c b (s + 4) _ [100000, 100001, 99, -1] _ (HC5.out.keep HAL.out) (by omega) HLT.out (by simp) (by simp) (fun p hp => by simp [Value.ownBlock] at hp; have := HS5.out; omega)).mono ?_
              rintro e w6 ⟨z, rfl, _, hc6, ht6⟩
              have HC6 := hid (hc6.more (show _ ≤ (s + 6) by omega))
              have HD6 := hid ((HD5.out.below (HAL.out.mono HS5.out)).touch HS0.out ht6)
              have F_6 := hid (F_5.out.grw HAL.out |>.tch ht6 hlt0)
              have HS6 : Hid (lo ≤ w6.heap.size) := Nat.le_trans (Nat.le_trans HS5.out HAL.out.size) ht6.size
              clear hc6 ht6 HLT HAL
              have f9 : IntKind.i64.wrap ((i : Int) - 1) = ((i - 1 : Nat) : Int) := by rw [IntWalk.i64_in _ (by omega)]; omega
              have hiz : ((i - 1 : Nat) : Int) < (i : Int) := by omega
              have hil : i - 1 < (xs).length := by rw [HLN.out]; omega
              obtain ⟨g, q, hga, hg1, hg2, hcl, hfr, _⟩ := F_6.out.at (i := i - 1) hil
              first | subst hga | (simp only [Option.some.injEq, Addr.mk.injEq, and_true] at hga; have hgb := hga.symm; subst hgb)
              have hst := F_6.out.set (i - 1) z
              have hbl : Below lo w6 (w6.setCell ⟨g, i - 1, none⟩ (.int .i64 z)) := (Below.refl _ _).setCell hg1 _
              have HFZ := hid (hst.1.mono (Nat.le_refl _) (Nat.le_of_eq hst.2.2.symm))
              have HCZ := hid (HC6.out.low (hbl.mono hlt0))
              have HDZ := hid (HD6.out.below hbl)
              clear hst hbl hil
              go_wp2
              go_ret
              exact retNums_mk ((xs).set (i - 1) z) (by rw [List.length_set, HLN.out]; omega) HFZ.out (HCZ.out.more (by omega)) HDZ.out
          · go_wp2
            go_ret
            exact retNums_mk (xs) (by rw [HLN.out]; omega) F_4.out (HC4.out.more (by omega)) HD4.out
        · have HLT := hid (ints_lit w4 w4.heap.size (Nat.le_refl _) [0, 100000, 100001, -1] (by simp)).r
          have HAL : Hid (Below w4.heap.size w4 _) := (Below.refl w4.heap.size w4).alloc (Nat.le_refl _) (.cells ([0, 100000, 100001, -1].map (.int .i64 ·)).toArray 3)
          go_wp2_with fail
          refine (among_c b (s + 2) _ [0, 100000, 100001, -1] _ (HC4.out.keep HAL.out) (by omega) HLT.out (by simp) (by simp) (fun p hp => by simp [Value.ownBlock] at hp; have := HS4.out; omega)).mono ?_
          rintro e w5 ⟨u, rfl, _, hc5, ht5⟩
          have HC5 := hid (hc5.more (show _ ≤ (s + 4) by omega))
          have HD5 := hid ((HD4.out.below (HAL.out.mono HS4.out)).touch HS0.out ht5)
          have F_5 := hid (F_4.out.grw HAL.out |>.tch ht5 hlt0)
          have HS5 : Hid (lo ≤ w5.heap.size) := Nat.le_trans (Nat.le_trans HS4.out HAL.out.size) ht5.size
          clear hc5 ht5 HLT HAL
          go_wp2_with (at_builtin; (refine wpList_push_dr (W0 := w) rfl _ _ rfl b (k := (s + 4)) lo (.slice a3 i c3) (xs) u rfl rfl F_5.out HD5.out HC5.out hlt0 HS5.out i HLN (by omega) ?_; intro g7 c7 w7 hF7 hd7 hc7 hs7; have HF7 := hid hF7; have HD7 := hid hd7; have HC7 := hid hc7; have HS7 := hid hs7; clear hF7 hd7 hc7 hs7))
          have HLN2 : Hid ((xs ++ [u]).length = i + 1) := by show _ = _; rw [List.length_append, HLN.out]; rfl
          by_cases h0 : (0 : Int) < ((i + 1) : Int)
          · go_wp2_with fail
            refine (one_c b (s + 4) 12 _ HC7.out (by omega) (by omega)).mono ?_
            rintro e w6 ⟨y, rfl, hc6, ht6⟩
            have HC6 := hid (hc6.more (show _ ≤ (s + 6) by omega))
            have HD6 := hid (HD7.out.touch HS0.out ht6)
            have F_6 := hid (HF7.out.tch ht6 hlt0)
            have HS6 : Hid (lo ≤ w6.heap.size) := Nat.le_trans HS7.out ht6.size
            clear hc6 ht6
            cases y
            · go_wp2
              go_ret
              exact retNums_mk (xs ++ [u]) (by rw [HLN2.out]; omega) F_6.out (HC6.out.more (by omega)) HD6.out
            · have HLT := hid (ints_lit w6 w6.heap.size (Nat.le_refl _) [100000, 100001, 99, -1] (by simp)).r
              have HAL : Hid (Below w6.heap.size w6 _) := (Below.refl w6.heap.size w6).alloc (Nat.le_refl _) (.cells ([100000, 100001, 99, -1].map (.int .i64 ·)).toArray 3)
              go_wp2_with fail
              refine (among_c b (s + 6) _ [100000, 100001, 99, -1] _ (HC6.out.keep HAL.out) (by omega) HLT.out (by simp) (by simp) (fun p hp => by simp [Value.ownBlock] at hp; have := HS6.out; omega)).mono ?_
              rintro e w7 ⟨z, rfl, _, hc7, ht7⟩
              have HC7 := hid (hc7.more (show _ ≤ (s + 8) by omega))
              have HD7 := hid ((HD6.out.below (HAL.out.mono HS6.out)).touch HS0.out ht7)
              have F_7 := hid (F_6.out.grw HAL.out |>.tch ht7 hlt0)
              have HS7 : Hid (lo ≤ w7.heap.size) := Nat.le_trans (Nat.le_trans HS6.out HAL.out.size) ht7.size
              clear hc7 ht7 HLT HAL
              have f9 : IntKind.i64.wrap (((i + 1 : Nat) : Int) - 1) = (i : Int) := by rw [IntWalk.i64_in _ (by omega)]; omega
              have f10 : IntKind.i64.wrap ((i : Int) + 1 - 1) = (i : Int) := by rw [IntWalk.i64_in _ (by omega)]; omega
              have f11 : IntKind.i64.wrap (i : Int) = (i : Int) := IntWalk.i64_in _ (by omega)
              have hiz : (i : Int) < (i : Int) + 1 := by omega
              have hil : i < (xs ++ [u]).length := by rw [HLN2.out]; omega
              obtain ⟨g, q, hga, hg1, hg2, hcl, hfr, _⟩ := F_7.out.at (i := i) hil
              first | subst hga | (simp only [Option.some.injEq, Addr.mk.injEq, and_true] at hga; have hgb := hga.symm; subst hgb)
              have hst := F_7.out.set (i) z
              have hbl : Below lo w7 (w7.setCell ⟨g, i, none⟩ (.int .i64 z)) := (Below.refl _ _).setCell hg1 _
              have HFZ := hid (hst.1.mono (Nat.le_refl _) (Nat.le_of_eq hst.2.2.symm))
              have HCZ := hid (HC7.out.low (hbl.mono hlt0))
              have HDZ := hid (HD7.out.below hbl)
              clear hst hbl hil
              go_wp2
              go_ret
              exact retNums_mk ((xs ++ [u]).set (i) z) (by rw [List.length_set, HLN2.out]; omega) HFZ.out (HCZ.out.more (by omega)) HDZ.out
          · exfalso; omega
  · go_enter Try.func137, Try.ntmps137
    go_wp2_with fail
    refine (pjGood_c _ L _ HT.out).mono ?_
    rintro e w1 ⟨rfl, hb1⟩
    have HC1 := hid (HC0.out.keep hb1)
    have HD1 := hid (HD0.out.below (hb1.mono HS0.out))
    have HS1 : Hid (lo ≤ w1.heap.size) := Nat.le_trans HS0.out hb1.size
    rw [tb]
    clear hb1
    have HF0 : Hid (FInts w1 lo w1.heap.size (.slice none 0 0) []) := ints_nil _ _ _
    have HLN : Hid (([] : List Int).length = 0) := rfl
    go_wp2_with fail
    refine (one_c b k 12 _ HC1.out (by omega) (by omega)).mono ?_
    rintro e w2 ⟨x, rfl, hc2, ht2⟩
    have HC2 := hid (hc2.more (show _ ≤ (k + 2) by omega))
    have HD2 := hid (HD1.out.touch HS0.out ht2)
    have F_2 := hid (HF0.out.tch ht2 hlt0)
    have HS2 : Hid (lo ≤ w2.heap.size) := Nat.le_trans HS1.out ht2.size
    clear hc2 ht2
    cases x
    · by_cases h0 : (0 : Int) < (0 : Int)
      · exfalso; omega
      · go_wp2
        go_ret
        exact retNums_mk (([] : List Int)) (by rw [HLN.out]; omega) F_2.out (HC2.out.more (by omega)) HD2.out
    · have HLT := hid (ints_lit w2 w2.heap.size (Nat.le_refl _) [0, 100000, 100001, -1] (by simp)).r
      have HAL : Hid (Below w2.heap.size w2 _) := (Below.refl w2.heap.size w2).alloc (Nat.le_refl _) (.cells ([0, 100000, 100001, -1].map (.int .i64 ·)).toArray 3)
      go_wp2_with fail
      refine (among_c b (k + 2) _ [0, 100000, 100001, -1] _ (HC2.out.keep HAL.out) (by omega) HLT.out (by simp) (by simp) (fun p hp => by simp [Value.ownBlock] at hp; have := HS2.out; omega)).mono ?_
      rintro e w3 ⟨u, rfl, _, hc3, ht3⟩
      have HC3 := hid (hc3.more (show _ ≤ (k + 4) by omega))
      have HD3 := hid ((HD2.out.below (HAL.out.mono HS2.out)).touch HS0.out ht3)
      have F_3 := hid (F_2.out.grw HAL.out |>.tch ht3 hlt0)
      have HS3 : Hid (lo ≤ w3.heap.size) := Nat.le_trans (Nat.le_trans HS2.out HAL.out.size) ht3.size
      clear hc3 ht3 HLT HAL
      go_wp2_with (at_builtin; (refine wpList_push_dr (W0 := w) rfl _ _ rfl b (k := (k + 4)) lo (.slice none 0 0) (([] : List Int)) u rfl rfl F_3.out HD3.out HC3.out hlt0 HS3.out 0 HLN (by omega) ?_; intro g7 c7 w7 hF7 hd7 hc7 hs7; have HF7 := hid hF7; have HD7 := hid hd7; have HC7 := hid hc7; have HS7 := hid hs7; clear hF7 hd7 hc7 hs7))
      have HLN2 : Hid ((([] : List Int) ++ [u]).length = 1) := by show _ = _; rw [List.length_append, HLN.out]; rfl
      by_cases h0 : (0 : Int) < (1 : Int)
      · go_wp2_with fail
        refine (one_c b (k + 4) 12 _ HC7.out (by omega) (by omega)).mono ?_
        rintro e w4 ⟨y, rfl, hc4, ht4⟩
        have HC4 := hid (hc4.more (show _ ≤ (k + 6) by omega))
        have HD4 := hid (HD7.out.touch HS0.out ht4)
        have F_4 := hid (HF7.out.tch ht4 hlt0)
        have HS4 : Hid (lo ≤ w4.heap.size) := Nat.le_trans HS7.out ht4.size
        clear hc4 ht4
        cases y
        · go_wp2
          go_ret
          exact retNums_mk (([] : List Int) ++ [u]) (by rw [HLN2.out]; omega) F_4.out (HC4.out.more (by omega)) HD4.out
        · have HLT := hid (ints_lit w4 w4.heap.size (Nat.le_refl _) [100000, 100001, 99, -1] (by simp)).r
          have HAL : Hid (Below w4.heap.size w4 _) := (Below.refl w4.heap.size w4).alloc (Nat.le_refl _) (.cells ([100000, 100001, 99, -1].map (.int .i64 ·)).toArray 3)
          go_wp2_with fail
          refine (among_c b (k + 6) _ [100000, 100001, 99, -1] _ (HC4.out.keep HAL.out) (by omega) HLT.out (by simp) (by simp) (fun p hp => by simp [Value.ownBlock] at hp; have := HS4.out; omega)).mono ?_
          rintro e w5 ⟨z, rfl, _, hc5, ht5⟩
          have HC5 := hid (hc5.more (show _ ≤ (k + 8) by omega))
          have HD5 := hid ((HD4.out.below (HAL.out.mono HS4.out)).touch HS0.out ht5)
          have F_5 := hid (F_4.out.grw HAL.out |>.tch ht5 hlt0)
          have HS5 : Hid (lo ≤ w5.heap.size) := Nat.le_trans (Nat.le_trans HS4.out HAL.out.size) ht5.size
          clear hc5 ht5 HLT HAL
          have f9 : IntKind.i64.wrap ((1 : Int) - 1) = ((0 : Nat) : Int) := by rw [IntWalk.i64_in _ (by omega)]; omega
          have hiz : ((0 : Nat) : Int) < (1 : Int) := by omega
          have hil : 0 < (([] : List Int) ++ [u]).length := by rw [HLN2.out]; omega
          obtain ⟨g, q, hga, hg1, hg2, hcl, hfr, _⟩ := F_5.out.at (i := 0) hil
          first | subst hga | (simp only [Option.some.injEq, Addr.mk.injEq, and_true] at hga; have hgb := hga.symm; subst hgb)
          have hst := F_5.out.set (0) z
          have hbl : Below lo w5 (w5.setCell ⟨g, 0, none⟩ (.int .i64 z)) := (Below.refl _ _).setCell hg1 _
          have HFZ := hid (hst.1.mono (Nat.le_refl _) (Nat.le_of_eq hst.2.2.symm))
          have HCZ := hid (HC5.out.low (hbl.mono hlt0))
          have HDZ := hid (HD5.out.below hbl)
          clear hst hbl hil
          go_wp2
          go_ret
          exact retNums_mk ((([] : List Int) ++ [u]).set (0) z) (by rw [List.length_set, HLN2.out]; omega) HFZ.out (HCZ.out.more (by omega)) HDZ.out
      · exfalso; omega

end Go.Proofs.Ytegeelldcomnnaa
