/- FnFloats returns true for every input, and its arguments read as before. No condition. -/
import Derived.Test.YtegeelldcomnnaaFloatQ
namespace Go.Proofs.Ytegeelldcomnnaa
open Go.ChangeShapes Go.WideShapes Go.ChangeAt Go.RowKit
open Go.Lib (hid)

set_option maxRecDepth 100000 in
set_option maxHeartbeats 4000000 in
theorem FnFloats_c (v0 : Value) (x0 : Nat) (v1 : Value) (x1 : Nat) (w : World) (r0 : RBytes w v0 x0) (r1 : RBytes w v1 x1) :
    Calls Try.prog 7 #[v0, v1] w fun e w' => e = .returned (.bool true) ∧ Below w.heap.size w w' := by
  have R0 := hid r0
  have R1 := hid r1
  obtain ⟨a0, c0, rfl, hx0, hm0⟩ := r0.form
  obtain ⟨a1, c1, rfl, hx1, hm1⟩ := r1.form
  unfold maxLen at hm0 hm1
  clear r0 r1
  cases tbig : bigB x0 x1
  case' true =>
    have HTB := hid tbig
    clear tbig
    go_enter Try.func7, Try.ntmps7
    go_wp2_with fail
    refine (big_c _ _ _ _ _ R0.out R1.out).mono ?_
    rintro e w' ⟨rfl, q, rfl⟩
    rw [HTB.out]
    go_wp2
    go_ret
    exact ⟨rfl, below_drewN (Below.refl _ _) _⟩
  have HTB := hid tbig
  clear tbig
  go_enter Try.func7, Try.ntmps7
  go_wp2_with fail
  refine (big_c _ _ _ _ _ R0.out R1.out).mono ?_
  rintro e w0 ⟨rfl, qb, hqb⟩
  rw [HTB.out]
  have HB0 : Hid (Below w.heap.size w w0) := by rw [hqb]; exact below_drewN (Below.refl _ _) _
  have R0_0 := hid (R0.out.keep HB0.out)
  have R1_0 := hid (R1.out.keep HB0.out)
  clear hqb
  go_wp2_with fail
  refine (DrawFloatsOf_c _ x0 _ R0_0.out).mono ?_
  rintro e w1 ⟨vL, L, rfl, hl13, hT, hb1⟩
  have HBw1 := hid (HB0.out.trans (hb1.mono HB0.out.size))
  have R1_w1 := hid (R1_0.out.keep hb1)
  have T_w1 := hid hT
  obtain ⟨al, cl, rfl⟩ := hT.form
  clear hb1 hT
  rcases Bool.eq_false_or_eq_true (tasksB L) with tb | tb
  · have HG := hid (good_of_tasksB tb)
    have hl12 := HG.out.1
    have HFL := hid (floatsB_yes' tb)
    have HFR := hid (freeB_yes tb)
    have HCR := hid (critB_yes' tb)
    obtain ⟨C, b5, hC⟩ : ∃ C b, chnB L = (C, b) := ⟨_, _, rfl⟩
    have HCC := hid (chn_crit tb hC)
    have hC12 : C.length ≤ 12 := by have := chnB_len L; rw [hC] at this; exact this
    have HCH := hid hC
    have HLF := hid (floatF_len HG.out)
    have HLR := hid (freeF_len L)
    have HPOS := hid (fun j (hj : j < L.length) => And.intro (float_pos HG.out hj) (free_pos HG.out hj))
    have HHAS : Hid (∀ j, j < L.length → hasB (placesF (floatF L) 0) (j : Int) = ((floatF L).getD j 0 == 0)) := fun j hj => hasB_places (by rw [HLF.out]; exact hj)
    clear tb hC
    go_wp2_with fail
    refine ((iFloatsOf_u _ L _ T_w1.out).mono fun e w' h => retL_of h HFL.out).mono ?_
    rintro e w2 ⟨a2, n2, c2, rfl, hp2, hb2⟩
    have HBw2 := hid (HBw1.out.trans (hb2.mono HBw1.out.size))
    have R1_w2 := hid (R1_w1.out.keep hb2)
    have T_w2 := hid (T_w1.out.keep hb2)
    have F1_w2 := hid hp2
    clear hb2 hp2
    go_wp2_with fail
    refine ((sFloatsOf_u _ L _ T_w2.out).mono fun e w' h => retL_of h HFL.out).mono ?_
    rintro e w3 ⟨a3, n3, c3, rfl, hp3, hb3⟩
    have HBw3 := hid (HBw2.out.trans (hb3.mono HBw2.out.size))
    have R1_w3 := hid (R1_w2.out.keep hb3)
    have T_w3 := hid (T_w2.out.keep hb3)
    have F1_w3 := hid (F1_w2.out.keep hb3)
    have F2_w3 := hid hp3
    clear hb3 hp3
    go_wp2_with fail
    refine ((iFreeFloats_u _ L _ T_w3.out).mono fun e w' h => retL_of h HFR.out).mono ?_
    rintro e w4 ⟨a4, n4, c4, rfl, hp4, hb4⟩
    have HBw4 := hid (HBw3.out.trans (hb4.mono HBw3.out.size))
    have R1_w4 := hid (R1_w3.out.keep hb4)
    have T_w4 := hid (T_w3.out.keep hb4)
    have F1_w4 := hid (F1_w3.out.keep hb4)
    have F2_w4 := hid (F2_w3.out.keep hb4)
    have G1_w4 := hid hp4
    clear hb4 hp4
    go_wp2_with fail
    refine ((sFreeFloats_u _ L _ T_w4.out).mono fun e w' h => retL_of h HFR.out).mono ?_
    rintro e w5 ⟨a5, n5, c5, rfl, hp5, hb5⟩
    have HBw5 := hid (HBw4.out.trans (hb5.mono HBw4.out.size))
    have R1_w5 := hid (R1_w4.out.keep hb5)
    have T_w5 := hid (T_w4.out.keep hb5)
    have F1_w5 := hid (F1_w4.out.keep hb5)
    have F2_w5 := hid (F2_w4.out.keep hb5)
    have G1_w5 := hid (G1_w4.out.keep hb5)
    have G2_w5 := hid hp5
    clear hb5 hp5
    go_wp2_with fail
    refine ((iCriticalTasks_u _ L _ T_w5.out).mono fun e w' h => retL_of h HCR.out).mono ?_
    rintro e w6 ⟨a6, n6, c6, rfl, hp6, hb6⟩
    have HBw6 := hid (HBw5.out.trans (hb6.mono HBw5.out.size))
    have R1_w6 := hid (R1_w5.out.keep hb6)
    have T_w6 := hid (T_w5.out.keep hb6)
    have F1_w6 := hid (F1_w5.out.keep hb6)
    have F2_w6 := hid (F2_w5.out.keep hb6)
    have G1_w6 := hid (G1_w5.out.keep hb6)
    have G2_w6 := hid (G2_w5.out.keep hb6)
    have P1_w6 := hid hp6
    clear hb6 hp6
    go_wp2_with fail
    refine ((sCriticalTasks_u _ L _ T_w6.out).mono fun e w' h => retL_of h HCR.out).mono ?_
    rintro e w7 ⟨a7, n7, c7, rfl, hp7, hb7⟩
    have HBw7 := hid (HBw6.out.trans (hb7.mono HBw6.out.size))
    have R1_w7 := hid (R1_w6.out.keep hb7)
    have T_w7 := hid (T_w6.out.keep hb7)
    have F1_w7 := hid (F1_w6.out.keep hb7)
    have F2_w7 := hid (F2_w6.out.keep hb7)
    have G1_w7 := hid (G1_w6.out.keep hb7)
    have G2_w7 := hid (G2_w6.out.keep hb7)
    have P1_w7 := hid (P1_w6.out.keep hb7)
    have P2_w7 := hid hp7
    clear hb7 hp7
    go_wp2_with fail
    refine (sameInts_y _ _ (floatF L) _ F1_w7.out F2_w7.out).mono ?_
    rintro e w8 ⟨rfl, hb8⟩
    have HBw8 := hid (HBw7.out.trans (hb8.mono HBw7.out.size))
    have R1_w8 := hid (R1_w7.out.keep hb8)
    have T_w8 := hid (T_w7.out.keep hb8)
    have F1_w8 := hid (F1_w7.out.keep hb8)
    have F2_w8 := hid (F2_w7.out.keep hb8)
    have G1_w8 := hid (G1_w7.out.keep hb8)
    have G2_w8 := hid (G2_w7.out.keep hb8)
    have P1_w8 := hid (P1_w7.out.keep hb8)
    have P2_w8 := hid (P2_w7.out.keep hb8)
    clear hb8
    go_wp2_with fail
    refine (sameInts_y _ _ (freeF L) _ G1_w8.out G2_w8.out).mono ?_
    rintro e w9 ⟨rfl, hb9⟩
    have HBw9 := hid (HBw8.out.trans (hb9.mono HBw8.out.size))
    have R1_w9 := hid (R1_w8.out.keep hb9)
    have T_w9 := hid (T_w8.out.keep hb9)
    have F1_w9 := hid (F1_w8.out.keep hb9)
    have F2_w9 := hid (F2_w8.out.keep hb9)
    have G1_w9 := hid (G1_w8.out.keep hb9)
    have G2_w9 := hid (G2_w8.out.keep hb9)
    have P1_w9 := hid (P1_w8.out.keep hb9)
    have P2_w9 := hid (P2_w8.out.keep hb9)
    clear hb9
    go_wp2_with fail
    refine (sameInts_y _ _ (placesF (floatF L) 0) _ P1_w9.out P2_w9.out).mono ?_
    rintro e w10 ⟨rfl, hb10⟩
    have HBw10 := hid (HBw9.out.trans (hb10.mono HBw9.out.size))
    have R1_w10 := hid (R1_w9.out.keep hb10)
    have T_w10 := hid (T_w9.out.keep hb10)
    have F1_w10 := hid (F1_w9.out.keep hb10)
    have F2_w10 := hid (F2_w9.out.keep hb10)
    have G1_w10 := hid (G1_w9.out.keep hb10)
    have G2_w10 := hid (G2_w9.out.keep hb10)
    have P1_w10 := hid (P1_w9.out.keep hb10)
    have P2_w10 := hid (P2_w9.out.keep hb10)
    clear hb10
    have hK := F2_w10.out
    have hS := G2_w10.out
    obtain ⟨aK, cK, hvK, _, _, hcK⟩ := hK
    obtain ⟨aS, cS, hvS, _, _, hcS⟩ := hS
    rw [hvK, hvS]
    have HKC : Hid (∀ j, j < L.length → ∃ g o, aK = some ⟨g, o, none⟩ ∧ w10.cell? ⟨g, o + j, none⟩ = some (.int .i64 ((floatF L).getD j 0))) := fun j hj => hcK j (by rw [HLF.out]; exact hj)
    have HSC : Hid (∀ j, j < L.length → ∃ g o, aS = some ⟨g, o, none⟩ ∧ w10.cell? ⟨g, o + j, none⟩ = some (.int .i64 ((freeF L).getD j 0))) := fun j hj => hcS j (by rw [HLR.out]; exact hj)
    obtain ⟨nK, hnK⟩ : ∃ nK, (floatF L).length = nK := ⟨_, rfl⟩
    obtain ⟨nS, hnS⟩ : ∃ nS, (freeF L).length = nS := ⟨_, rfl⟩
    rw [hnK, hnS]
    have HNK : Hid (nK = L.length) := hnK.symm.trans HLF.out
    have HNS : Hid (nS = L.length) := hnS.symm.trans HLR.out
    clear hcK hcS hvK hvS hnK hnS
    go_wp2
    go_loopg [124] (nK + 1) (fun gk iv wr => ∃ i : Nat, iv = .int .i64 i ∧ i ≤ nK ∧ gk = nK + 1 - i ∧ wr = w10)
    case atStart => exact ⟨0, rfl, Nat.zero_le _, rfl, rfl⟩
    case round =>
      obtain ⟨i, rfl, hi, rfl, rfl⟩ := hrel
      by_cases hlt : i < nK
      · have hiL : i < L.length := by have := HNK.out; omega
        have hi13 : i ≤ 13 := by omega
        obtain ⟨g1, o1, rfl, e1⟩ := HKC.out i hiL
        obtain ⟨g2, o2, rfl, e2⟩ := HSC.out i hiL
        obtain ⟨hp1, hp2, hp3⟩ := HPOS.out i hiL
        have hhas := HHAS.out i hiL
        obtain ⟨y1, hy1⟩ : ∃ y, (floatF L).getD i 0 = y := ⟨_, rfl⟩
        obtain ⟨y2, hy2⟩ : ∃ y, (freeF L).getD i 0 = y := ⟨_, rfl⟩
        rw [hy1] at e1 hp1 hp3 hhas
        rw [hy2] at e2 hp2 hp3
        clear hy1 hy2
        have hlz : (i : Int) < (nK : Int) := by omega
        have hlz2 : (i : Int) < (nS : Int) := by have := HNS.out; omega
        have hn1 : ¬ (y1 < 0) := by omega
        have hn2 : ¬ (y2 < 0) := by omega
        have hn3 : ¬ (y2 > y1) := by omega
        clear hiL hp1 hp2 hp3
        cases hb : (y1 == 0)
        all_goals
          rw [hb] at hhas
          have HH := hid hhas
          clear hhas
          go_wp2_with fail
          refine (pIn_c _ (placesF (floatF L) 0) (i : Int) _ P2_w10.out).mono ?_
          rintro e w' ⟨rfl, rfl⟩
          rw [HH.out]
          go_wp2
          go_roundg (nK + 1 - (i + 1))
          case rel => exact ⟨i + 1, by go_num, by omega, rfl, rfl⟩
          case measure => omega
      · obtain rfl : i = nK := by omega
        clear HKC HSC
        go_wp2_with fail
        refine ((iCriticalChain_u _ L _ T_w10.out).mono fun e w' h => retL_of h HCH.out).mono ?_
        rintro e w11 ⟨a11, n11, c11, rfl, hp11, hb11⟩
        have HBw11 := hid (HBw10.out.trans (hb11.mono HBw10.out.size))
        have R1_w11 := hid (R1_w10.out.keep hb11)
        have T_w11 := hid (T_w10.out.keep hb11)
        have F1_w11 := hid (F1_w10.out.keep hb11)
        have F2_w11 := hid (F2_w10.out.keep hb11)
        have G1_w11 := hid (G1_w10.out.keep hb11)
        have G2_w11 := hid (G2_w10.out.keep hb11)
        have P1_w11 := hid (P1_w10.out.keep hb11)
        have P2_w11 := hid (P2_w10.out.keep hb11)
        have C1_w11 := hid hp11
        clear hb11 hp11
        go_wp2_with fail
        refine ((sCriticalChain_u _ L _ T_w11.out).mono fun e w' h => retL_of h HCH.out).mono ?_
        rintro e w12 ⟨a12, n12, c12, rfl, hp12, hb12⟩
        have HBw12 := hid (HBw11.out.trans (hb12.mono HBw11.out.size))
        have R1_w12 := hid (R1_w11.out.keep hb12)
        have T_w12 := hid (T_w11.out.keep hb12)
        have F1_w12 := hid (F1_w11.out.keep hb12)
        have F2_w12 := hid (F2_w11.out.keep hb12)
        have G1_w12 := hid (G1_w11.out.keep hb12)
        have G2_w12 := hid (G2_w11.out.keep hb12)
        have P1_w12 := hid (P1_w11.out.keep hb12)
        have P2_w12 := hid (P2_w11.out.keep hb12)
        have C1_w12 := hid (C1_w11.out.keep hb12)
        have C2_w12 := hid hp12
        clear hb12 hp12
        go_wp2_with fail
        refine (sameInts_y _ _ C _ C1_w12.out C2_w12.out).mono ?_
        rintro e w13 ⟨rfl, hb13⟩
        have HBw13 := hid (HBw12.out.trans (hb13.mono HBw12.out.size))
        have R1_w13 := hid (R1_w12.out.keep hb13)
        have T_w13 := hid (T_w12.out.keep hb13)
        have F1_w13 := hid (F1_w12.out.keep hb13)
        have F2_w13 := hid (F2_w12.out.keep hb13)
        have G1_w13 := hid (G1_w12.out.keep hb13)
        have G2_w13 := hid (G2_w12.out.keep hb13)
        have P1_w13 := hid (P1_w12.out.keep hb13)
        have P2_w13 := hid (P2_w12.out.keep hb13)
        have C1_w13 := hid (C1_w12.out.keep hb13)
        have C2_w13 := hid (C2_w12.out.keep hb13)
        clear hb13
        have hK := C2_w13.out
        obtain ⟨aC, cC, hvC, _, _, hcC⟩ := hK
        rw [hvC]
        have HCA := hid hcC
        obtain ⟨nC, hnC⟩ : ∃ nC, C.length = nC := ⟨_, rfl⟩
        rw [hnC]
        have HNC := hid hnC
        clear hcC hvC hnC
        go_wp2
        go_loopg [176] (nC + 1) (fun gk iv wr => ∃ j : Nat, iv = .int .i64 j ∧ j ≤ nC ∧ gk = nC + 1 - j ∧ wr = w13)
        case atStart => exact ⟨0, rfl, Nat.zero_le _, rfl, rfl⟩
        case round =>
          obtain ⟨j, rfl, hj, rfl, rfl⟩ := hrel
          by_cases hlt : j < nC
          · have hjC : j < C.length := by have := HNC.out; omega
            have hj13 : j ≤ 13 := by omega
            obtain ⟨g1, o1, rfl, e1⟩ := HCA.out j hjC
            have hin := HCC.out (C.getD j 0) (by simp [List.getD, List.getElem?_eq_getElem hjC])
            obtain ⟨y1, hy1⟩ : ∃ y, C.getD j 0 = y := ⟨_, rfl⟩
            rw [hy1] at e1 hin
            have HIN := hid hin
            have hlz : (j : Int) < (nC : Int) := by omega
            clear hy1 hin hjC
            go_wp2_with fail
            refine (pIn_c _ (placesF (floatF L) 0) y1 _ P2_w13.out).mono ?_
            rintro e w' ⟨rfl, rfl⟩
            rw [HIN.out]
            go_wp2
            go_roundg (nC + 1 - (j + 1))
            case rel => exact ⟨j + 1, by go_num, by omega, rfl, rfl⟩
            case measure => omega
          · obtain rfl : j = nC := by omega
            clear HCA
            go_wp2_with fail
            refine (DrawLatestStarts_c _ x1 _ R1_w13.out).mono ?_
            rintro e w14 ⟨vU, U, E, rfl, hu13, hU, hb14⟩
            have HBw14 := hid (HBw13.out.trans (hb14.mono HBw13.out.size))
            have R1_w14 := hid (R1_w13.out.keep hb14)
            have U_w14 := hid hU
            obtain ⟨au, cu, rfl⟩ := hU.form
            clear hb14 hU
            obtain ⟨K, q, hKq⟩ : ∃ K q, lateB U E = (K, q) := ⟨_, _, rfl⟩
            have HKQ := hid hKq
            clear hKq
            go_wp2_with fail
            refine ((iLatestStarts_u _ U E _ U_w14.out).mono fun e w' h => retL_of h HKQ.out).mono ?_
            rintro e w15 ⟨a15, n15, c15, rfl, hp15, hb15⟩
            have HBw15 := hid (HBw14.out.trans (hb15.mono HBw14.out.size))
            have R1_w15 := hid (R1_w14.out.keep hb15)
            have U_w15 := hid (U_w14.out.keep hb15)
            have K1_w15 := hid hp15
            clear hb15 hp15
            go_wp2_with fail
            refine ((sLatestStarts_u _ U E _ U_w15.out).mono fun e w' h => retL_of h HKQ.out).mono ?_
            rintro e w16 ⟨a16, n16, c16, rfl, hp16, hb16⟩
            have HBw16 := hid (HBw15.out.trans (hb16.mono HBw15.out.size))
            have R1_w16 := hid (R1_w15.out.keep hb16)
            have U_w16 := hid (U_w15.out.keep hb16)
            have K1_w16 := hid (K1_w15.out.keep hb16)
            have K2_w16 := hid hp16
            clear hb16 hp16
            go_wp2_with fail
            refine (sameInts_y _ _ K _ K1_w16.out K2_w16.out).mono ?_
            rintro e w17 ⟨rfl, hb17⟩
            have HBw17 := hid (HBw16.out.trans (hb17.mono HBw16.out.size))
            have R1_w17 := hid (R1_w16.out.keep hb17)
            have U_w17 := hid (U_w16.out.keep hb17)
            have K1_w17 := hid (K1_w16.out.keep hb17)
            have K2_w17 := hid (K2_w16.out.keep hb17)
            clear hb17
            cases q
            · skip
              go_wp2_with fail
              refine (DrawMostAtOnce_c _ x1 _ R1_w17.out).mono ?_
              rintro e w18 ⟨vX, X, uY, Y, rfl, hx13, hy20, hX, hY, hb18⟩
              have HBw18 := hid (HBw17.out.trans (hb18.mono HBw17.out.size))
              have X_w18 := hid hX
              have Y_w18 := hid hY
              obtain ⟨ax, cx, rfl⟩ := hX.form
              obtain ⟨ay, cy, rfl⟩ := hY.form
              clear hb18 hX hY
              obtain ⟨tm, mc, q, hpq⟩ : ∃ t c q, mostB X Y = (t, c, q) := ⟨_, _, _, rfl⟩
              have HPQ := hid hpq
              clear hpq
              go_wp2_with fail
              refine ((iMostAtOnce_u _ X _ Y _ X_w18.out Y_w18.out).mono fun e w' h => retZZ_of h HPQ.out).mono ?_
              rintro e w19 ⟨rfl, hb19⟩
              have HBw19 := hid (HBw18.out.trans (hb19.mono HBw18.out.size))
              have X_w19 := hid (X_w18.out.keep hb19)
              have Y_w19 := hid (Y_w18.out.keep hb19)
              clear hb19
              go_wp2_with fail
              refine ((sMostAtOnce_u _ X _ Y _ X_w19.out Y_w19.out).mono fun e w' h => retZZ_of h HPQ.out).mono ?_
              rintro e w20 ⟨rfl, hb20⟩
              have HBw20 := hid (HBw19.out.trans (hb20.mono HBw19.out.size))
              have X_w20 := hid (X_w19.out.keep hb20)
              have Y_w20 := hid (Y_w19.out.keep hb20)
              clear hb20
              cases q
              · go_wp2
                go_ret
                exact ⟨rfl, HBw20.out⟩
              · obtain ⟨htx, hyl, hyr, hcnt, hc0⟩ := most_parts HPQ.out
                have HGX := hid (good_of_tasksB htx)
                have HYL := hid hyl
                have HYR := hid hyr
                have HCNT := hid hcnt
                have hxl12 := HGX.out.1
                have HX0 := X_w20
                have HY0 := Y_w20
                clear htx hyl hyr hcnt
                go_wp2
                go_loopg [42, 259] X.length (fun gk nv iv wr => ∃ (k : Nat) (n : Int), k ≤ X.length ∧ gk = X.length - k ∧ iv = .int .i64 k ∧ nv = .int .i64 n ∧ Hid (cntF X Y tm = cntL Y tm k (X.drop k) n) ∧ 0 ≤ n ∧ n ≤ (k : Int) ∧ Below w20.heap.size w20 wr)
                case atStart => exact ⟨0, 0, Nat.zero_le _, by first | rfl | omega, rfl, rfl, hid rfl, by omega, by omega, Below.refl _ _⟩
                case round =>
                  obtain ⟨k, n, hk, rfl, rfl, rfl, HRR, hn0, hn1, hb⟩ := hrel
                  have HB := hid hb
                  by_cases hlt : k < X.length
                  · obtain ⟨a', cap', hv, _, _, hc⟩ := HX0.out.keep hb
                    simp only [Value.slice.injEq, true_and] at hv
                    obtain ⟨rfl, rfl⟩ := hv
                    obtain ⟨b', capb', hv, _, _, hc'⟩ := HY0.out.keep hb
                    simp only [Value.slice.injEq, true_and] at hv
                    obtain ⟨rfl, rfl⟩ := hv
                    obtain ⟨g, o, r, y, tt, rfl, c1, c2, hy, HD, HG2⟩ := tasks_at hc hlt
                    obtain ⟨gb, ob, s, rfl, c3, _, HX⟩ := ints_at hc' (show k < Y.length by have := HYL.out; omega)
                    have hx := HYR.out k (by have := HYL.out; omega)
                    have htm := (HGX.out.2 k hlt).2
                    rw [HX.out] at hx
                    rw [HG2.out] at htm
                    have htm : 0 ≤ tt ∧ tt ≤ 2000 := htm
                    obtain ⟨ay2, cy2, rfl, hy1, hy2, hyc⟩ := hy
                    clear hc hc' hb hyc
                    have ha : Below wr.heap.size wr (wr.alloc (.cells #[.slice ay2 y.length cy2, .int .i64 tt] 67)) := (Below.refl _ _).alloc (Nat.le_refl _) _
                    have HB1 := hid (HB.out.trans (ha.mono HB.out.size))
                    have e3 := (ha.cell (p := ⟨gb, ob + k, none⟩) (cell_lt c3)).trans c3
                    clear ha
                    have hltz : (k : Int) < (X.length : Int) := by omega
                    have hltz' : (k : Int) < (Y.length : Int) := by have := HYL.out; omega
                    have f1 : IntKind.i64.wrap (s + tt) = s + tt := IntWalk.i64_in _ (by omega)
                    by_cases t1 : s ≤ tm
                    · by_cases t2 : tm < s + tt
                      · have HST : Hid (cntF X Y tm = cntL Y tm (k + 1) (X.drop (k + 1)) (n + 1)) := by show _ = _; rw [HRR.out, HD.out, cntL_yes (by rw [HX.out]; exact inB_iff.2 ⟨t1, by show tm ≤ s + tt - 1; omega⟩)]
                        have d1 : decide (s ≤ tm) = true := decide_eq_true t1
                        have d2 : decide (tm < s + tt) = true := decide_eq_true t2
                        have f2 : IntKind.i64.wrap (n + 1) = n + 1 := IntWalk.i64_in _ (by omega)
                        go_wp2
                        go_quiet (fail)
                        go_wp2
                        go_roundg (X.length - (k + 1))
                        case rel => exact ⟨k + 1, _, by omega, rfl, by go_num, rfl, HST, by omega, by omega, below_dn HB1.out _⟩
                        case measure => omega
                      · have HST : Hid (cntF X Y tm = cntL Y tm (k + 1) (X.drop (k + 1)) n) := by show _ = _; rw [HRR.out, HD.out, cntL_no (by rw [HX.out]; exact inB_false.2 (fun h => t2 (by have := h.2; dsimp only at this; omega)))]
                        have d1 : decide (s ≤ tm) = true := decide_eq_true t1
                        have d2 : decide (tm < s + tt) = false := decide_eq_false t2
                        go_wp2
                        go_quiet (fail)
                        go_wp2
                        go_roundg (X.length - (k + 1))
                        case rel => exact ⟨k + 1, _, by omega, rfl, by go_num, rfl, HST, by omega, by omega, below_dn HB1.out _⟩
                        case measure => omega
                    · have HST : Hid (cntF X Y tm = cntL Y tm (k + 1) (X.drop (k + 1)) n) := by show _ = _; rw [HRR.out, HD.out, cntL_no (by rw [HX.out]; exact inB_false.2 (fun h => t1 h.1))]
                      have d1 : decide (s ≤ tm) = false := decide_eq_false t1
                      go_wp2
                      go_quiet (fail)
                      go_wp2
                      go_roundg (X.length - (k + 1))
                      case rel => exact ⟨k + 1, _, by omega, rfl, by go_num, rfl, HST, by omega, by omega, below_dn HB1.out _⟩
                      case measure => omega
                  · have HGE : Hid (n = mc) := by show _ = _; rw [← HCNT.out, HRR.out, List.drop_eq_nil_of_le (by omega), cntL_nil]
                    have HB2 := hid (HBw20.out.trans (hb.mono HBw20.out.size))
                    have hmn : n = mc := HGE.out
                    subst hmn
                    have hgt : n > 0 := hc0
                    clear hb
                    go_wp2
                    go_ret
                    exact ⟨rfl, HB2.out⟩
            · have HAR := hid (late_are HKQ.out)
              go_wp2_with fail
              refine ((iAreStarts_u _ U _ K _ U_w17.out K1_w17.out).mono fun e w' h => retT_of h HAR.out).mono ?_
              rintro e w18 ⟨rfl, hb18⟩
              have HBw18 := hid (HBw17.out.trans (hb18.mono HBw17.out.size))
              have R1_w18 := hid (R1_w17.out.keep hb18)
              have U_w18 := hid (U_w17.out.keep hb18)
              have K1_w18 := hid (K1_w17.out.keep hb18)
              have K2_w18 := hid (K2_w17.out.keep hb18)
              clear hb18
              go_wp2_with fail
              refine (DrawMostAtOnce_c _ x1 _ R1_w18.out).mono ?_
              rintro e w19 ⟨vX, X, uY, Y, rfl, hx13, hy20, hX, hY, hb19⟩
              have HBw19 := hid (HBw18.out.trans (hb19.mono HBw18.out.size))
              have X_w19 := hid hX
              have Y_w19 := hid hY
              obtain ⟨ax, cx, rfl⟩ := hX.form
              obtain ⟨ay, cy, rfl⟩ := hY.form
              clear hb19 hX hY
              obtain ⟨tm, mc, q, hpq⟩ : ∃ t c q, mostB X Y = (t, c, q) := ⟨_, _, _, rfl⟩
              have HPQ := hid hpq
              clear hpq
              go_wp2_with fail
              refine ((iMostAtOnce_u _ X _ Y _ X_w19.out Y_w19.out).mono fun e w' h => retZZ_of h HPQ.out).mono ?_
              rintro e w20 ⟨rfl, hb20⟩
              have HBw20 := hid (HBw19.out.trans (hb20.mono HBw19.out.size))
              have X_w20 := hid (X_w19.out.keep hb20)
              have Y_w20 := hid (Y_w19.out.keep hb20)
              clear hb20
              go_wp2_with fail
              refine ((sMostAtOnce_u _ X _ Y _ X_w20.out Y_w20.out).mono fun e w' h => retZZ_of h HPQ.out).mono ?_
              rintro e w21 ⟨rfl, hb21⟩
              have HBw21 := hid (HBw20.out.trans (hb21.mono HBw20.out.size))
              have X_w21 := hid (X_w20.out.keep hb21)
              have Y_w21 := hid (Y_w20.out.keep hb21)
              clear hb21
              cases q
              · go_wp2
                go_ret
                exact ⟨rfl, HBw21.out⟩
              · obtain ⟨htx, hyl, hyr, hcnt, hc0⟩ := most_parts HPQ.out
                have HGX := hid (good_of_tasksB htx)
                have HYL := hid hyl
                have HYR := hid hyr
                have HCNT := hid hcnt
                have hxl12 := HGX.out.1
                have HX0 := X_w21
                have HY0 := Y_w21
                clear htx hyl hyr hcnt
                go_wp2
                go_loopg [42, 259] X.length (fun gk nv iv wr => ∃ (k : Nat) (n : Int), k ≤ X.length ∧ gk = X.length - k ∧ iv = .int .i64 k ∧ nv = .int .i64 n ∧ Hid (cntF X Y tm = cntL Y tm k (X.drop k) n) ∧ 0 ≤ n ∧ n ≤ (k : Int) ∧ Below w21.heap.size w21 wr)
                case atStart => exact ⟨0, 0, Nat.zero_le _, by first | rfl | omega, rfl, rfl, hid rfl, by omega, by omega, Below.refl _ _⟩
                case round =>
                  obtain ⟨k, n, hk, rfl, rfl, rfl, HRR, hn0, hn1, hb⟩ := hrel
                  have HB := hid hb
                  by_cases hlt : k < X.length
                  · obtain ⟨a', cap', hv, _, _, hc⟩ := HX0.out.keep hb
                    simp only [Value.slice.injEq, true_and] at hv
                    obtain ⟨rfl, rfl⟩ := hv
                    obtain ⟨b', capb', hv, _, _, hc'⟩ := HY0.out.keep hb
                    simp only [Value.slice.injEq, true_and] at hv
                    obtain ⟨rfl, rfl⟩ := hv
                    obtain ⟨g, o, r, y, tt, rfl, c1, c2, hy, HD, HG2⟩ := tasks_at hc hlt
                    obtain ⟨gb, ob, s, rfl, c3, _, HX⟩ := ints_at hc' (show k < Y.length by have := HYL.out; omega)
                    have hx := HYR.out k (by have := HYL.out; omega)
                    have htm := (HGX.out.2 k hlt).2
                    rw [HX.out] at hx
                    rw [HG2.out] at htm
                    have htm : 0 ≤ tt ∧ tt ≤ 2000 := htm
                    obtain ⟨ay2, cy2, rfl, hy1, hy2, hyc⟩ := hy
                    clear hc hc' hb hyc
                    have ha : Below wr.heap.size wr (wr.alloc (.cells #[.slice ay2 y.length cy2, .int .i64 tt] 67)) := (Below.refl _ _).alloc (Nat.le_refl _) _
                    have HB1 := hid (HB.out.trans (ha.mono HB.out.size))
                    have e3 := (ha.cell (p := ⟨gb, ob + k, none⟩) (cell_lt c3)).trans c3
                    clear ha
                    have hltz : (k : Int) < (X.length : Int) := by omega
                    have hltz' : (k : Int) < (Y.length : Int) := by have := HYL.out; omega
                    have f1 : IntKind.i64.wrap (s + tt) = s + tt := IntWalk.i64_in _ (by omega)
                    by_cases t1 : s ≤ tm
                    · by_cases t2 : tm < s + tt
                      · have HST : Hid (cntF X Y tm = cntL Y tm (k + 1) (X.drop (k + 1)) (n + 1)) := by show _ = _; rw [HRR.out, HD.out, cntL_yes (by rw [HX.out]; exact inB_iff.2 ⟨t1, by show tm ≤ s + tt - 1; omega⟩)]
                        have d1 : decide (s ≤ tm) = true := decide_eq_true t1
                        have d2 : decide (tm < s + tt) = true := decide_eq_true t2
                        have f2 : IntKind.i64.wrap (n + 1) = n + 1 := IntWalk.i64_in _ (by omega)
                        go_wp2
                        go_quiet (fail)
                        go_wp2
                        go_roundg (X.length - (k + 1))
                        case rel => exact ⟨k + 1, _, by omega, rfl, by go_num, rfl, HST, by omega, by omega, below_dn HB1.out _⟩
                        case measure => omega
                      · have HST : Hid (cntF X Y tm = cntL Y tm (k + 1) (X.drop (k + 1)) n) := by show _ = _; rw [HRR.out, HD.out, cntL_no (by rw [HX.out]; exact inB_false.2 (fun h => t2 (by have := h.2; dsimp only at this; omega)))]
                        have d1 : decide (s ≤ tm) = true := decide_eq_true t1
                        have d2 : decide (tm < s + tt) = false := decide_eq_false t2
                        go_wp2
                        go_quiet (fail)
                        go_wp2
                        go_roundg (X.length - (k + 1))
                        case rel => exact ⟨k + 1, _, by omega, rfl, by go_num, rfl, HST, by omega, by omega, below_dn HB1.out _⟩
                        case measure => omega
                    · have HST : Hid (cntF X Y tm = cntL Y tm (k + 1) (X.drop (k + 1)) n) := by show _ = _; rw [HRR.out, HD.out, cntL_no (by rw [HX.out]; exact inB_false.2 (fun h => t1 h.1))]
                      have d1 : decide (s ≤ tm) = false := decide_eq_false t1
                      go_wp2
                      go_quiet (fail)
                      go_wp2
                      go_roundg (X.length - (k + 1))
                      case rel => exact ⟨k + 1, _, by omega, rfl, by go_num, rfl, HST, by omega, by omega, below_dn HB1.out _⟩
                      case measure => omega
                  · have HGE : Hid (n = mc) := by show _ = _; rw [← HCNT.out, HRR.out, List.drop_eq_nil_of_le (by omega), cntL_nil]
                    have HB2 := hid (HBw21.out.trans (hb.mono HBw21.out.size))
                    have hmn : n = mc := HGE.out
                    subst hmn
                    have hgt : n > 0 := hc0
                    clear hb
                    go_wp2
                    go_ret
                    exact ⟨rfl, HB2.out⟩
  · have HFL := hid (floatsB_no' tb)
    have HFR := hid (freeB_no tb)
    have HCR := hid (critB_no' tb)
    clear tb
    go_wp2_with fail
    refine ((iFloatsOf_u _ L _ T_w1.out).mono fun e w' h => retL_of h HFL.out).mono ?_
    rintro e w2 ⟨a2, n2, c2, rfl, hp2, hb2⟩
    have HBw2 := hid (HBw1.out.trans (hb2.mono HBw1.out.size))
    have R1_w2 := hid (R1_w1.out.keep hb2)
    have T_w2 := hid (T_w1.out.keep hb2)
    have F1_w2 := hid hp2
    clear hb2 hp2
    go_wp2_with fail
    refine ((sFloatsOf_u _ L _ T_w2.out).mono fun e w' h => retL_of h HFL.out).mono ?_
    rintro e w3 ⟨a3, n3, c3, rfl, hp3, hb3⟩
    have HBw3 := hid (HBw2.out.trans (hb3.mono HBw2.out.size))
    have R1_w3 := hid (R1_w2.out.keep hb3)
    have T_w3 := hid (T_w2.out.keep hb3)
    have F1_w3 := hid (F1_w2.out.keep hb3)
    have F2_w3 := hid hp3
    clear hb3 hp3
    go_wp2_with fail
    refine ((iFreeFloats_u _ L _ T_w3.out).mono fun e w' h => retL_of h HFR.out).mono ?_
    rintro e w4 ⟨a4, n4, c4, rfl, hp4, hb4⟩
    have HBw4 := hid (HBw3.out.trans (hb4.mono HBw3.out.size))
    have R1_w4 := hid (R1_w3.out.keep hb4)
    have T_w4 := hid (T_w3.out.keep hb4)
    have F1_w4 := hid (F1_w3.out.keep hb4)
    have F2_w4 := hid (F2_w3.out.keep hb4)
    have G1_w4 := hid hp4
    clear hb4 hp4
    go_wp2_with fail
    refine ((sFreeFloats_u _ L _ T_w4.out).mono fun e w' h => retL_of h HFR.out).mono ?_
    rintro e w5 ⟨a5, n5, c5, rfl, hp5, hb5⟩
    have HBw5 := hid (HBw4.out.trans (hb5.mono HBw4.out.size))
    have R1_w5 := hid (R1_w4.out.keep hb5)
    have T_w5 := hid (T_w4.out.keep hb5)
    have F1_w5 := hid (F1_w4.out.keep hb5)
    have F2_w5 := hid (F2_w4.out.keep hb5)
    have G1_w5 := hid (G1_w4.out.keep hb5)
    have G2_w5 := hid hp5
    clear hb5 hp5
    go_wp2_with fail
    refine ((iCriticalTasks_u _ L _ T_w5.out).mono fun e w' h => retL_of h HCR.out).mono ?_
    rintro e w6 ⟨a6, n6, c6, rfl, hp6, hb6⟩
    have HBw6 := hid (HBw5.out.trans (hb6.mono HBw5.out.size))
    have R1_w6 := hid (R1_w5.out.keep hb6)
    have T_w6 := hid (T_w5.out.keep hb6)
    have F1_w6 := hid (F1_w5.out.keep hb6)
    have F2_w6 := hid (F2_w5.out.keep hb6)
    have G1_w6 := hid (G1_w5.out.keep hb6)
    have G2_w6 := hid (G2_w5.out.keep hb6)
    have P1_w6 := hid hp6
    clear hb6 hp6
    go_wp2_with fail
    refine ((sCriticalTasks_u _ L _ T_w6.out).mono fun e w' h => retL_of h HCR.out).mono ?_
    rintro e w7 ⟨a7, n7, c7, rfl, hp7, hb7⟩
    have HBw7 := hid (HBw6.out.trans (hb7.mono HBw6.out.size))
    have R1_w7 := hid (R1_w6.out.keep hb7)
    have T_w7 := hid (T_w6.out.keep hb7)
    have F1_w7 := hid (F1_w6.out.keep hb7)
    have F2_w7 := hid (F2_w6.out.keep hb7)
    have G1_w7 := hid (G1_w6.out.keep hb7)
    have G2_w7 := hid (G2_w6.out.keep hb7)
    have P1_w7 := hid (P1_w6.out.keep hb7)
    have P2_w7 := hid hp7
    clear hb7 hp7
    go_wp2_with fail
    refine (sameInts_y _ _ [] _ F1_w7.out F2_w7.out).mono ?_
    rintro e w8 ⟨rfl, hb8⟩
    have HBw8 := hid (HBw7.out.trans (hb8.mono HBw7.out.size))
    have R1_w8 := hid (R1_w7.out.keep hb8)
    have T_w8 := hid (T_w7.out.keep hb8)
    have F1_w8 := hid (F1_w7.out.keep hb8)
    have F2_w8 := hid (F2_w7.out.keep hb8)
    have G1_w8 := hid (G1_w7.out.keep hb8)
    have G2_w8 := hid (G2_w7.out.keep hb8)
    have P1_w8 := hid (P1_w7.out.keep hb8)
    have P2_w8 := hid (P2_w7.out.keep hb8)
    clear hb8
    go_wp2_with fail
    refine (sameInts_y _ _ [] _ G1_w8.out G2_w8.out).mono ?_
    rintro e w9 ⟨rfl, hb9⟩
    have HBw9 := hid (HBw8.out.trans (hb9.mono HBw8.out.size))
    have R1_w9 := hid (R1_w8.out.keep hb9)
    have T_w9 := hid (T_w8.out.keep hb9)
    have F1_w9 := hid (F1_w8.out.keep hb9)
    have F2_w9 := hid (F2_w8.out.keep hb9)
    have G1_w9 := hid (G1_w8.out.keep hb9)
    have G2_w9 := hid (G2_w8.out.keep hb9)
    have P1_w9 := hid (P1_w8.out.keep hb9)
    have P2_w9 := hid (P2_w8.out.keep hb9)
    clear hb9
    go_wp2_with fail
    refine (sameInts_y _ _ [] _ P1_w9.out P2_w9.out).mono ?_
    rintro e w10 ⟨rfl, hb10⟩
    have HBw10 := hid (HBw9.out.trans (hb10.mono HBw9.out.size))
    have R1_w10 := hid (R1_w9.out.keep hb10)
    have T_w10 := hid (T_w9.out.keep hb10)
    have F1_w10 := hid (F1_w9.out.keep hb10)
    have F2_w10 := hid (F2_w9.out.keep hb10)
    have G1_w10 := hid (G1_w9.out.keep hb10)
    have G2_w10 := hid (G2_w9.out.keep hb10)
    have P1_w10 := hid (P1_w9.out.keep hb10)
    have P2_w10 := hid (P2_w9.out.keep hb10)
    clear hb10
    go_wp2_with fail
    refine (DrawLatestStarts_c _ x1 _ R1_w10.out).mono ?_
    rintro e w11 ⟨vU, U, E, rfl, hu13, hU, hb11⟩
    have HBw11 := hid (HBw10.out.trans (hb11.mono HBw10.out.size))
    have R1_w11 := hid (R1_w10.out.keep hb11)
    have U_w11 := hid hU
    obtain ⟨au, cu, rfl⟩ := hU.form
    clear hb11 hU
    obtain ⟨K, q, hKq⟩ : ∃ K q, lateB U E = (K, q) := ⟨_, _, rfl⟩
    have HKQ := hid hKq
    clear hKq
    go_wp2_with fail
    refine ((iLatestStarts_u _ U E _ U_w11.out).mono fun e w' h => retL_of h HKQ.out).mono ?_
    rintro e w12 ⟨a12, n12, c12, rfl, hp12, hb12⟩
    have HBw12 := hid (HBw11.out.trans (hb12.mono HBw11.out.size))
    have R1_w12 := hid (R1_w11.out.keep hb12)
    have U_w12 := hid (U_w11.out.keep hb12)
    have K1_w12 := hid hp12
    clear hb12 hp12
    go_wp2_with fail
    refine ((sLatestStarts_u _ U E _ U_w12.out).mono fun e w' h => retL_of h HKQ.out).mono ?_
    rintro e w13 ⟨a13, n13, c13, rfl, hp13, hb13⟩
    have HBw13 := hid (HBw12.out.trans (hb13.mono HBw12.out.size))
    have R1_w13 := hid (R1_w12.out.keep hb13)
    have U_w13 := hid (U_w12.out.keep hb13)
    have K1_w13 := hid (K1_w12.out.keep hb13)
    have K2_w13 := hid hp13
    clear hb13 hp13
    go_wp2_with fail
    refine (sameInts_y _ _ K _ K1_w13.out K2_w13.out).mono ?_
    rintro e w14 ⟨rfl, hb14⟩
    have HBw14 := hid (HBw13.out.trans (hb14.mono HBw13.out.size))
    have R1_w14 := hid (R1_w13.out.keep hb14)
    have U_w14 := hid (U_w13.out.keep hb14)
    have K1_w14 := hid (K1_w13.out.keep hb14)
    have K2_w14 := hid (K2_w13.out.keep hb14)
    clear hb14
    cases q
    · skip
      go_wp2_with fail
      refine (DrawMostAtOnce_c _ x1 _ R1_w14.out).mono ?_
      rintro e w15 ⟨vX, X, uY, Y, rfl, hx13, hy20, hX, hY, hb15⟩
      have HBw15 := hid (HBw14.out.trans (hb15.mono HBw14.out.size))
      have X_w15 := hid hX
      have Y_w15 := hid hY
      obtain ⟨ax, cx, rfl⟩ := hX.form
      obtain ⟨ay, cy, rfl⟩ := hY.form
      clear hb15 hX hY
      obtain ⟨tm, mc, q, hpq⟩ : ∃ t c q, mostB X Y = (t, c, q) := ⟨_, _, _, rfl⟩
      have HPQ := hid hpq
      clear hpq
      go_wp2_with fail
      refine ((iMostAtOnce_u _ X _ Y _ X_w15.out Y_w15.out).mono fun e w' h => retZZ_of h HPQ.out).mono ?_
      rintro e w16 ⟨rfl, hb16⟩
      have HBw16 := hid (HBw15.out.trans (hb16.mono HBw15.out.size))
      have X_w16 := hid (X_w15.out.keep hb16)
      have Y_w16 := hid (Y_w15.out.keep hb16)
      clear hb16
      go_wp2_with fail
      refine ((sMostAtOnce_u _ X _ Y _ X_w16.out Y_w16.out).mono fun e w' h => retZZ_of h HPQ.out).mono ?_
      rintro e w17 ⟨rfl, hb17⟩
      have HBw17 := hid (HBw16.out.trans (hb17.mono HBw16.out.size))
      have X_w17 := hid (X_w16.out.keep hb17)
      have Y_w17 := hid (Y_w16.out.keep hb17)
      clear hb17
      cases q
      · go_wp2
        go_ret
        exact ⟨rfl, HBw17.out⟩
      · obtain ⟨htx, hyl, hyr, hcnt, hc0⟩ := most_parts HPQ.out
        have HGX := hid (good_of_tasksB htx)
        have HYL := hid hyl
        have HYR := hid hyr
        have HCNT := hid hcnt
        have hxl12 := HGX.out.1
        have HX0 := X_w17
        have HY0 := Y_w17
        clear htx hyl hyr hcnt
        go_wp2
        go_loopg [42, 259] X.length (fun gk nv iv wr => ∃ (k : Nat) (n : Int), k ≤ X.length ∧ gk = X.length - k ∧ iv = .int .i64 k ∧ nv = .int .i64 n ∧ Hid (cntF X Y tm = cntL Y tm k (X.drop k) n) ∧ 0 ≤ n ∧ n ≤ (k : Int) ∧ Below w17.heap.size w17 wr)
        case atStart => exact ⟨0, 0, Nat.zero_le _, by first | rfl | omega, rfl, rfl, hid rfl, by omega, by omega, Below.refl _ _⟩
        case round =>
          obtain ⟨k, n, hk, rfl, rfl, rfl, HRR, hn0, hn1, hb⟩ := hrel
          have HB := hid hb
          by_cases hlt : k < X.length
          · obtain ⟨a', cap', hv, _, _, hc⟩ := HX0.out.keep hb
            simp only [Value.slice.injEq, true_and] at hv
            obtain ⟨rfl, rfl⟩ := hv
            obtain ⟨b', capb', hv, _, _, hc'⟩ := HY0.out.keep hb
            simp only [Value.slice.injEq, true_and] at hv
            obtain ⟨rfl, rfl⟩ := hv
            obtain ⟨g, o, r, y, tt, rfl, c1, c2, hy, HD, HG2⟩ := tasks_at hc hlt
            obtain ⟨gb, ob, s, rfl, c3, _, HX⟩ := ints_at hc' (show k < Y.length by have := HYL.out; omega)
            have hx := HYR.out k (by have := HYL.out; omega)
            have htm := (HGX.out.2 k hlt).2
            rw [HX.out] at hx
            rw [HG2.out] at htm
            have htm : 0 ≤ tt ∧ tt ≤ 2000 := htm
            obtain ⟨ay2, cy2, rfl, hy1, hy2, hyc⟩ := hy
            clear hc hc' hb hyc
            have ha : Below wr.heap.size wr (wr.alloc (.cells #[.slice ay2 y.length cy2, .int .i64 tt] 67)) := (Below.refl _ _).alloc (Nat.le_refl _) _
            have HB1 := hid (HB.out.trans (ha.mono HB.out.size))
            have e3 := (ha.cell (p := ⟨gb, ob + k, none⟩) (cell_lt c3)).trans c3
            clear ha
            have hltz : (k : Int) < (X.length : Int) := by omega
            have hltz' : (k : Int) < (Y.length : Int) := by have := HYL.out; omega
            have f1 : IntKind.i64.wrap (s + tt) = s + tt := IntWalk.i64_in _ (by omega)
            by_cases t1 : s ≤ tm
            · by_cases t2 : tm < s + tt
              · have HST : Hid (cntF X Y tm = cntL Y tm (k + 1) (X.drop (k + 1)) (n + 1)) := by show _ = _; rw [HRR.out, HD.out, cntL_yes (by rw [HX.out]; exact inB_iff.2 ⟨t1, by show tm ≤ s + tt - 1; omega⟩)]
                have d1 : decide (s ≤ tm) = true := decide_eq_true t1
                have d2 : decide (tm < s + tt) = true := decide_eq_true t2
                have f2 : IntKind.i64.wrap (n + 1) = n + 1 := IntWalk.i64_in _ (by omega)
                go_wp2
                go_quiet (fail)
                go_wp2
                go_roundg (X.length - (k + 1))
                case rel => exact ⟨k + 1, _, by omega, rfl, by go_num, rfl, HST, by omega, by omega, below_dn HB1.out _⟩
                case measure => omega
              · have HST : Hid (cntF X Y tm = cntL Y tm (k + 1) (X.drop (k + 1)) n) := by show _ = _; rw [HRR.out, HD.out, cntL_no (by rw [HX.out]; exact inB_false.2 (fun h => t2 (by have := h.2; dsimp only at this; omega)))]
                have d1 : decide (s ≤ tm) = true := decide_eq_true t1
                have d2 : decide (tm < s + tt) = false := decide_eq_false t2
                go_wp2
                go_quiet (fail)
                go_wp2
                go_roundg (X.length - (k + 1))
                case rel => exact ⟨k + 1, _, by omega, rfl, by go_num, rfl, HST, by omega, by omega, below_dn HB1.out _⟩
                case measure => omega
            · have HST : Hid (cntF X Y tm = cntL Y tm (k + 1) (X.drop (k + 1)) n) := by show _ = _; rw [HRR.out, HD.out, cntL_no (by rw [HX.out]; exact inB_false.2 (fun h => t1 h.1))]
              have d1 : decide (s ≤ tm) = false := decide_eq_false t1
              go_wp2
              go_quiet (fail)
              go_wp2
              go_roundg (X.length - (k + 1))
              case rel => exact ⟨k + 1, _, by omega, rfl, by go_num, rfl, HST, by omega, by omega, below_dn HB1.out _⟩
              case measure => omega
          · have HGE : Hid (n = mc) := by show _ = _; rw [← HCNT.out, HRR.out, List.drop_eq_nil_of_le (by omega), cntL_nil]
            have HB2 := hid (HBw17.out.trans (hb.mono HBw17.out.size))
            have hmn : n = mc := HGE.out
            subst hmn
            have hgt : n > 0 := hc0
            clear hb
            go_wp2
            go_ret
            exact ⟨rfl, HB2.out⟩
    · have HAR := hid (late_are HKQ.out)
      go_wp2_with fail
      refine ((iAreStarts_u _ U _ K _ U_w14.out K1_w14.out).mono fun e w' h => retT_of h HAR.out).mono ?_
      rintro e w15 ⟨rfl, hb15⟩
      have HBw15 := hid (HBw14.out.trans (hb15.mono HBw14.out.size))
      have R1_w15 := hid (R1_w14.out.keep hb15)
      have U_w15 := hid (U_w14.out.keep hb15)
      have K1_w15 := hid (K1_w14.out.keep hb15)
      have K2_w15 := hid (K2_w14.out.keep hb15)
      clear hb15
      go_wp2_with fail
      refine (DrawMostAtOnce_c _ x1 _ R1_w15.out).mono ?_
      rintro e w16 ⟨vX, X, uY, Y, rfl, hx13, hy20, hX, hY, hb16⟩
      have HBw16 := hid (HBw15.out.trans (hb16.mono HBw15.out.size))
      have X_w16 := hid hX
      have Y_w16 := hid hY
      obtain ⟨ax, cx, rfl⟩ := hX.form
      obtain ⟨ay, cy, rfl⟩ := hY.form
      clear hb16 hX hY
      obtain ⟨tm, mc, q, hpq⟩ : ∃ t c q, mostB X Y = (t, c, q) := ⟨_, _, _, rfl⟩
      have HPQ := hid hpq
      clear hpq
      go_wp2_with fail
      refine ((iMostAtOnce_u _ X _ Y _ X_w16.out Y_w16.out).mono fun e w' h => retZZ_of h HPQ.out).mono ?_
      rintro e w17 ⟨rfl, hb17⟩
      have HBw17 := hid (HBw16.out.trans (hb17.mono HBw16.out.size))
      have X_w17 := hid (X_w16.out.keep hb17)
      have Y_w17 := hid (Y_w16.out.keep hb17)
      clear hb17
      go_wp2_with fail
      refine ((sMostAtOnce_u _ X _ Y _ X_w17.out Y_w17.out).mono fun e w' h => retZZ_of h HPQ.out).mono ?_
      rintro e w18 ⟨rfl, hb18⟩
      have HBw18 := hid (HBw17.out.trans (hb18.mono HBw17.out.size))
      have X_w18 := hid (X_w17.out.keep hb18)
      have Y_w18 := hid (Y_w17.out.keep hb18)
      clear hb18
      cases q
      · go_wp2
        go_ret
        exact ⟨rfl, HBw18.out⟩
      · obtain ⟨htx, hyl, hyr, hcnt, hc0⟩ := most_parts HPQ.out
        have HGX := hid (good_of_tasksB htx)
        have HYL := hid hyl
        have HYR := hid hyr
        have HCNT := hid hcnt
        have hxl12 := HGX.out.1
        have HX0 := X_w18
        have HY0 := Y_w18
        clear htx hyl hyr hcnt
        go_wp2
        go_loopg [42, 259] X.length (fun gk nv iv wr => ∃ (k : Nat) (n : Int), k ≤ X.length ∧ gk = X.length - k ∧ iv = .int .i64 k ∧ nv = .int .i64 n ∧ Hid (cntF X Y tm = cntL Y tm k (X.drop k) n) ∧ 0 ≤ n ∧ n ≤ (k : Int) ∧ Below w18.heap.size w18 wr)
        case atStart => exact ⟨0, 0, Nat.zero_le _, by first | rfl | omega, rfl, rfl, hid rfl, by omega, by omega, Below.refl _ _⟩
        case round =>
          obtain ⟨k, n, hk, rfl, rfl, rfl, HRR, hn0, hn1, hb⟩ := hrel
          have HB := hid hb
          by_cases hlt : k < X.length
          · obtain ⟨a', cap', hv, _, _, hc⟩ := HX0.out.keep hb
            simp only [Value.slice.injEq, true_and] at hv
            obtain ⟨rfl, rfl⟩ := hv
            obtain ⟨b', capb', hv, _, _, hc'⟩ := HY0.out.keep hb
            simp only [Value.slice.injEq, true_and] at hv
            obtain ⟨rfl, rfl⟩ := hv
            obtain ⟨g, o, r, y, tt, rfl, c1, c2, hy, HD, HG2⟩ := tasks_at hc hlt
            obtain ⟨gb, ob, s, rfl, c3, _, HX⟩ := ints_at hc' (show k < Y.length by have := HYL.out; omega)
            have hx := HYR.out k (by have := HYL.out; omega)
            have htm := (HGX.out.2 k hlt).2
            rw [HX.out] at hx
            rw [HG2.out] at htm
            have htm : 0 ≤ tt ∧ tt ≤ 2000 := htm
            obtain ⟨ay2, cy2, rfl, hy1, hy2, hyc⟩ := hy
            clear hc hc' hb hyc
            have ha : Below wr.heap.size wr (wr.alloc (.cells #[.slice ay2 y.length cy2, .int .i64 tt] 67)) := (Below.refl _ _).alloc (Nat.le_refl _) _
            have HB1 := hid (HB.out.trans (ha.mono HB.out.size))
            have e3 := (ha.cell (p := ⟨gb, ob + k, none⟩) (cell_lt c3)).trans c3
            clear ha
            have hltz : (k : Int) < (X.length : Int) := by omega
            have hltz' : (k : Int) < (Y.length : Int) := by have := HYL.out; omega
            have f1 : IntKind.i64.wrap (s + tt) = s + tt := IntWalk.i64_in _ (by omega)
            by_cases t1 : s ≤ tm
            · by_cases t2 : tm < s + tt
              · have HST : Hid (cntF X Y tm = cntL Y tm (k + 1) (X.drop (k + 1)) (n + 1)) := by show _ = _; rw [HRR.out, HD.out, cntL_yes (by rw [HX.out]; exact inB_iff.2 ⟨t1, by show tm ≤ s + tt - 1; omega⟩)]
                have d1 : decide (s ≤ tm) = true := decide_eq_true t1
                have d2 : decide (tm < s + tt) = true := decide_eq_true t2
                have f2 : IntKind.i64.wrap (n + 1) = n + 1 := IntWalk.i64_in _ (by omega)
                go_wp2
                go_quiet (fail)
                go_wp2
                go_roundg (X.length - (k + 1))
                case rel => exact ⟨k + 1, _, by omega, rfl, by go_num, rfl, HST, by omega, by omega, below_dn HB1.out _⟩
                case measure => omega
              · have HST : Hid (cntF X Y tm = cntL Y tm (k + 1) (X.drop (k + 1)) n) := by show _ = _; rw [HRR.out, HD.out, cntL_no (by rw [HX.out]; exact inB_false.2 (fun h => t2 (by have := h.2; dsimp only at this; omega)))]
                have d1 : decide (s ≤ tm) = true := decide_eq_true t1
                have d2 : decide (tm < s + tt) = false := decide_eq_false t2
                go_wp2
                go_quiet (fail)
                go_wp2
                go_roundg (X.length - (k + 1))
                case rel => exact ⟨k + 1, _, by omega, rfl, by go_num, rfl, HST, by omega, by omega, below_dn HB1.out _⟩
                case measure => omega
            · have HST : Hid (cntF X Y tm = cntL Y tm (k + 1) (X.drop (k + 1)) n) := by show _ = _; rw [HRR.out, HD.out, cntL_no (by rw [HX.out]; exact inB_false.2 (fun h => t1 h.1))]
              have d1 : decide (s ≤ tm) = false := decide_eq_false t1
              go_wp2
              go_quiet (fail)
              go_wp2
              go_roundg (X.length - (k + 1))
              case rel => exact ⟨k + 1, _, by omega, rfl, by go_num, rfl, HST, by omega, by omega, below_dn HB1.out _⟩
              case measure => omega
          · have HGE : Hid (n = mc) := by show _ = _; rw [← HCNT.out, HRR.out, List.drop_eq_nil_of_le (by omega), cntL_nil]
            have HB2 := hid (HBw18.out.trans (hb.mono HBw18.out.size))
            have hmn : n = mc := HGE.out
            subst hmn
            have hgt : n > 0 := hc0
            clear hb
            go_wp2
            go_ret
            exact ⟨rfl, HB2.out⟩

set_option maxRecDepth 100000 in
theorem fnFloats_lifted (os : Os) (started : os.Started) (H : Type) (enc : TypeId × Value → H) :
    ReturnsInHanded {} Try.checked os 7 .any (Rows.fnFloatsSpec.pre6 enc Try.prog Try.f7 Rows.fnFloatsRow.domain false) (Rows.fnFloatsSpec.post enc Try.prog Try.f7 false true false false) := by
  refine returnsInHanded_of_change (C := Try.checked) Try.own' started (by kernel_rfl) Try.func7
    (ChangeSpec.witness6 (enc := enc) (C := Try.checked) false ⟨#[], #[.slice none 0 0, .slice none 0 0], []⟩ 8 (by kernel_rfl) (by kernel_rfl) (by kernel_rfl) (by kernel_rfl)) ?_
  intro W base args ds gs before hval0 hW hcnd _
  have hval : ∀ (j : Nat) t v, Try.f7.params[j]? = some t → args[j]? = some v → Value.okWide Try.prog W .any base t v := hval0
  have hW' := hW
  obtain ⟨p, q, hA0, hV, rfl, hfz, hnd⟩ := hW
  have hA : DataW.TrodAll enc Try.prog W 0 (fun _ => true) true Try.f7.params.toList args.toList ds p := hA0
  rw [Try.params7] at hA hval
  obtain ⟨v0, vs0, d0, ds0, p0, q0, hargs, rfl, rfl, h0, t0⟩ := trodAll_cons hA
  obtain ⟨v1, vs1, d1, ds1, p1, q1, rfl, rfl, rfl, h1, t1⟩ := trodAll_cons t0
  obtain ⟨rfl, rfl, rfl⟩ := trodAll_nil t1
  obtain rfl : args = #[v0, v1] := by cases args; simp_all
  obtain ⟨rfl, rfl⟩ := trodVars_none hV
  have k0 := h0
  have lt0 := trod_blocks k0
  obtain ⟨x0, r0, i0⟩ := open_rbytes (hval 0 28 v0 rfl rfl) h0
  have k1 := h1
  have lt1 := trod_blocks k1
  obtain ⟨x1, r1, i1⟩ := open_rbytes (hval 1 28 v1 rfl rfl) h1
  clear hA0 hval0
  refine (FnFloats_c v0 x0 v1 x1 W r0 r1).mono fun e W' ⟨he, bel⟩ => ?_
  subst he
  exact ⟨_, rfl, _, _, _, [], _, [], hW', trodAll_mk1 (shut_bool Try.underlying4 _), (trodAll_cons_mk (Below.trod Try.laidOut' (by kernel_rfl) (of_decide_eq_true (by kernel_rfl)) k0 bel lt0) (trodAll_cons_mk (Below.trod Try.laidOut' (by kernel_rfl) (of_decide_eq_true (by kernel_rfl)) k1 bel lt1) trodAll_mk0)), rfl, bel.frame _, fun h => by cases h⟩

theorem fnFloats_holds : Rows.FnFloatsSaid :=
  OpenClaim.holds_of_wide 7 Try.f7 rfl rfl rfl rfl rfl rfl rfl ⟨rfl, rfl, rfl, rfl, rfl⟩ rfl rfl rfl rfl rfl (by kernel_rfl) Try.func7 (by kernel_rfl)
    (of_decide_eq_true (by kernel_rfl)) (by unfold Func.isWrapper; first | (rw [if_pos (by decide +kernel)]; kernel_rfl) | (rw [if_neg (by decide +kernel)]; exact ⟨rfl, rfl⟩))
    (fun os started H enc _ => fnFloats_lifted os started H enc)

end Go.Proofs.Ytegeelldcomnnaa
