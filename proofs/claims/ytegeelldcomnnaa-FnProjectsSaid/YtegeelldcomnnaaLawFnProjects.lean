/- FnProjects returns true for every input, and its arguments read as before. No condition. -/
import Derived.Test.YtegeelldcomnnaaProjQ
namespace Go.Proofs.Ytegeelldcomnnaa
open Go.ChangeShapes Go.WideShapes Go.ChangeAt Go.RowKit
open Go.Lib (hid)

set_option maxRecDepth 100000 in
set_option maxHeartbeats 40000000 in
theorem FnProjects_c (v0 : Value) (x0 : Nat) (v1 : Value) (x1 : Nat) (w : World) (r0 : RBytes w v0 x0) (r1 : RBytes w v1 x1) :
    Calls Try.prog 6 #[v0, v1] w fun e w' => e = .returned (.bool true) ∧ Below w.heap.size w w' := by
  have R0 := hid r0
  have R1 := hid r1
  obtain ⟨a0, c0, rfl, hx0, hm0⟩ := r0.form
  obtain ⟨a1, c1, rfl, hx1, hm1⟩ := r1.form
  unfold maxLen at hm0 hm1
  clear r0 r1
  cases tbig : bigB x0 x1
  case' true =>
    have HTB := hid tbig
    clear tbig
    go_enter Try.func6, Try.ntmps6
    go_wp2_with fail
    refine (big_c _ _ _ _ _ R0.out R1.out).mono ?_
    rintro e w' ⟨rfl, q, rfl⟩
    rw [HTB.out]
    go_wp2
    go_ret
    exact ⟨rfl, below_drewN (Below.refl _ _) _⟩
  have HTB := hid tbig
  clear tbig
  go_enter Try.func6, Try.ntmps6
  go_wp2_with fail
  refine (big_c _ _ _ _ _ R0.out R1.out).mono ?_
  rintro e w0 ⟨rfl, qb, hqb⟩
  rw [HTB.out]
  have HB0 : Hid (Below w.heap.size w w0) := by rw [hqb]; exact below_drewN (Below.refl _ _) _
  have R0_0 := hid (R0.out.keep HB0.out)
  have R1_0 := hid (R1.out.keep HB0.out)
  clear hqb
  go_wp2_with fail
  refine (DrawEarliestStarts_c _ x0 _ R0_0.out).mono ?_
  rintro e w1 ⟨vL, L, rfl, hl13, hT, hb1⟩
  have HBw1 := hid (HB0.out.trans (hb1.mono HB0.out.size))
  have R1_w1 := hid (R1_0.out.keep hb1)
  have T_w1 := hid hT
  obtain ⟨al, nl, cl, rfl, HNL⟩ := hT.form4
  clear hb1 hT
  have hcase : (tasksB L = false) ∨ (tasksB L = true ∧ chnF L = none ∧ L.length = 0) ∨ (tasksB L = true ∧ ∃ r, chnF L = some r ∧ 0 < L.length) := by
    cases tb : tasksB L with
    | false => exact .inl rfl
    | true =>
      by_cases h0 : L.length = 0
      · exact .inr (.inl ⟨rfl, chn_nil h0, h0⟩)
      · right; right
        refine ⟨rfl, ?_⟩
        have h := chn_isSome (good_of_tasksB tb) (by omega)
        obtain ⟨r, hr⟩ := Option.isSome_iff_exists.1 h
        exact ⟨r, hr, by omega⟩
  rcases hcase with tb | ⟨tb, hn, h0⟩ | ⟨tb, r, hr, h0⟩
  · -- F
    have HEA := hid (earlyB_no tb)
    have HEN := hid (endB_no tb)
    have HCH := hid (chnB_no tb)
    have HTB := hid tb
    clear tb
    go_wp2_with fail
    refine ((iEarliestStarts_u _ L _ T_w1.out).mono fun e w' h => retL_of h HEA.out).mono ?_
    rintro e w2 ⟨a2, n2, c2, rfl, hp2, hb2⟩
    have HBw2 := hid (HBw1.out.trans (hb2.mono HBw1.out.size))
    have R1_w2 := hid (R1_w1.out.keep hb2)
    have T_w2 := hid (T_w1.out.keep hb2)
    have S1_w2 := hid hp2
    clear hb2 hp2
    go_wp2_with fail
    refine ((sEarliestStarts_u _ L _ T_w2.out).mono fun e w' h => retL_of h HEA.out).mono ?_
    rintro e w3 ⟨a3, n3, c3, rfl, hp3, hb3⟩
    have HBw3 := hid (HBw2.out.trans (hb3.mono HBw2.out.size))
    have R1_w3 := hid (R1_w2.out.keep hb3)
    have T_w3 := hid (T_w2.out.keep hb3)
    have S1_w3 := hid (S1_w2.out.keep hb3)
    have S2_w3 := hid hp3
    clear hb3 hp3
    go_wp2_with fail
    refine ((iProjectEnd_u _ L _ T_w3.out).mono fun e w' h => retZ_of h HEN.out).mono ?_
    rintro e w4 ⟨rfl, hb4⟩
    have HBw4 := hid (HBw3.out.trans (hb4.mono HBw3.out.size))
    have R1_w4 := hid (R1_w3.out.keep hb4)
    have T_w4 := hid (T_w3.out.keep hb4)
    have S1_w4 := hid (S1_w3.out.keep hb4)
    have S2_w4 := hid (S2_w3.out.keep hb4)
    clear hb4
    go_wp2_with fail
    refine ((sProjectEnd_u _ L _ T_w4.out).mono fun e w' h => retZ_of h HEN.out).mono ?_
    rintro e w5 ⟨rfl, hb5⟩
    have HBw5 := hid (HBw4.out.trans (hb5.mono HBw4.out.size))
    have R1_w5 := hid (R1_w4.out.keep hb5)
    have T_w5 := hid (T_w4.out.keep hb5)
    have S1_w5 := hid (S1_w4.out.keep hb5)
    have S2_w5 := hid (S2_w4.out.keep hb5)
    clear hb5
    go_wp2_with fail
    refine ((iCriticalChain_u _ L _ T_w5.out).mono fun e w' h => retL_of h HCH.out).mono ?_
    rintro e w6 ⟨a6, n6, c6, rfl, hp6, hb6⟩
    have HBw6 := hid (HBw5.out.trans (hb6.mono HBw5.out.size))
    have R1_w6 := hid (R1_w5.out.keep hb6)
    have T_w6 := hid (T_w5.out.keep hb6)
    have S1_w6 := hid (S1_w5.out.keep hb6)
    have S2_w6 := hid (S2_w5.out.keep hb6)
    have C1_w6 := hid hp6
    clear hb6 hp6
    go_wp2_with fail
    refine ((sCriticalChain_u _ L _ T_w6.out).mono fun e w' h => retL_of h HCH.out).mono ?_
    rintro e w7 ⟨a7, n7, c7, rfl, hp7, hb7⟩
    have HBw7 := hid (HBw6.out.trans (hb7.mono HBw6.out.size))
    have R1_w7 := hid (R1_w6.out.keep hb7)
    have T_w7 := hid (T_w6.out.keep hb7)
    have S1_w7 := hid (S1_w6.out.keep hb7)
    have S2_w7 := hid (S2_w6.out.keep hb7)
    have C1_w7 := hid (C1_w6.out.keep hb7)
    have C2_w7 := hid hp7
    clear hb7 hp7
    go_wp2_with fail
    refine (sameInts_y _ _ [] _ S1_w7.out S2_w7.out).mono ?_
    rintro e w8 ⟨rfl, hb8⟩
    have HBw8 := hid (HBw7.out.trans (hb8.mono HBw7.out.size))
    have R1_w8 := hid (R1_w7.out.keep hb8)
    have T_w8 := hid (T_w7.out.keep hb8)
    have S1_w8 := hid (S1_w7.out.keep hb8)
    have S2_w8 := hid (S2_w7.out.keep hb8)
    have C1_w8 := hid (C1_w7.out.keep hb8)
    have C2_w8 := hid (C2_w7.out.keep hb8)
    clear hb8
    go_wp2_with fail
    refine (sameInts_y _ _ [] _ C1_w8.out C2_w8.out).mono ?_
    rintro e w9 ⟨rfl, hb9⟩
    have HBw9 := hid (HBw8.out.trans (hb9.mono HBw8.out.size))
    have R1_w9 := hid (R1_w8.out.keep hb9)
    have T_w9 := hid (T_w8.out.keep hb9)
    have S1_w9 := hid (S1_w8.out.keep hb9)
    have S2_w9 := hid (S2_w8.out.keep hb9)
    have C1_w9 := hid (C1_w8.out.keep hb9)
    have C2_w9 := hid (C2_w8.out.keep hb9)
    clear hb9
    go_wp2_with fail
    refine (iAreTasks_u _ L _ T_w9.out).mono ?_
    rintro e w10 ⟨rfl, hb10⟩
    have HBw10 := hid (HBw9.out.trans (hb10.mono HBw9.out.size))
    have R1_w10 := hid (R1_w9.out.keep hb10)
    have T_w10 := hid (T_w9.out.keep hb10)
    have S1_w10 := hid (S1_w9.out.keep hb10)
    have S2_w10 := hid (S2_w9.out.keep hb10)
    have C1_w10 := hid (C1_w9.out.keep hb10)
    have C2_w10 := hid (C2_w9.out.keep hb10)
    clear hb10
    rw [HTB.out]
    go_wp2_with fail
    refine (DrawEndWithDelay_c _ x1 _ R1_w10.out).mono ?_
    rintro e w11 ⟨vM, M, di, by_, rfl, hm13, hM, hb11⟩
    have HBw11 := hid (HBw10.out.trans (hb11.mono HBw10.out.size))
    have R1_w11 := hid (R1_w10.out.keep hb11)
    have M_w11 := hid hM
    obtain ⟨am, cm, rfl⟩ := hM.form
    clear hb11 hM
    have hcase : (delayB M di by_ = (0, false)) ∨ (∃ i : Nat, di = (i : Int) ∧ i < M.length ∧ 0 ≤ by_ ∧ by_ ≤ 1000 ∧ tasksB M = true ∧ delayB M di by_ = (endF (delayF M i by_) (earlyF (delayF M i by_)), true)) := by
      unfold delayB
      cases t1 : tasksB M with
      | false => left; rfl
      | true =>
        cases t2 : inB di 0 ((M.length : Int) - 1) with
        | false => left; rfl
        | true =>
          cases t3 : inB by_ 0 1000 with
          | false => left; rfl
          | true =>
            right
            have h2 := inB_iff.1 t2
            have h3 := inB_iff.1 t3
            exact ⟨di.toNat, by omega, by omega, h3.1, h3.2, rfl, rfl⟩
    rcases hcase with hdel | ⟨i, hdi, hiM, hb0, hb1, tm, hdel⟩
    · have HDEL := hid hdel
      clear hdel
      go_wp2_with fail
      refine ((iEndWithDelay_u _ M di by_ _ M_w11.out).mono fun e w' h => retZ_of h HDEL.out).mono ?_
      rintro e w12 ⟨rfl, hb12⟩
      have HBw12 := hid (HBw11.out.trans (hb12.mono HBw11.out.size))
      have R1_w12 := hid (R1_w11.out.keep hb12)
      have M_w12 := hid (M_w11.out.keep hb12)
      clear hb12
      go_wp2_with fail
      refine ((sEndWithDelay_u _ M di by_ _ M_w12.out).mono fun e w' h => retZ_of h HDEL.out).mono ?_
      rintro e w13 ⟨rfl, hb13⟩
      have HBw13 := hid (HBw12.out.trans (hb13.mono HBw12.out.size))
      have R1_w13 := hid (R1_w12.out.keep hb13)
      have M_w13 := hid (M_w12.out.keep hb13)
      clear hb13
      as_aux_lemma =>
      · go_wp2_with fail
        refine (DrawIsProvedEnd_c _ x1 _ R1_w13.out).mono ?_
        rintro e w14 ⟨vX, X, uY, Y, tZ, Z, rfl, hx13, hy20, hz20, hX, hY, hZ, hb14⟩
        have HBw14 := hid (HBw13.out.trans (hb14.mono HBw13.out.size))
        have X_w14 := hid hX
        have Y_w14 := hid hY
        have Z_w14 := hid hZ
        obtain ⟨ax, cx, rfl⟩ := hX.form
        obtain ⟨ay, cy, rfl⟩ := hY.form
        obtain ⟨az, cz, rfl⟩ := hZ.form
        clear hb14 hX hY hZ
        obtain ⟨p, q, hpq⟩ : ∃ p q, provB X Y Z = (p, q) := ⟨_, _, rfl⟩
        have HPQ := hid hpq
        clear hpq
        go_wp2_with fail
        refine ((iIsProvedEnd_u _ X _ Y _ Z _ X_w14.out Y_w14.out Z_w14.out).mono fun e w' h => retT_of h HPQ.out).mono ?_
        rintro e w15 ⟨rfl, hb15⟩
        have HBw15 := hid (HBw14.out.trans (hb15.mono HBw14.out.size))
        have X_w15 := hid (X_w14.out.keep hb15)
        have Y_w15 := hid (Y_w14.out.keep hb15)
        have Z_w15 := hid (Z_w14.out.keep hb15)
        clear hb15
        go_wp2_with fail
        refine ((sIsProvedEnd_u _ X _ Y _ Z _ X_w15.out Y_w15.out Z_w15.out).mono fun e w' h => retT_of h HPQ.out).mono ?_
        rintro e w16 ⟨rfl, hb16⟩
        have HBw16 := hid (HBw15.out.trans (hb16.mono HBw15.out.size))
        have X_w16 := hid (X_w15.out.keep hb16)
        have Y_w16 := hid (Y_w15.out.keep hb16)
        have Z_w16 := hid (Z_w15.out.keep hb16)
        clear hb16
        cases q
        · cases p
          all_goals
            go_wp2
            go_ret
            exact ⟨rfl, HBw16.out⟩
        · cases p
          · go_wp2
            go_ret
            exact ⟨rfl, HBw16.out⟩
          · obtain ⟨hE, htx, hyl, hyr⟩ := prov_end HPQ.out
            have HGX := hid (good_of_tasksB htx)
            have hen := endB_yes htx
            rw [← hE] at hen
            have HEN3 := hid hen
            have HYL := hid hyl
            have HYR := hid hyr
            have hxl12 := HGX.out.1
            clear hE htx hen hyl hyr
            go_wp2_with fail
            refine ((iProjectEnd_u _ X _ X_w16.out).mono fun e w' h => retZ_of h HEN3.out).mono ?_
            rintro e w17 ⟨rfl, hb17⟩
            have HBw17 := hid (HBw16.out.trans (hb17.mono HBw16.out.size))
            have X_w17 := hid (X_w16.out.keep hb17)
            have Y_w17 := hid (Y_w16.out.keep hb17)
            have Z_w17 := hid (Z_w16.out.keep hb17)
            clear hb17
            obtain ⟨gx, ox, cxx, rx, _, _, hvx, hcx⟩ := rtasks_open X_w17.out
            obtain ⟨_, _, hvy, _, _, hcy⟩ := Y_w17.out
            simp only [Value.slice.injEq] at hvy
            obtain ⟨rfl, _, rfl⟩ := hvy
            have HCX := hid hcx
            have HCY := hid hcy
            have HVX := hid hvx
            clear hcx hcy hvx
            obtain ⟨nY, hnY⟩ : ∃ nY, Y.length = nY := ⟨_, rfl⟩
            have HNY : Hid (nY = X.length) := hnY.symm.trans HYL.out
            have hny12 : nY ≤ 12 := by have := HNY.out; omega
            have HNYY := hid hnY
            rw [hnY]
            clear hnY
            go_wp2
            go_loopg [50, 329] (nY + 1) (fun gk lv iv wr => ∃ (i : Nat) (acc : Int), iv = .int .i64 i ∧ lv = .int .i64 acc ∧ i ≤ nY ∧ gk = nY + 1 - i ∧ wr = w17 ∧ Hid (endF X Y = endL Y i (X.drop i) acc) ∧ 0 ≤ acc ∧ acc ≤ 200000)
            case atStart => exact ⟨0, 0, rfl, rfl, Nat.zero_le _, rfl, rfl, hid (by rw [List.drop_zero]; rfl), by omega, by omega⟩
            case round =>
              obtain ⟨i, acc, rfl, rfl, hi, rfl, rfl, HAC, ha0, ha1⟩ := hrel
              by_cases hlt : i < nY
              · have hiX : i < X.length := by have := HNY.out; omega
                have hxv := HVX.out (by omega)
                simp only [Value.slice.injEq] at hxv
                obtain ⟨rfl, _, rfl⟩ := hxv
                obtain ⟨_, e1, _⟩ := HCX.out i hiX
                obtain ⟨g2, o2, hga, e2⟩ := HCY.out i (by rw [HNYY.out]; exact hlt)
                subst hga
                have hty := HYR.out i hiX
                have htt := (HGX.out.2 i hiX).2
                have HDR := hid (drop_cons X noTsk i hiX)
                obtain ⟨tt, htt2⟩ : ∃ tt, (X.getD i noTsk).time = tt := ⟨_, rfl⟩
                obtain ⟨yy, hyy2⟩ : ∃ yy, Y.getD i 0 = yy := ⟨_, rfl⟩
                have HTT := hid htt2
                have HYY := hid hyy2
                rw [htt2] at e1 htt
                rw [hyy2] at e2 hty
                clear htt2 hyy2
                have f9 : IntKind.i64.wrap (yy + tt) = yy + tt := IntWalk.i64_in _ (by omega)
                have hlz : (i : Int) < (nY : Int) := by omega
                have hlz2 : (i : Int) < (X.length : Int) := by omega
                have HST : Hid (endF X Y = endL Y (i + 1) (X.drop (i + 1)) (max acc (yy + tt))) := by
                  show _ = _
                  rw [HAC.out, HDR.out, endL_cons, HTT.out, HYY.out]
                clear HDR
                by_cases hgt : yy + tt > acc
                · have hmx : max acc (yy + tt) = yy + tt := by omega
                  rw [hmx] at HST
                  clear hmx
                  go_wp2
                  go_roundg (nY + 1 - (i + 1))
                  case rel => exact ⟨i + 1, _, by go_num, rfl, by omega, rfl, rfl, HST, by omega, by omega⟩
                  case measure => omega
                · have hmx : max acc (yy + tt) = acc := by omega
                  rw [hmx] at HST
                  clear hmx
                  go_wp2
                  go_roundg (nY + 1 - (i + 1))
                  case rel => exact ⟨i + 1, _, by go_num, rfl, by omega, rfl, rfl, HST, by omega, by omega⟩
                  case measure => omega
              · obtain rfl : i = nY := by omega
                have hend : endF X Y = acc := by rw [HAC.out, List.drop_eq_nil_of_le (by have := HNY.out; omega), endL_nil]
                rw [hend]
                clear hend HAC
                go_wp2
                go_ret
                exact ⟨rfl, HBw17.out⟩
    · subst hdi
      have HGM := hid (good_of_tasksB tm)
      have hen := endB_yes tm
      have hcr : critB M = (placesF (floatF M) 0, true) := by unfold critB; rw [tm]; rfl
      have hD := delayF_good tm hb0 hb1 (i := i)
      have hde := delay_end HGM.out hD hb0
      have hcrit := fun h => delay_critical HGM.out hD hb0 hiM h
      have hhas : hasB (placesF (floatF M) 0) (i : Int) = ((floatF M).getD i 0 == 0) := hasB_places (by rw [floatF_len HGM.out]; exact hiM)
      have hr1 := endF_range HGM.out
      obtain ⟨E1, hE1⟩ : ∃ E, endF M (earlyF M) = E := ⟨_, rfl⟩
      obtain ⟨E2, hE2⟩ : ∃ E, endF (delayF M i by_) (earlyF (delayF M i by_)) = E := ⟨_, rfl⟩
      obtain ⟨fl, hfl⟩ : ∃ fl, (floatF M).getD i 0 = fl := ⟨_, rfl⟩
      rw [hE1] at hen hde hcrit hr1
      rw [hE2] at hdel hde hcrit
      rw [hfl] at hcrit hhas
      have hbr : (fl == 0) = true → E2 = E1 + by_ := fun h => hcrit (by simpa using h)
      obtain ⟨bc, hbc⟩ : ∃ bc, (fl == 0) = bc := ⟨_, rfl⟩
      rw [hbc] at hhas hbr
      have HDEL := hid hdel
      have HEN1 := hid hen
      have HCR := hid hcr
      have HHAS := hid hhas
      have HBR := hid hbr
      have hd1 : ¬ (E2 < E1) := by omega
      have hd2 : ¬ (E2 > E1 + by_) := by omega
      have f7 : IntKind.i64.wrap (E1 + by_) = E1 + by_ := IntWalk.i64_in _ (by omega)
      clear hen hcr hD hde hcrit hhas hbr hfl hbc hE1 hE2 hdel tm hr1
      go_wp2_with fail
      refine ((iEndWithDelay_u _ M (i : Int) by_ _ M_w11.out).mono fun e w' h => retZ_of h HDEL.out).mono ?_
      rintro e w12 ⟨rfl, hb12⟩
      have HBw12 := hid (HBw11.out.trans (hb12.mono HBw11.out.size))
      have R1_w12 := hid (R1_w11.out.keep hb12)
      have M_w12 := hid (M_w11.out.keep hb12)
      clear hb12
      go_wp2_with fail
      refine ((sEndWithDelay_u _ M (i : Int) by_ _ M_w12.out).mono fun e w' h => retZ_of h HDEL.out).mono ?_
      rintro e w13 ⟨rfl, hb13⟩
      have HBw13 := hid (HBw12.out.trans (hb13.mono HBw12.out.size))
      have R1_w13 := hid (R1_w12.out.keep hb13)
      have M_w13 := hid (M_w12.out.keep hb13)
      clear hb13
      go_wp2_with fail
      refine ((iProjectEnd_u _ M _ M_w13.out).mono fun e w' h => retZ_of h HEN1.out).mono ?_
      rintro e w14 ⟨rfl, hb14⟩
      have HBw14 := hid (HBw13.out.trans (hb14.mono HBw13.out.size))
      have R1_w14 := hid (R1_w13.out.keep hb14)
      have M_w14 := hid (M_w13.out.keep hb14)
      clear hb14
      go_wp2_with fail
      refine ((iCriticalTasks_u _ M _ M_w14.out).mono fun e w' h => retL_of h HCR.out).mono ?_
      rintro e w15 ⟨a15, n15, c15, rfl, hp15, hb15⟩
      have HBw15 := hid (HBw14.out.trans (hb15.mono HBw14.out.size))
      have R1_w15 := hid (R1_w14.out.keep hb15)
      have M_w15 := hid (M_w14.out.keep hb15)
      have P1_w15 := hid hp15
      clear hb15 hp15
      go_wp2_with fail
      refine ((sCriticalTasks_u _ M _ M_w15.out).mono fun e w' h => retL_of h HCR.out).mono ?_
      rintro e w16 ⟨a16, n16, c16, rfl, hp16, hb16⟩
      have HBw16 := hid (HBw15.out.trans (hb16.mono HBw15.out.size))
      have R1_w16 := hid (R1_w15.out.keep hb16)
      have M_w16 := hid (M_w15.out.keep hb16)
      have P1_w16 := hid (P1_w15.out.keep hb16)
      have P2_w16 := hid hp16
      clear hb16 hp16
      go_wp2_with fail
      refine (sameInts_y _ _ (placesF (floatF M) 0) _ P1_w16.out P2_w16.out).mono ?_
      rintro e w17 ⟨rfl, hb17⟩
      have HBw17 := hid (HBw16.out.trans (hb17.mono HBw16.out.size))
      have R1_w17 := hid (R1_w16.out.keep hb17)
      have M_w17 := hid (M_w16.out.keep hb17)
      have P1_w17 := hid (P1_w16.out.keep hb17)
      have P2_w17 := hid (P2_w16.out.keep hb17)
      clear hb17
      cases bc
      case' true =>
        have hbe := HBR.out rfl
        have hbe2 : (E2 != E1 + by_) = false := by rw [hbe]; simp
      all_goals
        go_wp2_with fail
        refine (pIn_c _ (placesF (floatF M) 0) (i : Int) _ P2_w17.out).mono ?_
        rintro e w' ⟨rfl, rfl⟩
        rw [HHAS.out]
        as_aux_lemma =>
        · go_wp2_with fail
          refine (DrawIsProvedEnd_c _ x1 _ R1_w17.out).mono ?_
          rintro e w18 ⟨vX, X, uY, Y, tZ, Z, rfl, hx13, hy20, hz20, hX, hY, hZ, hb18⟩
          have HBw18 := hid (HBw17.out.trans (hb18.mono HBw17.out.size))
          have X_w18 := hid hX
          have Y_w18 := hid hY
          have Z_w18 := hid hZ
          obtain ⟨ax, cx, rfl⟩ := hX.form
          obtain ⟨ay, cy, rfl⟩ := hY.form
          obtain ⟨az, cz, rfl⟩ := hZ.form
          clear hb18 hX hY hZ
          obtain ⟨p, q, hpq⟩ : ∃ p q, provB X Y Z = (p, q) := ⟨_, _, rfl⟩
          have HPQ := hid hpq
          clear hpq
          go_wp2_with fail
          refine ((iIsProvedEnd_u _ X _ Y _ Z _ X_w18.out Y_w18.out Z_w18.out).mono fun e w' h => retT_of h HPQ.out).mono ?_
          rintro e w19 ⟨rfl, hb19⟩
          have HBw19 := hid (HBw18.out.trans (hb19.mono HBw18.out.size))
          have X_w19 := hid (X_w18.out.keep hb19)
          have Y_w19 := hid (Y_w18.out.keep hb19)
          have Z_w19 := hid (Z_w18.out.keep hb19)
          clear hb19
          go_wp2_with fail
          refine ((sIsProvedEnd_u _ X _ Y _ Z _ X_w19.out Y_w19.out Z_w19.out).mono fun e w' h => retT_of h HPQ.out).mono ?_
          rintro e w20 ⟨rfl, hb20⟩
          have HBw20 := hid (HBw19.out.trans (hb20.mono HBw19.out.size))
          have X_w20 := hid (X_w19.out.keep hb20)
          have Y_w20 := hid (Y_w19.out.keep hb20)
          have Z_w20 := hid (Z_w19.out.keep hb20)
          clear hb20
          cases q
          · cases p
            all_goals
              go_wp2
              go_ret
              exact ⟨rfl, HBw20.out⟩
          · cases p
            · go_wp2
              go_ret
              exact ⟨rfl, HBw20.out⟩
            · obtain ⟨hE, htx, hyl, hyr⟩ := prov_end HPQ.out
              have HGX := hid (good_of_tasksB htx)
              have hen := endB_yes htx
              rw [← hE] at hen
              have HEN3 := hid hen
              have HYL := hid hyl
              have HYR := hid hyr
              have hxl12 := HGX.out.1
              clear hE htx hen hyl hyr
              go_wp2_with fail
              refine ((iProjectEnd_u _ X _ X_w20.out).mono fun e w' h => retZ_of h HEN3.out).mono ?_
              rintro e w21 ⟨rfl, hb21⟩
              have HBw21 := hid (HBw20.out.trans (hb21.mono HBw20.out.size))
              have X_w21 := hid (X_w20.out.keep hb21)
              have Y_w21 := hid (Y_w20.out.keep hb21)
              have Z_w21 := hid (Z_w20.out.keep hb21)
              clear hb21
              obtain ⟨gx, ox, cxx, rx, _, _, hvx, hcx⟩ := rtasks_open X_w21.out
              obtain ⟨_, _, hvy, _, _, hcy⟩ := Y_w21.out
              simp only [Value.slice.injEq] at hvy
              obtain ⟨rfl, _, rfl⟩ := hvy
              have HCX := hid hcx
              have HCY := hid hcy
              have HVX := hid hvx
              clear hcx hcy hvx
              obtain ⟨nY, hnY⟩ : ∃ nY, Y.length = nY := ⟨_, rfl⟩
              have HNY : Hid (nY = X.length) := hnY.symm.trans HYL.out
              have hny12 : nY ≤ 12 := by have := HNY.out; omega
              have HNYY := hid hnY
              rw [hnY]
              clear hnY
              go_wp2
              go_loopg [50, 329] (nY + 1) (fun gk lv iv wr => ∃ (i : Nat) (acc : Int), iv = .int .i64 i ∧ lv = .int .i64 acc ∧ i ≤ nY ∧ gk = nY + 1 - i ∧ wr = w21 ∧ Hid (endF X Y = endL Y i (X.drop i) acc) ∧ 0 ≤ acc ∧ acc ≤ 200000)
              case atStart => exact ⟨0, 0, rfl, rfl, Nat.zero_le _, rfl, rfl, hid (by rw [List.drop_zero]; rfl), by omega, by omega⟩
              case round =>
                obtain ⟨i, acc, rfl, rfl, hi, rfl, rfl, HAC, ha0, ha1⟩ := hrel
                by_cases hlt : i < nY
                · have hiX : i < X.length := by have := HNY.out; omega
                  have hxv := HVX.out (by omega)
                  simp only [Value.slice.injEq] at hxv
                  obtain ⟨rfl, _, rfl⟩ := hxv
                  obtain ⟨_, e1, _⟩ := HCX.out i hiX
                  obtain ⟨g2, o2, hga, e2⟩ := HCY.out i (by rw [HNYY.out]; exact hlt)
                  subst hga
                  have hty := HYR.out i hiX
                  have htt := (HGX.out.2 i hiX).2
                  have HDR := hid (drop_cons X noTsk i hiX)
                  obtain ⟨tt, htt2⟩ : ∃ tt, (X.getD i noTsk).time = tt := ⟨_, rfl⟩
                  obtain ⟨yy, hyy2⟩ : ∃ yy, Y.getD i 0 = yy := ⟨_, rfl⟩
                  have HTT := hid htt2
                  have HYY := hid hyy2
                  rw [htt2] at e1 htt
                  rw [hyy2] at e2 hty
                  clear htt2 hyy2
                  have f9 : IntKind.i64.wrap (yy + tt) = yy + tt := IntWalk.i64_in _ (by omega)
                  have hlz : (i : Int) < (nY : Int) := by omega
                  have hlz2 : (i : Int) < (X.length : Int) := by omega
                  have HST : Hid (endF X Y = endL Y (i + 1) (X.drop (i + 1)) (max acc (yy + tt))) := by
                    show _ = _
                    rw [HAC.out, HDR.out, endL_cons, HTT.out, HYY.out]
                  clear HDR
                  by_cases hgt : yy + tt > acc
                  · have hmx : max acc (yy + tt) = yy + tt := by omega
                    rw [hmx] at HST
                    clear hmx
                    go_wp2
                    go_roundg (nY + 1 - (i + 1))
                    case rel => exact ⟨i + 1, _, by go_num, rfl, by omega, rfl, rfl, HST, by omega, by omega⟩
                    case measure => omega
                  · have hmx : max acc (yy + tt) = acc := by omega
                    rw [hmx] at HST
                    clear hmx
                    go_wp2
                    go_roundg (nY + 1 - (i + 1))
                    case rel => exact ⟨i + 1, _, by go_num, rfl, by omega, rfl, rfl, HST, by omega, by omega⟩
                    case measure => omega
                · obtain rfl : i = nY := by omega
                  have hend : endF X Y = acc := by rw [HAC.out, List.drop_eq_nil_of_le (by have := HNY.out; omega), endL_nil]
                  rw [hend]
                  clear hend HAC
                  go_wp2
                  go_ret
                  exact ⟨rfl, HBw21.out⟩
  · -- E
    have HG := hid (good_of_tasksB tb)
    have hl12 := HG.out.1
    have HEA := hid (earlyB_yes tb)
    have hen := endB_yes tb
    have HLT := hid (late_given tb)
    have HARE := hid (early_are tb)
    have HEL := hid (earlyF_ok HG.out).1
    have HLL := hid (lateF_ok (e := endF L (earlyF L)) HG.out).1
    have HGE : Hid (∀ j, j < L.length → tE L j ≤ tL L (endF L (earlyF L)) j) := fun j hj => late_ge HG.out (Int.le_refl _) L.length j (by omega) hj
    have HTB := hid tb
    have HCH := hid (chnB_none tb hn)
    have hzl : ¬ ((nl : Int) > 0) := by have : nl = L.length := HNL.out; omega
    have hzn : ¬ (0 < nl) := by omega
    have hzb : decide ((0 : Int) < (nl : Int)) = false := decide_eq_false hzl
    have hzc : decide (0 < nl) = false := decide_eq_false hzn
    obtain ⟨E0, hE0⟩ : ∃ E0, endF L (earlyF L) = E0 := ⟨_, rfl⟩
    rw [hE0] at hen HLT HLL HGE
    have HEN := hid hen
    clear tb hen hE0
    clear hn h0
    go_wp2_with fail
    refine ((iEarliestStarts_u _ L _ T_w1.out).mono fun e w' h => retL_of h HEA.out).mono ?_
    rintro e w2 ⟨a2, n2, c2, rfl, hp2, hb2⟩
    have HBw2 := hid (HBw1.out.trans (hb2.mono HBw1.out.size))
    have R1_w2 := hid (R1_w1.out.keep hb2)
    have T_w2 := hid (T_w1.out.keep hb2)
    have S1_w2 := hid hp2
    clear hb2 hp2
    go_wp2_with fail
    refine ((sEarliestStarts_u _ L _ T_w2.out).mono fun e w' h => retL_of h HEA.out).mono ?_
    rintro e w3 ⟨a3, n3, c3, rfl, hp3, hb3⟩
    have HBw3 := hid (HBw2.out.trans (hb3.mono HBw2.out.size))
    have R1_w3 := hid (R1_w2.out.keep hb3)
    have T_w3 := hid (T_w2.out.keep hb3)
    have S1_w3 := hid (S1_w2.out.keep hb3)
    have S2_w3 := hid hp3
    clear hb3 hp3
    go_wp2_with fail
    refine ((iProjectEnd_u _ L _ T_w3.out).mono fun e w' h => retZ_of h HEN.out).mono ?_
    rintro e w4 ⟨rfl, hb4⟩
    have HBw4 := hid (HBw3.out.trans (hb4.mono HBw3.out.size))
    have R1_w4 := hid (R1_w3.out.keep hb4)
    have T_w4 := hid (T_w3.out.keep hb4)
    have S1_w4 := hid (S1_w3.out.keep hb4)
    have S2_w4 := hid (S2_w3.out.keep hb4)
    clear hb4
    go_wp2_with fail
    refine ((sProjectEnd_u _ L _ T_w4.out).mono fun e w' h => retZ_of h HEN.out).mono ?_
    rintro e w5 ⟨rfl, hb5⟩
    have HBw5 := hid (HBw4.out.trans (hb5.mono HBw4.out.size))
    have R1_w5 := hid (R1_w4.out.keep hb5)
    have T_w5 := hid (T_w4.out.keep hb5)
    have S1_w5 := hid (S1_w4.out.keep hb5)
    have S2_w5 := hid (S2_w4.out.keep hb5)
    clear hb5
    go_wp2_with fail
    refine ((iCriticalChain_u _ L _ T_w5.out).mono fun e w' h => retL_of h HCH.out).mono ?_
    rintro e w6 ⟨a6, n6, c6, rfl, hp6, hb6⟩
    have HBw6 := hid (HBw5.out.trans (hb6.mono HBw5.out.size))
    have R1_w6 := hid (R1_w5.out.keep hb6)
    have T_w6 := hid (T_w5.out.keep hb6)
    have S1_w6 := hid (S1_w5.out.keep hb6)
    have S2_w6 := hid (S2_w5.out.keep hb6)
    have C1_w6 := hid hp6
    clear hb6 hp6
    go_wp2_with fail
    refine ((sCriticalChain_u _ L _ T_w6.out).mono fun e w' h => retL_of h HCH.out).mono ?_
    rintro e w7 ⟨a7, n7, c7, rfl, hp7, hb7⟩
    have HBw7 := hid (HBw6.out.trans (hb7.mono HBw6.out.size))
    have R1_w7 := hid (R1_w6.out.keep hb7)
    have T_w7 := hid (T_w6.out.keep hb7)
    have S1_w7 := hid (S1_w6.out.keep hb7)
    have S2_w7 := hid (S2_w6.out.keep hb7)
    have C1_w7 := hid (C1_w6.out.keep hb7)
    have C2_w7 := hid hp7
    clear hb7 hp7
    go_wp2_with fail
    refine (sameInts_y _ _ (earlyF L) _ S1_w7.out S2_w7.out).mono ?_
    rintro e w8 ⟨rfl, hb8⟩
    have HBw8 := hid (HBw7.out.trans (hb8.mono HBw7.out.size))
    have R1_w8 := hid (R1_w7.out.keep hb8)
    have T_w8 := hid (T_w7.out.keep hb8)
    have S1_w8 := hid (S1_w7.out.keep hb8)
    have S2_w8 := hid (S2_w7.out.keep hb8)
    have C1_w8 := hid (C1_w7.out.keep hb8)
    have C2_w8 := hid (C2_w7.out.keep hb8)
    clear hb8
    go_wp2_with fail
    refine (sameInts_y _ _ [] _ C1_w8.out C2_w8.out).mono ?_
    rintro e w9 ⟨rfl, hb9⟩
    have HBw9 := hid (HBw8.out.trans (hb9.mono HBw8.out.size))
    have R1_w9 := hid (R1_w8.out.keep hb9)
    have T_w9 := hid (T_w8.out.keep hb9)
    have S1_w9 := hid (S1_w8.out.keep hb9)
    have S2_w9 := hid (S2_w8.out.keep hb9)
    have C1_w9 := hid (C1_w8.out.keep hb9)
    have C2_w9 := hid (C2_w8.out.keep hb9)
    clear hb9
    go_wp2_with fail
    refine (iAreTasks_u _ L _ T_w9.out).mono ?_
    rintro e w10 ⟨rfl, hb10⟩
    have HBw10 := hid (HBw9.out.trans (hb10.mono HBw9.out.size))
    have R1_w10 := hid (R1_w9.out.keep hb10)
    have T_w10 := hid (T_w9.out.keep hb10)
    have S1_w10 := hid (S1_w9.out.keep hb10)
    have S2_w10 := hid (S2_w9.out.keep hb10)
    have C1_w10 := hid (C1_w9.out.keep hb10)
    have C2_w10 := hid (C2_w9.out.keep hb10)
    clear hb10
    rw [HTB.out]
    go_wp2_with fail
    refine ((iAreStarts_u _ L _ (earlyF L) _ T_w10.out S1_w10.out).mono fun e w' h => retT_of h HARE.out).mono ?_
    rintro e w11 ⟨rfl, hb11⟩
    have HBw11 := hid (HBw10.out.trans (hb11.mono HBw10.out.size))
    have R1_w11 := hid (R1_w10.out.keep hb11)
    have T_w11 := hid (T_w10.out.keep hb11)
    have S1_w11 := hid (S1_w10.out.keep hb11)
    have S2_w11 := hid (S2_w10.out.keep hb11)
    have C1_w11 := hid (C1_w10.out.keep hb11)
    have C2_w11 := hid (C2_w10.out.keep hb11)
    clear hb11
    go_wp2_with fail
    refine ((iLatestStarts_u _ L E0 _ T_w11.out).mono fun e w' h => retL_of h HLT.out).mono ?_
    rintro e w12 ⟨a12, n12, c12, rfl, hp12, hb12⟩
    have HBw12 := hid (HBw11.out.trans (hb12.mono HBw11.out.size))
    have R1_w12 := hid (R1_w11.out.keep hb12)
    have T_w12 := hid (T_w11.out.keep hb12)
    have S1_w12 := hid (S1_w11.out.keep hb12)
    have S2_w12 := hid (S2_w11.out.keep hb12)
    have C1_w12 := hid (C1_w11.out.keep hb12)
    have C2_w12 := hid (C2_w11.out.keep hb12)
    have K1_w12 := hid hp12
    clear hb12 hp12
    go_wp2_with fail
    refine ((sLatestStarts_u _ L E0 _ T_w12.out).mono fun e w' h => retL_of h HLT.out).mono ?_
    rintro e w13 ⟨a13, n13, c13, rfl, hp13, hb13⟩
    have HBw13 := hid (HBw12.out.trans (hb13.mono HBw12.out.size))
    have R1_w13 := hid (R1_w12.out.keep hb13)
    have T_w13 := hid (T_w12.out.keep hb13)
    have S1_w13 := hid (S1_w12.out.keep hb13)
    have S2_w13 := hid (S2_w12.out.keep hb13)
    have C1_w13 := hid (C1_w12.out.keep hb13)
    have C2_w13 := hid (C2_w12.out.keep hb13)
    have K1_w13 := hid (K1_w12.out.keep hb13)
    have K2_w13 := hid hp13
    clear hb13 hp13
    go_wp2_with fail
    refine (sameInts_y _ _ (lateF L E0) _ K1_w13.out K2_w13.out).mono ?_
    rintro e w14 ⟨rfl, hb14⟩
    have HBw14 := hid (HBw13.out.trans (hb14.mono HBw13.out.size))
    have R1_w14 := hid (R1_w13.out.keep hb14)
    have T_w14 := hid (T_w13.out.keep hb14)
    have S1_w14 := hid (S1_w13.out.keep hb14)
    have S2_w14 := hid (S2_w13.out.keep hb14)
    have C1_w14 := hid (C1_w13.out.keep hb14)
    have C2_w14 := hid (C2_w13.out.keep hb14)
    have K1_w14 := hid (K1_w13.out.keep hb14)
    have K2_w14 := hid (K2_w13.out.keep hb14)
    clear hb14
    have hK := K2_w14.out
    have hS := S2_w14.out
    obtain ⟨aK, cK, hvK, _, _, hcK⟩ := hK
    obtain ⟨aS, cS, hvS, _, _, hcS⟩ := hS
    rw [hvK, hvS]
    have HKC : Hid (∀ j, j < L.length → ∃ g o, aK = some ⟨g, o, none⟩ ∧ w14.cell? ⟨g, o + j, none⟩ = some (.int .i64 (tL L E0 j))) := fun j hj => hcK j (by rw [HLL.out]; exact hj)
    have HSC : Hid (∀ j, j < L.length → ∃ g o, aS = some ⟨g, o, none⟩ ∧ w14.cell? ⟨g, o + j, none⟩ = some (.int .i64 (tE L j))) := fun j hj => hcS j (by rw [HEL.out]; exact hj)
    obtain ⟨nK, hnK⟩ : ∃ nK, (lateF L E0).length = nK := ⟨_, rfl⟩
    obtain ⟨nS, hnS⟩ : ∃ nS, (earlyF L).length = nS := ⟨_, rfl⟩
    rw [hnK, hnS]
    have HNK : Hid (nK = L.length) := hnK.symm.trans HLL.out
    have HNS : Hid (nS = L.length) := hnS.symm.trans HEL.out
    clear hcK hcS hvK hvS hnK hnS
    go_wp2
    go_loopg [180] (nK + 1) (fun gk iv wr => ∃ i : Nat, iv = .int .i64 i ∧ i ≤ nK ∧ gk = nK + 1 - i ∧ wr = w14)
    case atStart => exact ⟨0, rfl, Nat.zero_le _, rfl, rfl⟩
    case round =>
      obtain ⟨i, rfl, hi, rfl, rfl⟩ := hrel
      by_cases hlt : i < nK
      · have hiL : i < L.length := by have := HNK.out; omega
        have hi13 : i ≤ 13 := by omega
        obtain ⟨g1, o1, rfl, e1⟩ := HKC.out i hiL
        obtain ⟨g2, o2, rfl, e2⟩ := HSC.out i hiL
        have hge := HGE.out i hiL
        obtain ⟨y1, hy1⟩ : ∃ y, tL L E0 i = y := ⟨_, rfl⟩
        obtain ⟨y2, hy2⟩ : ∃ y, tE L i = y := ⟨_, rfl⟩
        rw [hy1] at e1 hge
        rw [hy2] at e2 hge
        clear hy1 hy2
        have hlz : (i : Int) < (nK : Int) := by omega
        have hlz2 : (i : Int) < (nS : Int) := by have := HNS.out; omega
        have hnl : ¬ (y1 < y2) := by omega
        clear hiL
        go_wp2
        go_roundg (nK + 1 - (i + 1))
        case rel => exact ⟨i + 1, by go_num, by omega, rfl, rfl⟩
        case measure => omega
      · obtain rfl : i = nK := by omega
        clear HKC HSC
        go_wp2_with fail
        refine (DrawEndWithDelay_c _ x1 _ R1_w14.out).mono ?_
        rintro e w16 ⟨vM, M, di, by_, rfl, hm13, hM, hb16⟩
        have HBw16 := hid (HBw14.out.trans (hb16.mono HBw14.out.size))
        have R1_w16 := hid (R1_w14.out.keep hb16)
        have M_w16 := hid hM
        obtain ⟨am, cm, rfl⟩ := hM.form
        clear hb16 hM
        have hcase : (delayB M di by_ = (0, false)) ∨ (∃ i : Nat, di = (i : Int) ∧ i < M.length ∧ 0 ≤ by_ ∧ by_ ≤ 1000 ∧ tasksB M = true ∧ delayB M di by_ = (endF (delayF M i by_) (earlyF (delayF M i by_)), true)) := by
          unfold delayB
          cases t1 : tasksB M with
          | false => left; rfl
          | true =>
            cases t2 : inB di 0 ((M.length : Int) - 1) with
            | false => left; rfl
            | true =>
              cases t3 : inB by_ 0 1000 with
              | false => left; rfl
              | true =>
                right
                have h2 := inB_iff.1 t2
                have h3 := inB_iff.1 t3
                exact ⟨di.toNat, by omega, by omega, h3.1, h3.2, rfl, rfl⟩
        rcases hcase with hdel | ⟨i, hdi, hiM, hb0, hb1, tm, hdel⟩
        · have HDEL := hid hdel
          clear hdel
          go_wp2_with fail
          refine ((iEndWithDelay_u _ M di by_ _ M_w16.out).mono fun e w' h => retZ_of h HDEL.out).mono ?_
          rintro e w17 ⟨rfl, hb17⟩
          have HBw17 := hid (HBw16.out.trans (hb17.mono HBw16.out.size))
          have R1_w17 := hid (R1_w16.out.keep hb17)
          have M_w17 := hid (M_w16.out.keep hb17)
          clear hb17
          go_wp2_with fail
          refine ((sEndWithDelay_u _ M di by_ _ M_w17.out).mono fun e w' h => retZ_of h HDEL.out).mono ?_
          rintro e w18 ⟨rfl, hb18⟩
          have HBw18 := hid (HBw17.out.trans (hb18.mono HBw17.out.size))
          have R1_w18 := hid (R1_w17.out.keep hb18)
          have M_w18 := hid (M_w17.out.keep hb18)
          clear hb18
          as_aux_lemma =>
          · go_wp2_with fail
            refine (DrawIsProvedEnd_c _ x1 _ R1_w18.out).mono ?_
            rintro e w19 ⟨vX, X, uY, Y, tZ, Z, rfl, hx13, hy20, hz20, hX, hY, hZ, hb19⟩
            have HBw19 := hid (HBw18.out.trans (hb19.mono HBw18.out.size))
            have X_w19 := hid hX
            have Y_w19 := hid hY
            have Z_w19 := hid hZ
            obtain ⟨ax, cx, rfl⟩ := hX.form
            obtain ⟨ay, cy, rfl⟩ := hY.form
            obtain ⟨az, cz, rfl⟩ := hZ.form
            clear hb19 hX hY hZ
            obtain ⟨p, q, hpq⟩ : ∃ p q, provB X Y Z = (p, q) := ⟨_, _, rfl⟩
            have HPQ := hid hpq
            clear hpq
            go_wp2_with fail
            refine ((iIsProvedEnd_u _ X _ Y _ Z _ X_w19.out Y_w19.out Z_w19.out).mono fun e w' h => retT_of h HPQ.out).mono ?_
            rintro e w20 ⟨rfl, hb20⟩
            have HBw20 := hid (HBw19.out.trans (hb20.mono HBw19.out.size))
            have X_w20 := hid (X_w19.out.keep hb20)
            have Y_w20 := hid (Y_w19.out.keep hb20)
            have Z_w20 := hid (Z_w19.out.keep hb20)
            clear hb20
            go_wp2_with fail
            refine ((sIsProvedEnd_u _ X _ Y _ Z _ X_w20.out Y_w20.out Z_w20.out).mono fun e w' h => retT_of h HPQ.out).mono ?_
            rintro e w21 ⟨rfl, hb21⟩
            have HBw21 := hid (HBw20.out.trans (hb21.mono HBw20.out.size))
            have X_w21 := hid (X_w20.out.keep hb21)
            have Y_w21 := hid (Y_w20.out.keep hb21)
            have Z_w21 := hid (Z_w20.out.keep hb21)
            clear hb21
            cases q
            · cases p
              all_goals
                go_wp2
                go_ret
                exact ⟨rfl, HBw21.out⟩
            · cases p
              · go_wp2
                go_ret
                exact ⟨rfl, HBw21.out⟩
              · obtain ⟨hE, htx, hyl, hyr⟩ := prov_end HPQ.out
                have HGX := hid (good_of_tasksB htx)
                have hen := endB_yes htx
                rw [← hE] at hen
                have HEN3 := hid hen
                have HYL := hid hyl
                have HYR := hid hyr
                have hxl12 := HGX.out.1
                clear hE htx hen hyl hyr
                go_wp2_with fail
                refine ((iProjectEnd_u _ X _ X_w21.out).mono fun e w' h => retZ_of h HEN3.out).mono ?_
                rintro e w22 ⟨rfl, hb22⟩
                have HBw22 := hid (HBw21.out.trans (hb22.mono HBw21.out.size))
                have X_w22 := hid (X_w21.out.keep hb22)
                have Y_w22 := hid (Y_w21.out.keep hb22)
                have Z_w22 := hid (Z_w21.out.keep hb22)
                clear hb22
                obtain ⟨gx, ox, cxx, rx, _, _, hvx, hcx⟩ := rtasks_open X_w22.out
                obtain ⟨_, _, hvy, _, _, hcy⟩ := Y_w22.out
                simp only [Value.slice.injEq] at hvy
                obtain ⟨rfl, _, rfl⟩ := hvy
                have HCX := hid hcx
                have HCY := hid hcy
                have HVX := hid hvx
                clear hcx hcy hvx
                obtain ⟨nY, hnY⟩ : ∃ nY, Y.length = nY := ⟨_, rfl⟩
                have HNY : Hid (nY = X.length) := hnY.symm.trans HYL.out
                have hny12 : nY ≤ 12 := by have := HNY.out; omega
                have HNYY := hid hnY
                rw [hnY]
                clear hnY
                go_wp2
                go_loopg [50, 329] (nY + 1) (fun gk lv iv wr => ∃ (i : Nat) (acc : Int), iv = .int .i64 i ∧ lv = .int .i64 acc ∧ i ≤ nY ∧ gk = nY + 1 - i ∧ wr = w22 ∧ Hid (endF X Y = endL Y i (X.drop i) acc) ∧ 0 ≤ acc ∧ acc ≤ 200000)
                case atStart => exact ⟨0, 0, rfl, rfl, Nat.zero_le _, rfl, rfl, hid (by rw [List.drop_zero]; rfl), by omega, by omega⟩
                case round =>
                  obtain ⟨i, acc, rfl, rfl, hi, rfl, rfl, HAC, ha0, ha1⟩ := hrel
                  by_cases hlt : i < nY
                  · have hiX : i < X.length := by have := HNY.out; omega
                    have hxv := HVX.out (by omega)
                    simp only [Value.slice.injEq] at hxv
                    obtain ⟨rfl, _, rfl⟩ := hxv
                    obtain ⟨_, e1, _⟩ := HCX.out i hiX
                    obtain ⟨g2, o2, hga, e2⟩ := HCY.out i (by rw [HNYY.out]; exact hlt)
                    subst hga
                    have hty := HYR.out i hiX
                    have htt := (HGX.out.2 i hiX).2
                    have HDR := hid (drop_cons X noTsk i hiX)
                    obtain ⟨tt, htt2⟩ : ∃ tt, (X.getD i noTsk).time = tt := ⟨_, rfl⟩
                    obtain ⟨yy, hyy2⟩ : ∃ yy, Y.getD i 0 = yy := ⟨_, rfl⟩
                    have HTT := hid htt2
                    have HYY := hid hyy2
                    rw [htt2] at e1 htt
                    rw [hyy2] at e2 hty
                    clear htt2 hyy2
                    have f9 : IntKind.i64.wrap (yy + tt) = yy + tt := IntWalk.i64_in _ (by omega)
                    have hlz : (i : Int) < (nY : Int) := by omega
                    have hlz2 : (i : Int) < (X.length : Int) := by omega
                    have HST : Hid (endF X Y = endL Y (i + 1) (X.drop (i + 1)) (max acc (yy + tt))) := by
                      show _ = _
                      rw [HAC.out, HDR.out, endL_cons, HTT.out, HYY.out]
                    clear HDR
                    by_cases hgt : yy + tt > acc
                    · have hmx : max acc (yy + tt) = yy + tt := by omega
                      rw [hmx] at HST
                      clear hmx
                      go_wp2
                      go_roundg (nY + 1 - (i + 1))
                      case rel => exact ⟨i + 1, _, by go_num, rfl, by omega, rfl, rfl, HST, by omega, by omega⟩
                      case measure => omega
                    · have hmx : max acc (yy + tt) = acc := by omega
                      rw [hmx] at HST
                      clear hmx
                      go_wp2
                      go_roundg (nY + 1 - (i + 1))
                      case rel => exact ⟨i + 1, _, by go_num, rfl, by omega, rfl, rfl, HST, by omega, by omega⟩
                      case measure => omega
                  · obtain rfl : i = nY := by omega
                    have hend : endF X Y = acc := by rw [HAC.out, List.drop_eq_nil_of_le (by have := HNY.out; omega), endL_nil]
                    rw [hend]
                    clear hend HAC
                    go_wp2
                    go_ret
                    exact ⟨rfl, HBw22.out⟩
        · subst hdi
          have HGM := hid (good_of_tasksB tm)
          have hen := endB_yes tm
          have hcr : critB M = (placesF (floatF M) 0, true) := by unfold critB; rw [tm]; rfl
          have hD := delayF_good tm hb0 hb1 (i := i)
          have hde := delay_end HGM.out hD hb0
          have hcrit := fun h => delay_critical HGM.out hD hb0 hiM h
          have hhas : hasB (placesF (floatF M) 0) (i : Int) = ((floatF M).getD i 0 == 0) := hasB_places (by rw [floatF_len HGM.out]; exact hiM)
          have hr1 := endF_range HGM.out
          obtain ⟨E1, hE1⟩ : ∃ E, endF M (earlyF M) = E := ⟨_, rfl⟩
          obtain ⟨E2, hE2⟩ : ∃ E, endF (delayF M i by_) (earlyF (delayF M i by_)) = E := ⟨_, rfl⟩
          obtain ⟨fl, hfl⟩ : ∃ fl, (floatF M).getD i 0 = fl := ⟨_, rfl⟩
          rw [hE1] at hen hde hcrit hr1
          rw [hE2] at hdel hde hcrit
          rw [hfl] at hcrit hhas
          have hbr : (fl == 0) = true → E2 = E1 + by_ := fun h => hcrit (by simpa using h)
          obtain ⟨bc, hbc⟩ : ∃ bc, (fl == 0) = bc := ⟨_, rfl⟩
          rw [hbc] at hhas hbr
          have HDEL := hid hdel
          have HEN1 := hid hen
          have HCR := hid hcr
          have HHAS := hid hhas
          have HBR := hid hbr
          have hd1 : ¬ (E2 < E1) := by omega
          have hd2 : ¬ (E2 > E1 + by_) := by omega
          have f7 : IntKind.i64.wrap (E1 + by_) = E1 + by_ := IntWalk.i64_in _ (by omega)
          clear hen hcr hD hde hcrit hhas hbr hfl hbc hE1 hE2 hdel tm hr1
          go_wp2_with fail
          refine ((iEndWithDelay_u _ M (i : Int) by_ _ M_w16.out).mono fun e w' h => retZ_of h HDEL.out).mono ?_
          rintro e w17 ⟨rfl, hb17⟩
          have HBw17 := hid (HBw16.out.trans (hb17.mono HBw16.out.size))
          have R1_w17 := hid (R1_w16.out.keep hb17)
          have M_w17 := hid (M_w16.out.keep hb17)
          clear hb17
          go_wp2_with fail
          refine ((sEndWithDelay_u _ M (i : Int) by_ _ M_w17.out).mono fun e w' h => retZ_of h HDEL.out).mono ?_
          rintro e w18 ⟨rfl, hb18⟩
          have HBw18 := hid (HBw17.out.trans (hb18.mono HBw17.out.size))
          have R1_w18 := hid (R1_w17.out.keep hb18)
          have M_w18 := hid (M_w17.out.keep hb18)
          clear hb18
          go_wp2_with fail
          refine ((iProjectEnd_u _ M _ M_w18.out).mono fun e w' h => retZ_of h HEN1.out).mono ?_
          rintro e w19 ⟨rfl, hb19⟩
          have HBw19 := hid (HBw18.out.trans (hb19.mono HBw18.out.size))
          have R1_w19 := hid (R1_w18.out.keep hb19)
          have M_w19 := hid (M_w18.out.keep hb19)
          clear hb19
          go_wp2_with fail
          refine ((iCriticalTasks_u _ M _ M_w19.out).mono fun e w' h => retL_of h HCR.out).mono ?_
          rintro e w20 ⟨a20, n20, c20, rfl, hp20, hb20⟩
          have HBw20 := hid (HBw19.out.trans (hb20.mono HBw19.out.size))
          have R1_w20 := hid (R1_w19.out.keep hb20)
          have M_w20 := hid (M_w19.out.keep hb20)
          have P1_w20 := hid hp20
          clear hb20 hp20
          go_wp2_with fail
          refine ((sCriticalTasks_u _ M _ M_w20.out).mono fun e w' h => retL_of h HCR.out).mono ?_
          rintro e w21 ⟨a21, n21, c21, rfl, hp21, hb21⟩
          have HBw21 := hid (HBw20.out.trans (hb21.mono HBw20.out.size))
          have R1_w21 := hid (R1_w20.out.keep hb21)
          have M_w21 := hid (M_w20.out.keep hb21)
          have P1_w21 := hid (P1_w20.out.keep hb21)
          have P2_w21 := hid hp21
          clear hb21 hp21
          go_wp2_with fail
          refine (sameInts_y _ _ (placesF (floatF M) 0) _ P1_w21.out P2_w21.out).mono ?_
          rintro e w22 ⟨rfl, hb22⟩
          have HBw22 := hid (HBw21.out.trans (hb22.mono HBw21.out.size))
          have R1_w22 := hid (R1_w21.out.keep hb22)
          have M_w22 := hid (M_w21.out.keep hb22)
          have P1_w22 := hid (P1_w21.out.keep hb22)
          have P2_w22 := hid (P2_w21.out.keep hb22)
          clear hb22
          cases bc
          case' true =>
            have hbe := HBR.out rfl
            have hbe2 : (E2 != E1 + by_) = false := by rw [hbe]; simp
          all_goals
            go_wp2_with fail
            refine (pIn_c _ (placesF (floatF M) 0) (i : Int) _ P2_w22.out).mono ?_
            rintro e w' ⟨rfl, rfl⟩
            rw [HHAS.out]
            as_aux_lemma =>
            · go_wp2_with fail
              refine (DrawIsProvedEnd_c _ x1 _ R1_w22.out).mono ?_
              rintro e w23 ⟨vX, X, uY, Y, tZ, Z, rfl, hx13, hy20, hz20, hX, hY, hZ, hb23⟩
              have HBw23 := hid (HBw22.out.trans (hb23.mono HBw22.out.size))
              have X_w23 := hid hX
              have Y_w23 := hid hY
              have Z_w23 := hid hZ
              obtain ⟨ax, cx, rfl⟩ := hX.form
              obtain ⟨ay, cy, rfl⟩ := hY.form
              obtain ⟨az, cz, rfl⟩ := hZ.form
              clear hb23 hX hY hZ
              obtain ⟨p, q, hpq⟩ : ∃ p q, provB X Y Z = (p, q) := ⟨_, _, rfl⟩
              have HPQ := hid hpq
              clear hpq
              go_wp2_with fail
              refine ((iIsProvedEnd_u _ X _ Y _ Z _ X_w23.out Y_w23.out Z_w23.out).mono fun e w' h => retT_of h HPQ.out).mono ?_
              rintro e w24 ⟨rfl, hb24⟩
              have HBw24 := hid (HBw23.out.trans (hb24.mono HBw23.out.size))
              have X_w24 := hid (X_w23.out.keep hb24)
              have Y_w24 := hid (Y_w23.out.keep hb24)
              have Z_w24 := hid (Z_w23.out.keep hb24)
              clear hb24
              go_wp2_with fail
              refine ((sIsProvedEnd_u _ X _ Y _ Z _ X_w24.out Y_w24.out Z_w24.out).mono fun e w' h => retT_of h HPQ.out).mono ?_
              rintro e w25 ⟨rfl, hb25⟩
              have HBw25 := hid (HBw24.out.trans (hb25.mono HBw24.out.size))
              have X_w25 := hid (X_w24.out.keep hb25)
              have Y_w25 := hid (Y_w24.out.keep hb25)
              have Z_w25 := hid (Z_w24.out.keep hb25)
              clear hb25
              cases q
              · cases p
                all_goals
                  go_wp2
                  go_ret
                  exact ⟨rfl, HBw25.out⟩
              · cases p
                · go_wp2
                  go_ret
                  exact ⟨rfl, HBw25.out⟩
                · obtain ⟨hE, htx, hyl, hyr⟩ := prov_end HPQ.out
                  have HGX := hid (good_of_tasksB htx)
                  have hen := endB_yes htx
                  rw [← hE] at hen
                  have HEN3 := hid hen
                  have HYL := hid hyl
                  have HYR := hid hyr
                  have hxl12 := HGX.out.1
                  clear hE htx hen hyl hyr
                  go_wp2_with fail
                  refine ((iProjectEnd_u _ X _ X_w25.out).mono fun e w' h => retZ_of h HEN3.out).mono ?_
                  rintro e w26 ⟨rfl, hb26⟩
                  have HBw26 := hid (HBw25.out.trans (hb26.mono HBw25.out.size))
                  have X_w26 := hid (X_w25.out.keep hb26)
                  have Y_w26 := hid (Y_w25.out.keep hb26)
                  have Z_w26 := hid (Z_w25.out.keep hb26)
                  clear hb26
                  obtain ⟨gx, ox, cxx, rx, _, _, hvx, hcx⟩ := rtasks_open X_w26.out
                  obtain ⟨_, _, hvy, _, _, hcy⟩ := Y_w26.out
                  simp only [Value.slice.injEq] at hvy
                  obtain ⟨rfl, _, rfl⟩ := hvy
                  have HCX := hid hcx
                  have HCY := hid hcy
                  have HVX := hid hvx
                  clear hcx hcy hvx
                  obtain ⟨nY, hnY⟩ : ∃ nY, Y.length = nY := ⟨_, rfl⟩
                  have HNY : Hid (nY = X.length) := hnY.symm.trans HYL.out
                  have hny12 : nY ≤ 12 := by have := HNY.out; omega
                  have HNYY := hid hnY
                  rw [hnY]
                  clear hnY
                  go_wp2
                  go_loopg [50, 329] (nY + 1) (fun gk lv iv wr => ∃ (i : Nat) (acc : Int), iv = .int .i64 i ∧ lv = .int .i64 acc ∧ i ≤ nY ∧ gk = nY + 1 - i ∧ wr = w26 ∧ Hid (endF X Y = endL Y i (X.drop i) acc) ∧ 0 ≤ acc ∧ acc ≤ 200000)
                  case atStart => exact ⟨0, 0, rfl, rfl, Nat.zero_le _, rfl, rfl, hid (by rw [List.drop_zero]; rfl), by omega, by omega⟩
                  case round =>
                    obtain ⟨i, acc, rfl, rfl, hi, rfl, rfl, HAC, ha0, ha1⟩ := hrel
                    by_cases hlt : i < nY
                    · have hiX : i < X.length := by have := HNY.out; omega
                      have hxv := HVX.out (by omega)
                      simp only [Value.slice.injEq] at hxv
                      obtain ⟨rfl, _, rfl⟩ := hxv
                      obtain ⟨_, e1, _⟩ := HCX.out i hiX
                      obtain ⟨g2, o2, hga, e2⟩ := HCY.out i (by rw [HNYY.out]; exact hlt)
                      subst hga
                      have hty := HYR.out i hiX
                      have htt := (HGX.out.2 i hiX).2
                      have HDR := hid (drop_cons X noTsk i hiX)
                      obtain ⟨tt, htt2⟩ : ∃ tt, (X.getD i noTsk).time = tt := ⟨_, rfl⟩
                      obtain ⟨yy, hyy2⟩ : ∃ yy, Y.getD i 0 = yy := ⟨_, rfl⟩
                      have HTT := hid htt2
                      have HYY := hid hyy2
                      rw [htt2] at e1 htt
                      rw [hyy2] at e2 hty
                      clear htt2 hyy2
                      have f9 : IntKind.i64.wrap (yy + tt) = yy + tt := IntWalk.i64_in _ (by omega)
                      have hlz : (i : Int) < (nY : Int) := by omega
                      have hlz2 : (i : Int) < (X.length : Int) := by omega
                      have HST : Hid (endF X Y = endL Y (i + 1) (X.drop (i + 1)) (max acc (yy + tt))) := by
                        show _ = _
                        rw [HAC.out, HDR.out, endL_cons, HTT.out, HYY.out]
                      clear HDR
                      by_cases hgt : yy + tt > acc
                      · have hmx : max acc (yy + tt) = yy + tt := by omega
                        rw [hmx] at HST
                        clear hmx
                        go_wp2
                        go_roundg (nY + 1 - (i + 1))
                        case rel => exact ⟨i + 1, _, by go_num, rfl, by omega, rfl, rfl, HST, by omega, by omega⟩
                        case measure => omega
                      · have hmx : max acc (yy + tt) = acc := by omega
                        rw [hmx] at HST
                        clear hmx
                        go_wp2
                        go_roundg (nY + 1 - (i + 1))
                        case rel => exact ⟨i + 1, _, by go_num, rfl, by omega, rfl, rfl, HST, by omega, by omega⟩
                        case measure => omega
                    · obtain rfl : i = nY := by omega
                      have hend : endF X Y = acc := by rw [HAC.out, List.drop_eq_nil_of_le (by have := HNY.out; omega), endL_nil]
                      rw [hend]
                      clear hend HAC
                      go_wp2
                      go_ret
                      exact ⟨rfl, HBw26.out⟩
  · -- T
    have HG := hid (good_of_tasksB tb)
    have hl12 := HG.out.1
    have HEA := hid (earlyB_yes tb)
    have hen := endB_yes tb
    have HLT := hid (late_given tb)
    have HARE := hid (early_are tb)
    have HEL := hid (earlyF_ok HG.out).1
    have HLL := hid (lateF_ok (e := endF L (earlyF L)) HG.out).1
    have HGE : Hid (∀ j, j < L.length → tE L j ≤ tL L (endF L (earlyF L)) j) := fun j hj => late_ge HG.out (Int.le_refl _) L.length j (by omega) hj
    have HTB := hid tb
    have HCH := hid (chnB_some tb hr)
    have HPR := hid (chn_proves tb hr)
    have hzl : (nl : Int) > 0 := by have : nl = L.length := HNL.out; omega
    have hzn : 0 < nl := by omega
    have hzb : decide ((0 : Int) < (nl : Int)) = true := decide_eq_true hzl
    have hzc : decide (0 < nl) = true := decide_eq_true hzn
    obtain ⟨E0, hE0⟩ : ∃ E0, endF L (earlyF L) = E0 := ⟨_, rfl⟩
    rw [hE0] at hen HLT HLL HGE
    have HEN := hid hen
    clear tb hen hE0
    clear hr h0
    go_wp2_with fail
    refine ((iEarliestStarts_u _ L _ T_w1.out).mono fun e w' h => retL_of h HEA.out).mono ?_
    rintro e w2 ⟨a2, n2, c2, rfl, hp2, hb2⟩
    have HBw2 := hid (HBw1.out.trans (hb2.mono HBw1.out.size))
    have R1_w2 := hid (R1_w1.out.keep hb2)
    have T_w2 := hid (T_w1.out.keep hb2)
    have S1_w2 := hid hp2
    clear hb2 hp2
    go_wp2_with fail
    refine ((sEarliestStarts_u _ L _ T_w2.out).mono fun e w' h => retL_of h HEA.out).mono ?_
    rintro e w3 ⟨a3, n3, c3, rfl, hp3, hb3⟩
    have HBw3 := hid (HBw2.out.trans (hb3.mono HBw2.out.size))
    have R1_w3 := hid (R1_w2.out.keep hb3)
    have T_w3 := hid (T_w2.out.keep hb3)
    have S1_w3 := hid (S1_w2.out.keep hb3)
    have S2_w3 := hid hp3
    clear hb3 hp3
    go_wp2_with fail
    refine ((iProjectEnd_u _ L _ T_w3.out).mono fun e w' h => retZ_of h HEN.out).mono ?_
    rintro e w4 ⟨rfl, hb4⟩
    have HBw4 := hid (HBw3.out.trans (hb4.mono HBw3.out.size))
    have R1_w4 := hid (R1_w3.out.keep hb4)
    have T_w4 := hid (T_w3.out.keep hb4)
    have S1_w4 := hid (S1_w3.out.keep hb4)
    have S2_w4 := hid (S2_w3.out.keep hb4)
    clear hb4
    go_wp2_with fail
    refine ((sProjectEnd_u _ L _ T_w4.out).mono fun e w' h => retZ_of h HEN.out).mono ?_
    rintro e w5 ⟨rfl, hb5⟩
    have HBw5 := hid (HBw4.out.trans (hb5.mono HBw4.out.size))
    have R1_w5 := hid (R1_w4.out.keep hb5)
    have T_w5 := hid (T_w4.out.keep hb5)
    have S1_w5 := hid (S1_w4.out.keep hb5)
    have S2_w5 := hid (S2_w4.out.keep hb5)
    clear hb5
    go_wp2_with fail
    refine ((iCriticalChain_u _ L _ T_w5.out).mono fun e w' h => retL_of h HCH.out).mono ?_
    rintro e w6 ⟨a6, n6, c6, rfl, hp6, hb6⟩
    have HBw6 := hid (HBw5.out.trans (hb6.mono HBw5.out.size))
    have R1_w6 := hid (R1_w5.out.keep hb6)
    have T_w6 := hid (T_w5.out.keep hb6)
    have S1_w6 := hid (S1_w5.out.keep hb6)
    have S2_w6 := hid (S2_w5.out.keep hb6)
    have C1_w6 := hid hp6
    clear hb6 hp6
    go_wp2_with fail
    refine ((sCriticalChain_u _ L _ T_w6.out).mono fun e w' h => retL_of h HCH.out).mono ?_
    rintro e w7 ⟨a7, n7, c7, rfl, hp7, hb7⟩
    have HBw7 := hid (HBw6.out.trans (hb7.mono HBw6.out.size))
    have R1_w7 := hid (R1_w6.out.keep hb7)
    have T_w7 := hid (T_w6.out.keep hb7)
    have S1_w7 := hid (S1_w6.out.keep hb7)
    have S2_w7 := hid (S2_w6.out.keep hb7)
    have C1_w7 := hid (C1_w6.out.keep hb7)
    have C2_w7 := hid hp7
    clear hb7 hp7
    go_wp2_with fail
    refine (sameInts_y _ _ (earlyF L) _ S1_w7.out S2_w7.out).mono ?_
    rintro e w8 ⟨rfl, hb8⟩
    have HBw8 := hid (HBw7.out.trans (hb8.mono HBw7.out.size))
    have R1_w8 := hid (R1_w7.out.keep hb8)
    have T_w8 := hid (T_w7.out.keep hb8)
    have S1_w8 := hid (S1_w7.out.keep hb8)
    have S2_w8 := hid (S2_w7.out.keep hb8)
    have C1_w8 := hid (C1_w7.out.keep hb8)
    have C2_w8 := hid (C2_w7.out.keep hb8)
    clear hb8
    go_wp2_with fail
    refine (sameInts_y _ _ r _ C1_w8.out C2_w8.out).mono ?_
    rintro e w9 ⟨rfl, hb9⟩
    have HBw9 := hid (HBw8.out.trans (hb9.mono HBw8.out.size))
    have R1_w9 := hid (R1_w8.out.keep hb9)
    have T_w9 := hid (T_w8.out.keep hb9)
    have S1_w9 := hid (S1_w8.out.keep hb9)
    have S2_w9 := hid (S2_w8.out.keep hb9)
    have C1_w9 := hid (C1_w8.out.keep hb9)
    have C2_w9 := hid (C2_w8.out.keep hb9)
    clear hb9
    go_wp2_with fail
    refine (iAreTasks_u _ L _ T_w9.out).mono ?_
    rintro e w10 ⟨rfl, hb10⟩
    have HBw10 := hid (HBw9.out.trans (hb10.mono HBw9.out.size))
    have R1_w10 := hid (R1_w9.out.keep hb10)
    have T_w10 := hid (T_w9.out.keep hb10)
    have S1_w10 := hid (S1_w9.out.keep hb10)
    have S2_w10 := hid (S2_w9.out.keep hb10)
    have C1_w10 := hid (C1_w9.out.keep hb10)
    have C2_w10 := hid (C2_w9.out.keep hb10)
    clear hb10
    rw [HTB.out]
    go_wp2_with fail
    refine ((iAreStarts_u _ L _ (earlyF L) _ T_w10.out S1_w10.out).mono fun e w' h => retT_of h HARE.out).mono ?_
    rintro e w11 ⟨rfl, hb11⟩
    have HBw11 := hid (HBw10.out.trans (hb11.mono HBw10.out.size))
    have R1_w11 := hid (R1_w10.out.keep hb11)
    have T_w11 := hid (T_w10.out.keep hb11)
    have S1_w11 := hid (S1_w10.out.keep hb11)
    have S2_w11 := hid (S2_w10.out.keep hb11)
    have C1_w11 := hid (C1_w10.out.keep hb11)
    have C2_w11 := hid (C2_w10.out.keep hb11)
    clear hb11
    go_wp2_with fail
    refine ((iLatestStarts_u _ L E0 _ T_w11.out).mono fun e w' h => retL_of h HLT.out).mono ?_
    rintro e w12 ⟨a12, n12, c12, rfl, hp12, hb12⟩
    have HBw12 := hid (HBw11.out.trans (hb12.mono HBw11.out.size))
    have R1_w12 := hid (R1_w11.out.keep hb12)
    have T_w12 := hid (T_w11.out.keep hb12)
    have S1_w12 := hid (S1_w11.out.keep hb12)
    have S2_w12 := hid (S2_w11.out.keep hb12)
    have C1_w12 := hid (C1_w11.out.keep hb12)
    have C2_w12 := hid (C2_w11.out.keep hb12)
    have K1_w12 := hid hp12
    clear hb12 hp12
    go_wp2_with fail
    refine ((sLatestStarts_u _ L E0 _ T_w12.out).mono fun e w' h => retL_of h HLT.out).mono ?_
    rintro e w13 ⟨a13, n13, c13, rfl, hp13, hb13⟩
    have HBw13 := hid (HBw12.out.trans (hb13.mono HBw12.out.size))
    have R1_w13 := hid (R1_w12.out.keep hb13)
    have T_w13 := hid (T_w12.out.keep hb13)
    have S1_w13 := hid (S1_w12.out.keep hb13)
    have S2_w13 := hid (S2_w12.out.keep hb13)
    have C1_w13 := hid (C1_w12.out.keep hb13)
    have C2_w13 := hid (C2_w12.out.keep hb13)
    have K1_w13 := hid (K1_w12.out.keep hb13)
    have K2_w13 := hid hp13
    clear hb13 hp13
    go_wp2_with fail
    refine (sameInts_y _ _ (lateF L E0) _ K1_w13.out K2_w13.out).mono ?_
    rintro e w14 ⟨rfl, hb14⟩
    have HBw14 := hid (HBw13.out.trans (hb14.mono HBw13.out.size))
    have R1_w14 := hid (R1_w13.out.keep hb14)
    have T_w14 := hid (T_w13.out.keep hb14)
    have S1_w14 := hid (S1_w13.out.keep hb14)
    have S2_w14 := hid (S2_w13.out.keep hb14)
    have C1_w14 := hid (C1_w13.out.keep hb14)
    have C2_w14 := hid (C2_w13.out.keep hb14)
    have K1_w14 := hid (K1_w13.out.keep hb14)
    have K2_w14 := hid (K2_w13.out.keep hb14)
    clear hb14
    have hK := K2_w14.out
    have hS := S2_w14.out
    obtain ⟨aK, cK, hvK, _, _, hcK⟩ := hK
    obtain ⟨aS, cS, hvS, _, _, hcS⟩ := hS
    rw [hvK, hvS]
    have HKC : Hid (∀ j, j < L.length → ∃ g o, aK = some ⟨g, o, none⟩ ∧ w14.cell? ⟨g, o + j, none⟩ = some (.int .i64 (tL L E0 j))) := fun j hj => hcK j (by rw [HLL.out]; exact hj)
    have HSC : Hid (∀ j, j < L.length → ∃ g o, aS = some ⟨g, o, none⟩ ∧ w14.cell? ⟨g, o + j, none⟩ = some (.int .i64 (tE L j))) := fun j hj => hcS j (by rw [HEL.out]; exact hj)
    obtain ⟨nK, hnK⟩ : ∃ nK, (lateF L E0).length = nK := ⟨_, rfl⟩
    obtain ⟨nS, hnS⟩ : ∃ nS, (earlyF L).length = nS := ⟨_, rfl⟩
    rw [hnK, hnS]
    have HNK : Hid (nK = L.length) := hnK.symm.trans HLL.out
    have HNS : Hid (nS = L.length) := hnS.symm.trans HEL.out
    clear hcK hcS hvK hvS hnK hnS
    go_wp2
    go_loopg [180] (nK + 1) (fun gk iv wr => ∃ i : Nat, iv = .int .i64 i ∧ i ≤ nK ∧ gk = nK + 1 - i ∧ wr = w14)
    case atStart => exact ⟨0, rfl, Nat.zero_le _, rfl, rfl⟩
    case round =>
      obtain ⟨i, rfl, hi, rfl, rfl⟩ := hrel
      by_cases hlt : i < nK
      · have hiL : i < L.length := by have := HNK.out; omega
        have hi13 : i ≤ 13 := by omega
        obtain ⟨g1, o1, rfl, e1⟩ := HKC.out i hiL
        obtain ⟨g2, o2, rfl, e2⟩ := HSC.out i hiL
        have hge := HGE.out i hiL
        obtain ⟨y1, hy1⟩ : ∃ y, tL L E0 i = y := ⟨_, rfl⟩
        obtain ⟨y2, hy2⟩ : ∃ y, tE L i = y := ⟨_, rfl⟩
        rw [hy1] at e1 hge
        rw [hy2] at e2 hge
        clear hy1 hy2
        have hlz : (i : Int) < (nK : Int) := by omega
        have hlz2 : (i : Int) < (nS : Int) := by have := HNS.out; omega
        have hnl : ¬ (y1 < y2) := by omega
        clear hiL
        go_wp2
        go_roundg (nK + 1 - (i + 1))
        case rel => exact ⟨i + 1, by go_num, by omega, rfl, rfl⟩
        case measure => omega
      · obtain rfl : i = nK := by omega
        clear HKC HSC
        go_wp2_with fail
        refine ((iIsProvedEnd_u _ L _ (earlyF L) _ r _ T_w14.out S1_w14.out C1_w14.out).mono fun e w' h => retT_of h HPR.out).mono ?_
        rintro e w16 ⟨rfl, hb16⟩
        have HBw16 := hid (HBw14.out.trans (hb16.mono HBw14.out.size))
        have R1_w16 := hid (R1_w14.out.keep hb16)
        have T_w16 := hid (T_w14.out.keep hb16)
        have S1_w16 := hid (S1_w14.out.keep hb16)
        have S2_w16 := hid (S2_w14.out.keep hb16)
        have C1_w16 := hid (C1_w14.out.keep hb16)
        have C2_w16 := hid (C2_w14.out.keep hb16)
        have K1_w16 := hid (K1_w14.out.keep hb16)
        have K2_w16 := hid (K2_w14.out.keep hb16)
        clear hb16
        go_wp2_with fail
        refine (DrawEndWithDelay_c _ x1 _ R1_w16.out).mono ?_
        rintro e w17 ⟨vM, M, di, by_, rfl, hm13, hM, hb17⟩
        have HBw17 := hid (HBw16.out.trans (hb17.mono HBw16.out.size))
        have R1_w17 := hid (R1_w16.out.keep hb17)
        have M_w17 := hid hM
        obtain ⟨am, cm, rfl⟩ := hM.form
        clear hb17 hM
        have hcase : (delayB M di by_ = (0, false)) ∨ (∃ i : Nat, di = (i : Int) ∧ i < M.length ∧ 0 ≤ by_ ∧ by_ ≤ 1000 ∧ tasksB M = true ∧ delayB M di by_ = (endF (delayF M i by_) (earlyF (delayF M i by_)), true)) := by
          unfold delayB
          cases t1 : tasksB M with
          | false => left; rfl
          | true =>
            cases t2 : inB di 0 ((M.length : Int) - 1) with
            | false => left; rfl
            | true =>
              cases t3 : inB by_ 0 1000 with
              | false => left; rfl
              | true =>
                right
                have h2 := inB_iff.1 t2
                have h3 := inB_iff.1 t3
                exact ⟨di.toNat, by omega, by omega, h3.1, h3.2, rfl, rfl⟩
        rcases hcase with hdel | ⟨i, hdi, hiM, hb0, hb1, tm, hdel⟩
        · have HDEL := hid hdel
          clear hdel
          go_wp2_with fail
          refine ((iEndWithDelay_u _ M di by_ _ M_w17.out).mono fun e w' h => retZ_of h HDEL.out).mono ?_
          rintro e w18 ⟨rfl, hb18⟩
          have HBw18 := hid (HBw17.out.trans (hb18.mono HBw17.out.size))
          have R1_w18 := hid (R1_w17.out.keep hb18)
          have M_w18 := hid (M_w17.out.keep hb18)
          clear hb18
          go_wp2_with fail
          refine ((sEndWithDelay_u _ M di by_ _ M_w18.out).mono fun e w' h => retZ_of h HDEL.out).mono ?_
          rintro e w19 ⟨rfl, hb19⟩
          have HBw19 := hid (HBw18.out.trans (hb19.mono HBw18.out.size))
          have R1_w19 := hid (R1_w18.out.keep hb19)
          have M_w19 := hid (M_w18.out.keep hb19)
          clear hb19
          as_aux_lemma =>
          · go_wp2_with fail
            refine (DrawIsProvedEnd_c _ x1 _ R1_w19.out).mono ?_
            rintro e w20 ⟨vX, X, uY, Y, tZ, Z, rfl, hx13, hy20, hz20, hX, hY, hZ, hb20⟩
            have HBw20 := hid (HBw19.out.trans (hb20.mono HBw19.out.size))
            have X_w20 := hid hX
            have Y_w20 := hid hY
            have Z_w20 := hid hZ
            obtain ⟨ax, cx, rfl⟩ := hX.form
            obtain ⟨ay, cy, rfl⟩ := hY.form
            obtain ⟨az, cz, rfl⟩ := hZ.form
            clear hb20 hX hY hZ
            obtain ⟨p, q, hpq⟩ : ∃ p q, provB X Y Z = (p, q) := ⟨_, _, rfl⟩
            have HPQ := hid hpq
            clear hpq
            go_wp2_with fail
            refine ((iIsProvedEnd_u _ X _ Y _ Z _ X_w20.out Y_w20.out Z_w20.out).mono fun e w' h => retT_of h HPQ.out).mono ?_
            rintro e w21 ⟨rfl, hb21⟩
            have HBw21 := hid (HBw20.out.trans (hb21.mono HBw20.out.size))
            have X_w21 := hid (X_w20.out.keep hb21)
            have Y_w21 := hid (Y_w20.out.keep hb21)
            have Z_w21 := hid (Z_w20.out.keep hb21)
            clear hb21
            go_wp2_with fail
            refine ((sIsProvedEnd_u _ X _ Y _ Z _ X_w21.out Y_w21.out Z_w21.out).mono fun e w' h => retT_of h HPQ.out).mono ?_
            rintro e w22 ⟨rfl, hb22⟩
            have HBw22 := hid (HBw21.out.trans (hb22.mono HBw21.out.size))
            have X_w22 := hid (X_w21.out.keep hb22)
            have Y_w22 := hid (Y_w21.out.keep hb22)
            have Z_w22 := hid (Z_w21.out.keep hb22)
            clear hb22
            cases q
            · cases p
              all_goals
                go_wp2
                go_ret
                exact ⟨rfl, HBw22.out⟩
            · cases p
              · go_wp2
                go_ret
                exact ⟨rfl, HBw22.out⟩
              · obtain ⟨hE, htx, hyl, hyr⟩ := prov_end HPQ.out
                have HGX := hid (good_of_tasksB htx)
                have hen := endB_yes htx
                rw [← hE] at hen
                have HEN3 := hid hen
                have HYL := hid hyl
                have HYR := hid hyr
                have hxl12 := HGX.out.1
                clear hE htx hen hyl hyr
                go_wp2_with fail
                refine ((iProjectEnd_u _ X _ X_w22.out).mono fun e w' h => retZ_of h HEN3.out).mono ?_
                rintro e w23 ⟨rfl, hb23⟩
                have HBw23 := hid (HBw22.out.trans (hb23.mono HBw22.out.size))
                have X_w23 := hid (X_w22.out.keep hb23)
                have Y_w23 := hid (Y_w22.out.keep hb23)
                have Z_w23 := hid (Z_w22.out.keep hb23)
                clear hb23
                obtain ⟨gx, ox, cxx, rx, _, _, hvx, hcx⟩ := rtasks_open X_w23.out
                obtain ⟨_, _, hvy, _, _, hcy⟩ := Y_w23.out
                simp only [Value.slice.injEq] at hvy
                obtain ⟨rfl, _, rfl⟩ := hvy
                have HCX := hid hcx
                have HCY := hid hcy
                have HVX := hid hvx
                clear hcx hcy hvx
                obtain ⟨nY, hnY⟩ : ∃ nY, Y.length = nY := ⟨_, rfl⟩
                have HNY : Hid (nY = X.length) := hnY.symm.trans HYL.out
                have hny12 : nY ≤ 12 := by have := HNY.out; omega
                have HNYY := hid hnY
                rw [hnY]
                clear hnY
                go_wp2
                go_loopg [50, 329] (nY + 1) (fun gk lv iv wr => ∃ (i : Nat) (acc : Int), iv = .int .i64 i ∧ lv = .int .i64 acc ∧ i ≤ nY ∧ gk = nY + 1 - i ∧ wr = w23 ∧ Hid (endF X Y = endL Y i (X.drop i) acc) ∧ 0 ≤ acc ∧ acc ≤ 200000)
                case atStart => exact ⟨0, 0, rfl, rfl, Nat.zero_le _, rfl, rfl, hid (by rw [List.drop_zero]; rfl), by omega, by omega⟩
                case round =>
                  obtain ⟨i, acc, rfl, rfl, hi, rfl, rfl, HAC, ha0, ha1⟩ := hrel
                  by_cases hlt : i < nY
                  · have hiX : i < X.length := by have := HNY.out; omega
                    have hxv := HVX.out (by omega)
                    simp only [Value.slice.injEq] at hxv
                    obtain ⟨rfl, _, rfl⟩ := hxv
                    obtain ⟨_, e1, _⟩ := HCX.out i hiX
                    obtain ⟨g2, o2, hga, e2⟩ := HCY.out i (by rw [HNYY.out]; exact hlt)
                    subst hga
                    have hty := HYR.out i hiX
                    have htt := (HGX.out.2 i hiX).2
                    have HDR := hid (drop_cons X noTsk i hiX)
                    obtain ⟨tt, htt2⟩ : ∃ tt, (X.getD i noTsk).time = tt := ⟨_, rfl⟩
                    obtain ⟨yy, hyy2⟩ : ∃ yy, Y.getD i 0 = yy := ⟨_, rfl⟩
                    have HTT := hid htt2
                    have HYY := hid hyy2
                    rw [htt2] at e1 htt
                    rw [hyy2] at e2 hty
                    clear htt2 hyy2
                    have f9 : IntKind.i64.wrap (yy + tt) = yy + tt := IntWalk.i64_in _ (by omega)
                    have hlz : (i : Int) < (nY : Int) := by omega
                    have hlz2 : (i : Int) < (X.length : Int) := by omega
                    have HST : Hid (endF X Y = endL Y (i + 1) (X.drop (i + 1)) (max acc (yy + tt))) := by
                      show _ = _
                      rw [HAC.out, HDR.out, endL_cons, HTT.out, HYY.out]
                    clear HDR
                    by_cases hgt : yy + tt > acc
                    · have hmx : max acc (yy + tt) = yy + tt := by omega
                      rw [hmx] at HST
                      clear hmx
                      go_wp2
                      go_roundg (nY + 1 - (i + 1))
                      case rel => exact ⟨i + 1, _, by go_num, rfl, by omega, rfl, rfl, HST, by omega, by omega⟩
                      case measure => omega
                    · have hmx : max acc (yy + tt) = acc := by omega
                      rw [hmx] at HST
                      clear hmx
                      go_wp2
                      go_roundg (nY + 1 - (i + 1))
                      case rel => exact ⟨i + 1, _, by go_num, rfl, by omega, rfl, rfl, HST, by omega, by omega⟩
                      case measure => omega
                  · obtain rfl : i = nY := by omega
                    have hend : endF X Y = acc := by rw [HAC.out, List.drop_eq_nil_of_le (by have := HNY.out; omega), endL_nil]
                    rw [hend]
                    clear hend HAC
                    go_wp2
                    go_ret
                    exact ⟨rfl, HBw23.out⟩
        · subst hdi
          have HGM := hid (good_of_tasksB tm)
          have hen := endB_yes tm
          have hcr : critB M = (placesF (floatF M) 0, true) := by unfold critB; rw [tm]; rfl
          have hD := delayF_good tm hb0 hb1 (i := i)
          have hde := delay_end HGM.out hD hb0
          have hcrit := fun h => delay_critical HGM.out hD hb0 hiM h
          have hhas : hasB (placesF (floatF M) 0) (i : Int) = ((floatF M).getD i 0 == 0) := hasB_places (by rw [floatF_len HGM.out]; exact hiM)
          have hr1 := endF_range HGM.out
          obtain ⟨E1, hE1⟩ : ∃ E, endF M (earlyF M) = E := ⟨_, rfl⟩
          obtain ⟨E2, hE2⟩ : ∃ E, endF (delayF M i by_) (earlyF (delayF M i by_)) = E := ⟨_, rfl⟩
          obtain ⟨fl, hfl⟩ : ∃ fl, (floatF M).getD i 0 = fl := ⟨_, rfl⟩
          rw [hE1] at hen hde hcrit hr1
          rw [hE2] at hdel hde hcrit
          rw [hfl] at hcrit hhas
          have hbr : (fl == 0) = true → E2 = E1 + by_ := fun h => hcrit (by simpa using h)
          obtain ⟨bc, hbc⟩ : ∃ bc, (fl == 0) = bc := ⟨_, rfl⟩
          rw [hbc] at hhas hbr
          have HDEL := hid hdel
          have HEN1 := hid hen
          have HCR := hid hcr
          have HHAS := hid hhas
          have HBR := hid hbr
          have hd1 : ¬ (E2 < E1) := by omega
          have hd2 : ¬ (E2 > E1 + by_) := by omega
          have f7 : IntKind.i64.wrap (E1 + by_) = E1 + by_ := IntWalk.i64_in _ (by omega)
          clear hen hcr hD hde hcrit hhas hbr hfl hbc hE1 hE2 hdel tm hr1
          go_wp2_with fail
          refine ((iEndWithDelay_u _ M (i : Int) by_ _ M_w17.out).mono fun e w' h => retZ_of h HDEL.out).mono ?_
          rintro e w18 ⟨rfl, hb18⟩
          have HBw18 := hid (HBw17.out.trans (hb18.mono HBw17.out.size))
          have R1_w18 := hid (R1_w17.out.keep hb18)
          have M_w18 := hid (M_w17.out.keep hb18)
          clear hb18
          go_wp2_with fail
          refine ((sEndWithDelay_u _ M (i : Int) by_ _ M_w18.out).mono fun e w' h => retZ_of h HDEL.out).mono ?_
          rintro e w19 ⟨rfl, hb19⟩
          have HBw19 := hid (HBw18.out.trans (hb19.mono HBw18.out.size))
          have R1_w19 := hid (R1_w18.out.keep hb19)
          have M_w19 := hid (M_w18.out.keep hb19)
          clear hb19
          go_wp2_with fail
          refine ((iProjectEnd_u _ M _ M_w19.out).mono fun e w' h => retZ_of h HEN1.out).mono ?_
          rintro e w20 ⟨rfl, hb20⟩
          have HBw20 := hid (HBw19.out.trans (hb20.mono HBw19.out.size))
          have R1_w20 := hid (R1_w19.out.keep hb20)
          have M_w20 := hid (M_w19.out.keep hb20)
          clear hb20
          go_wp2_with fail
          refine ((iCriticalTasks_u _ M _ M_w20.out).mono fun e w' h => retL_of h HCR.out).mono ?_
          rintro e w21 ⟨a21, n21, c21, rfl, hp21, hb21⟩
          have HBw21 := hid (HBw20.out.trans (hb21.mono HBw20.out.size))
          have R1_w21 := hid (R1_w20.out.keep hb21)
          have M_w21 := hid (M_w20.out.keep hb21)
          have P1_w21 := hid hp21
          clear hb21 hp21
          go_wp2_with fail
          refine ((sCriticalTasks_u _ M _ M_w21.out).mono fun e w' h => retL_of h HCR.out).mono ?_
          rintro e w22 ⟨a22, n22, c22, rfl, hp22, hb22⟩
          have HBw22 := hid (HBw21.out.trans (hb22.mono HBw21.out.size))
          have R1_w22 := hid (R1_w21.out.keep hb22)
          have M_w22 := hid (M_w21.out.keep hb22)
          have P1_w22 := hid (P1_w21.out.keep hb22)
          have P2_w22 := hid hp22
          clear hb22 hp22
          go_wp2_with fail
          refine (sameInts_y _ _ (placesF (floatF M) 0) _ P1_w22.out P2_w22.out).mono ?_
          rintro e w23 ⟨rfl, hb23⟩
          have HBw23 := hid (HBw22.out.trans (hb23.mono HBw22.out.size))
          have R1_w23 := hid (R1_w22.out.keep hb23)
          have M_w23 := hid (M_w22.out.keep hb23)
          have P1_w23 := hid (P1_w22.out.keep hb23)
          have P2_w23 := hid (P2_w22.out.keep hb23)
          clear hb23
          cases bc
          case' true =>
            have hbe := HBR.out rfl
            have hbe2 : (E2 != E1 + by_) = false := by rw [hbe]; simp
          all_goals
            go_wp2_with fail
            refine (pIn_c _ (placesF (floatF M) 0) (i : Int) _ P2_w23.out).mono ?_
            rintro e w' ⟨rfl, rfl⟩
            rw [HHAS.out]
            as_aux_lemma =>
            · go_wp2_with fail
              refine (DrawIsProvedEnd_c _ x1 _ R1_w23.out).mono ?_
              rintro e w24 ⟨vX, X, uY, Y, tZ, Z, rfl, hx13, hy20, hz20, hX, hY, hZ, hb24⟩
              have HBw24 := hid (HBw23.out.trans (hb24.mono HBw23.out.size))
              have X_w24 := hid hX
              have Y_w24 := hid hY
              have Z_w24 := hid hZ
              obtain ⟨ax, cx, rfl⟩ := hX.form
              obtain ⟨ay, cy, rfl⟩ := hY.form
              obtain ⟨az, cz, rfl⟩ := hZ.form
              clear hb24 hX hY hZ
              obtain ⟨p, q, hpq⟩ : ∃ p q, provB X Y Z = (p, q) := ⟨_, _, rfl⟩
              have HPQ := hid hpq
              clear hpq
              go_wp2_with fail
              refine ((iIsProvedEnd_u _ X _ Y _ Z _ X_w24.out Y_w24.out Z_w24.out).mono fun e w' h => retT_of h HPQ.out).mono ?_
              rintro e w25 ⟨rfl, hb25⟩
              have HBw25 := hid (HBw24.out.trans (hb25.mono HBw24.out.size))
              have X_w25 := hid (X_w24.out.keep hb25)
              have Y_w25 := hid (Y_w24.out.keep hb25)
              have Z_w25 := hid (Z_w24.out.keep hb25)
              clear hb25
              go_wp2_with fail
              refine ((sIsProvedEnd_u _ X _ Y _ Z _ X_w25.out Y_w25.out Z_w25.out).mono fun e w' h => retT_of h HPQ.out).mono ?_
              rintro e w26 ⟨rfl, hb26⟩
              have HBw26 := hid (HBw25.out.trans (hb26.mono HBw25.out.size))
              have X_w26 := hid (X_w25.out.keep hb26)
              have Y_w26 := hid (Y_w25.out.keep hb26)
              have Z_w26 := hid (Z_w25.out.keep hb26)
              clear hb26
              cases q
              · cases p
                all_goals
                  go_wp2
                  go_ret
                  exact ⟨rfl, HBw26.out⟩
              · cases p
                · go_wp2
                  go_ret
                  exact ⟨rfl, HBw26.out⟩
                · obtain ⟨hE, htx, hyl, hyr⟩ := prov_end HPQ.out
                  have HGX := hid (good_of_tasksB htx)
                  have hen := endB_yes htx
                  rw [← hE] at hen
                  have HEN3 := hid hen
                  have HYL := hid hyl
                  have HYR := hid hyr
                  have hxl12 := HGX.out.1
                  clear hE htx hen hyl hyr
                  go_wp2_with fail
                  refine ((iProjectEnd_u _ X _ X_w26.out).mono fun e w' h => retZ_of h HEN3.out).mono ?_
                  rintro e w27 ⟨rfl, hb27⟩
                  have HBw27 := hid (HBw26.out.trans (hb27.mono HBw26.out.size))
                  have X_w27 := hid (X_w26.out.keep hb27)
                  have Y_w27 := hid (Y_w26.out.keep hb27)
                  have Z_w27 := hid (Z_w26.out.keep hb27)
                  clear hb27
                  obtain ⟨gx, ox, cxx, rx, _, _, hvx, hcx⟩ := rtasks_open X_w27.out
                  obtain ⟨_, _, hvy, _, _, hcy⟩ := Y_w27.out
                  simp only [Value.slice.injEq] at hvy
                  obtain ⟨rfl, _, rfl⟩ := hvy
                  have HCX := hid hcx
                  have HCY := hid hcy
                  have HVX := hid hvx
                  clear hcx hcy hvx
                  obtain ⟨nY, hnY⟩ : ∃ nY, Y.length = nY := ⟨_, rfl⟩
                  have HNY : Hid (nY = X.length) := hnY.symm.trans HYL.out
                  have hny12 : nY ≤ 12 := by have := HNY.out; omega
                  have HNYY := hid hnY
                  rw [hnY]
                  clear hnY
                  go_wp2
                  go_loopg [50, 329] (nY + 1) (fun gk lv iv wr => ∃ (i : Nat) (acc : Int), iv = .int .i64 i ∧ lv = .int .i64 acc ∧ i ≤ nY ∧ gk = nY + 1 - i ∧ wr = w27 ∧ Hid (endF X Y = endL Y i (X.drop i) acc) ∧ 0 ≤ acc ∧ acc ≤ 200000)
                  case atStart => exact ⟨0, 0, rfl, rfl, Nat.zero_le _, rfl, rfl, hid (by rw [List.drop_zero]; rfl), by omega, by omega⟩
                  case round =>
                    obtain ⟨i, acc, rfl, rfl, hi, rfl, rfl, HAC, ha0, ha1⟩ := hrel
                    by_cases hlt : i < nY
                    · have hiX : i < X.length := by have := HNY.out; omega
                      have hxv := HVX.out (by omega)
                      simp only [Value.slice.injEq] at hxv
                      obtain ⟨rfl, _, rfl⟩ := hxv
                      obtain ⟨_, e1, _⟩ := HCX.out i hiX
                      obtain ⟨g2, o2, hga, e2⟩ := HCY.out i (by rw [HNYY.out]; exact hlt)
                      subst hga
                      have hty := HYR.out i hiX
                      have htt := (HGX.out.2 i hiX).2
                      have HDR := hid (drop_cons X noTsk i hiX)
                      obtain ⟨tt, htt2⟩ : ∃ tt, (X.getD i noTsk).time = tt := ⟨_, rfl⟩
                      obtain ⟨yy, hyy2⟩ : ∃ yy, Y.getD i 0 = yy := ⟨_, rfl⟩
                      have HTT := hid htt2
                      have HYY := hid hyy2
                      rw [htt2] at e1 htt
                      rw [hyy2] at e2 hty
                      clear htt2 hyy2
                      have f9 : IntKind.i64.wrap (yy + tt) = yy + tt := IntWalk.i64_in _ (by omega)
                      have hlz : (i : Int) < (nY : Int) := by omega
                      have hlz2 : (i : Int) < (X.length : Int) := by omega
                      have HST : Hid (endF X Y = endL Y (i + 1) (X.drop (i + 1)) (max acc (yy + tt))) := by
                        show _ = _
                        rw [HAC.out, HDR.out, endL_cons, HTT.out, HYY.out]
                      clear HDR
                      by_cases hgt : yy + tt > acc
                      · have hmx : max acc (yy + tt) = yy + tt := by omega
                        rw [hmx] at HST
                        clear hmx
                        go_wp2
                        go_roundg (nY + 1 - (i + 1))
                        case rel => exact ⟨i + 1, _, by go_num, rfl, by omega, rfl, rfl, HST, by omega, by omega⟩
                        case measure => omega
                      · have hmx : max acc (yy + tt) = acc := by omega
                        rw [hmx] at HST
                        clear hmx
                        go_wp2
                        go_roundg (nY + 1 - (i + 1))
                        case rel => exact ⟨i + 1, _, by go_num, rfl, by omega, rfl, rfl, HST, by omega, by omega⟩
                        case measure => omega
                    · obtain rfl : i = nY := by omega
                      have hend : endF X Y = acc := by rw [HAC.out, List.drop_eq_nil_of_le (by have := HNY.out; omega), endL_nil]
                      rw [hend]
                      clear hend HAC
                      go_wp2
                      go_ret
                      exact ⟨rfl, HBw27.out⟩

set_option maxRecDepth 100000 in
theorem fnProjects_lifted (os : Os) (started : os.Started) (H : Type) (enc : TypeId × Value → H) :
    ReturnsInHanded {} Try.checked os 6 .any (Rows.fnProjectsSpec.pre6 enc Try.prog Try.f6 Rows.fnProjectsRow.domain false) (Rows.fnProjectsSpec.post enc Try.prog Try.f6 false true false false) := by
  refine returnsInHanded_of_change (C := Try.checked) Try.own' started (by kernel_rfl) Try.func6
    (ChangeSpec.witness6 (enc := enc) (C := Try.checked) false ⟨#[], #[.slice none 0 0, .slice none 0 0], []⟩ 8 (by kernel_rfl) (by kernel_rfl) (by kernel_rfl) (by kernel_rfl)) ?_
  intro W base args ds gs before hval0 hW hcnd _
  have hval : ∀ (j : Nat) t v, Try.f6.params[j]? = some t → args[j]? = some v → Value.okWide Try.prog W .any base t v := hval0
  have hW' := hW
  obtain ⟨p, q, hA0, hV, rfl, hfz, hnd⟩ := hW
  have hA : DataW.TrodAll enc Try.prog W 0 (fun _ => true) true Try.f6.params.toList args.toList ds p := hA0
  rw [Try.params6] at hA hval
  obtain ⟨v0, vs0, d0, ds0, p0, q0, hargs, rfl, rfl, h0, t0⟩ := trodAll_cons hA
  obtain ⟨v1, vs1, d1, ds1, p1, q1, rfl, rfl, rfl, h1, t1⟩ := trodAll_cons t0
  obtain ⟨rfl, rfl, rfl⟩ := trodAll_nil t1
  obtain rfl : args = #[v0, v1] := by cases args; simp_all
  obtain ⟨rfl, rfl⟩ := trodVars_none hV
  have k0 := h0
  have lt0 := trod_blocks k0
  obtain ⟨x0, r0, i0⟩ := open_rbytes (hval 0 28 v0 rfl rfl) h0
  have k1 := h1
  have lt1 := trod_blocks k1
  obtain ⟨x1, r1, i1⟩ := open_rbytes (hval 1 28 v1 rfl rfl) h1
  clear hA0 hval0
  refine (FnProjects_c v0 x0 v1 x1 W r0 r1).mono fun e W' ⟨he, bel⟩ => ?_
  subst he
  exact ⟨_, rfl, _, _, _, [], _, [], hW', trodAll_mk1 (shut_bool Try.underlying4 _), (trodAll_cons_mk (Below.trod Try.laidOut' (by kernel_rfl) (of_decide_eq_true (by kernel_rfl)) k0 bel lt0) (trodAll_cons_mk (Below.trod Try.laidOut' (by kernel_rfl) (of_decide_eq_true (by kernel_rfl)) k1 bel lt1) trodAll_mk0)), rfl, bel.frame _, fun h => by cases h⟩

theorem fnProjects_holds : Rows.FnProjectsSaid :=
  OpenClaim.holds_of_wide 6 Try.f6 rfl rfl rfl rfl rfl rfl rfl ⟨rfl, rfl, rfl, rfl, rfl⟩ rfl rfl rfl rfl rfl (by kernel_rfl) Try.func6 (by kernel_rfl)
    (of_decide_eq_true (by kernel_rfl)) (by unfold Func.isWrapper; first | (rw [if_pos (by decide +kernel)]; kernel_rfl) | (rw [if_neg (by decide +kernel)]; exact ⟨rfl, rfl⟩))
    (fun os started H enc _ => fnProjects_lifted os started H enc)

end Go.Proofs.Ytegeelldcomnnaa
