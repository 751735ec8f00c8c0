/- FnMetrics returns true for every input, and its arguments read as before. No condition. -/
import Derived.Test.YtcgcgmlonhganaaMetM
namespace Go.Proofs.Ytcgcgmlonhganaa
open Go.ChangeShapes Go.WideShapes Go.ChangeAt Go.RowKit
open Go.Lib (hid)

set_option maxRecDepth 100000 in
set_option maxHeartbeats 40000000 in
theorem FnMetrics_c (v0 : Value) (x0 : Nat) (v1 : Value) (x1 : Nat) (w : World) (r0 : RBytes w v0 x0) (r1 : RBytes w v1 x1) :
    Calls Try.prog 5 #[v0, v1] w fun e w' => e = .returned (.bool true) ∧ Below w.heap.size w w' := by
  have R0 := hid r0
  have R1 := hid r1
  obtain ⟨a0, c0, rfl, hx0, hm0⟩ := r0.form
  obtain ⟨a1, c1, rfl, hx1, hm1⟩ := r1.form
  unfold maxLen at hm0 hm1
  clear r0 r1
  cases tbig : bigB x0 x1
  case' true =>
    have HTB := hid tbig
    clear tbig
    go_enter Try.func5, Try.ntmps5
    go_wp2_with fail
    refine (big_c _ _ _ _ _ R0.out R1.out).mono ?_
    rintro e w' ⟨rfl, q, rfl⟩
    rw [HTB.out]
    go_wp2
    go_ret
    exact ⟨rfl, below_drewN (Below.refl _ _) _⟩
  have HTB := hid tbig
  clear tbig
  go_enter Try.func5, Try.ntmps5
  go_wp2_with fail
  refine (big_c _ _ _ _ _ R0.out R1.out).mono ?_
  rintro e w0 ⟨rfl, qb, hqb⟩
  rw [HTB.out]
  have HB0 : Hid (Below w.heap.size w w0) := by rw [hqb]; exact below_drewN (Below.refl _ _) _
  have R0_0 := hid (R0.out.keep HB0.out)
  have R1_0 := hid (R1.out.keep HB0.out)
  clear hqb
  go_wp2_with fail
  refine (DrawUltraBelow_c _ x0 _ R0_0.out).mono ?_
  rintro e w1 ⟨vm, M, rfl, hM, hb1⟩
  have HBw1 := hid (HB0.out.trans (hb1.mono HB0.out.size))
  have R1_w1 := hid (R1_0.out.keep hb1)
  have M_w1 := hid hM
  obtain ⟨am, nm, cm, rfl⟩ : ∃ a n c, vm = .slice a n c := by obtain ⟨a, c, rfl, _⟩ := hM; exact ⟨a, _, c, rfl⟩
  clear hb1 hM
  cases t : metB M
  · obtain ⟨hu, hi⟩ := ult_no t
    have HU := hid hu
    have HI := hid hi
    have HT := hid t
    clear hu hi t
    go_wp2_with fail
    refine ((iUltraBelow_u _ M _ M_w1.out).mono fun e w' h => h.lp HU.out).mono ?_
    rintro e w2 ⟨a2, n2, c2, rfl, hp2, hb2⟩
    have HBw2 := hid (HBw1.out.trans (hb2.mono HBw1.out.size))
    have R1_w2 := hid (R1_w1.out.keep hb2)
    have M_w2 := hid (M_w1.out.keep hb2)
    have U1_w2 := hid hp2
    clear hb2 hp2
    go_wp2_with fail
    refine ((sUltraBelow_u _ M _ M_w2.out).mono fun e w' h => h.lp HU.out).mono ?_
    rintro e w3 ⟨a3, n3, c3, rfl, hp3, hb3⟩
    have HBw3 := hid (HBw2.out.trans (hb3.mono HBw2.out.size))
    have R1_w3 := hid (R1_w2.out.keep hb3)
    have M_w3 := hid (M_w2.out.keep hb3)
    have U1_w3 := hid (U1_w2.out.keep hb3)
    have U2_w3 := hid hp3
    clear hb3 hp3
    go_wp2_with fail
    refine ((iIsUltrametric_u _ M _ M_w3.out).mono fun e w' h => bbLp h HI.out).mono ?_
    rintro e w4 ⟨rfl, hb4⟩
    have HBw4 := hid (HBw3.out.trans (hb4.mono HBw3.out.size))
    have R1_w4 := hid (R1_w3.out.keep hb4)
    have M_w4 := hid (M_w3.out.keep hb4)
    have U1_w4 := hid (U1_w3.out.keep hb4)
    have U2_w4 := hid (U2_w3.out.keep hb4)
    clear hb4
    go_wp2_with fail
    refine ((sIsUltrametric_u _ M _ M_w4.out).mono fun e w' h => bbLp h HI.out).mono ?_
    rintro e w5 ⟨rfl, hb5⟩
    have HBw5 := hid (HBw4.out.trans (hb5.mono HBw4.out.size))
    have R1_w5 := hid (R1_w4.out.keep hb5)
    have M_w5 := hid (M_w4.out.keep hb5)
    have U1_w5 := hid (U1_w4.out.keep hb5)
    have U2_w5 := hid (U2_w4.out.keep hb5)
    clear hb5
    go_wp2_with fail
    refine (sameLists_y _ _ [] _ U1_w5.out U2_w5.out).mono ?_
    rintro e w6 ⟨rfl, hb6⟩
    have HBw6 := hid (HBw5.out.trans (hb6.mono HBw5.out.size))
    have R1_w6 := hid (R1_w5.out.keep hb6)
    have M_w6 := hid (M_w5.out.keep hb6)
    have U1_w6 := hid (U1_w5.out.keep hb6)
    have U2_w6 := hid (U2_w5.out.keep hb6)
    clear hb6
    go_wp2_with fail
    refine (iIsMetric_u _ M _ M_w6.out).mono ?_
    rintro e w7 ⟨rfl, hb7⟩
    have HBw7 := hid (HBw6.out.trans (hb7.mono HBw6.out.size))
    have R1_w7 := hid (R1_w6.out.keep hb7)
    have M_w7 := hid (M_w6.out.keep hb7)
    have U1_w7 := hid (U1_w6.out.keep hb7)
    have U2_w7 := hid (U2_w6.out.keep hb7)
    clear hb7
    rw [HT.out]
    as_aux_lemma =>
      go_wp2_with fail
      refine (DrawAddPendants_c _ x1 _ R1_w7.out).mono ?_
      rintro e w8 ⟨vp, P, vb, by_, rfl, hP, hY, hb8⟩
      have HBw8 := hid (HBw7.out.trans (hb8.mono HBw7.out.size))
      have R1_w8 := hid (R1_w7.out.keep hb8)
      have P_w8 := hid hP
      have Y_w8 := hid hY
      obtain ⟨ap, np, cp, rfl⟩ : ∃ a n c, vp = .slice a n c := by obtain ⟨a, c, rfl, _⟩ := hP; exact ⟨a, _, c, rfl⟩
      obtain ⟨ab, nb, cb, rfl⟩ := hY.form3
      obtain ⟨A, ba, ha2⟩ : ∃ A ba, pendB P by_ = (A, ba) := ⟨_, _, rfl⟩
      have hlaw := fun (h : ba = true) => pend_law (M := P) (A := A) (b := by_) (by rw [ha2, h])
      have HAA := hid ha2
      clear ha2
      clear hb8 hP hY
      go_wp2_with fail
      refine ((iAddPendants_u _ P _ by_ _ P_w8.out Y_w8.out).mono fun e w' h => h.lp HAA.out).mono ?_
      rintro e w9 ⟨a9, n9, c9, rfl, hp9, hb9⟩
      have HBw9 := hid (HBw8.out.trans (hb9.mono HBw8.out.size))
      have R1_w9 := hid (R1_w8.out.keep hb9)
      have P_w9 := hid (P_w8.out.keep hb9)
      have Y_w9 := hid (Y_w8.out.keep hb9)
      have A1_w9 := hid hp9
      clear hb9 hp9
      go_wp2_with fail
      refine ((sAddPendants_u _ P _ by_ _ P_w9.out Y_w9.out).mono fun e w' h => h.lp HAA.out).mono ?_
      rintro e w10 ⟨a10, n10, c10, rfl, hp10, hb10⟩
      have HBw10 := hid (HBw9.out.trans (hb10.mono HBw9.out.size))
      have R1_w10 := hid (R1_w9.out.keep hb10)
      have P_w10 := hid (P_w9.out.keep hb10)
      have Y_w10 := hid (Y_w9.out.keep hb10)
      have A1_w10 := hid (A1_w9.out.keep hb10)
      have A2_w10 := hid hp10
      clear hb10 hp10
      go_wp2_with fail
      refine (sameLists_y _ _ A _ A1_w10.out A2_w10.out).mono ?_
      rintro e w11 ⟨rfl, hb11⟩
      have HBw11 := hid (HBw10.out.trans (hb11.mono HBw10.out.size))
      have R1_w11 := hid (R1_w10.out.keep hb11)
      have P_w11 := hid (P_w10.out.keep hb11)
      have A1_w11 := hid (A1_w10.out.keep hb11)
      have A2_w11 := hid (A2_w10.out.keep hb11)
      clear hb11
      cases ba
      · clear hlaw
        as_aux_lemma =>
          go_wp2_with fail
          refine (DrawWithoutTaxon_c _ x1 _ R1_w11.out).mono ?_
          rintro e w12 ⟨vq, Q, k, rfl, hQ, hb12⟩
          have HBw12 := hid (HBw11.out.trans (hb12.mono HBw11.out.size))
          have Q_w12 := hid hQ
          obtain ⟨aq, nq, cq, rfl⟩ : ∃ a n c, vq = .slice a n c := by obtain ⟨a, c, rfl, _⟩ := hQ; exact ⟨a, _, c, rfl⟩
          obtain ⟨WW, bw, hw2⟩ : ∃ WW bw, wtoB Q k = (WW, bw) := ⟨_, _, rfl⟩
          have hlaw := fun (h : bw = true) => wto_law (M := Q) (W := WW) (i := k) (by rw [hw2, h])
          have HWW := hid hw2
          clear hw2
          clear hb12 hQ
          go_wp2_with fail
          refine ((iWithoutTaxon_u _ Q k _ Q_w12.out).mono fun e w' h => h.lp HWW.out).mono ?_
          rintro e w13 ⟨a13, n13, c13, rfl, hp13, hb13⟩
          have HBw13 := hid (HBw12.out.trans (hb13.mono HBw12.out.size))
          have Q_w13 := hid (Q_w12.out.keep hb13)
          have W1_w13 := hid hp13
          clear hb13 hp13
          go_wp2_with fail
          refine ((sWithoutTaxon_u _ Q k _ Q_w13.out).mono fun e w' h => h.lp HWW.out).mono ?_
          rintro e w14 ⟨a14, n14, c14, rfl, hp14, hb14⟩
          have HBw14 := hid (HBw13.out.trans (hb14.mono HBw13.out.size))
          have Q_w14 := hid (Q_w13.out.keep hb14)
          have W1_w14 := hid (W1_w13.out.keep hb14)
          have W2_w14 := hid hp14
          clear hb14 hp14
          go_wp2_with fail
          refine (sameLists_y _ _ WW _ W1_w14.out W2_w14.out).mono ?_
          rintro e w15 ⟨rfl, hb15⟩
          have HBw15 := hid (HBw14.out.trans (hb15.mono HBw14.out.size))
          have Q_w15 := hid (Q_w14.out.keep hb15)
          have W1_w15 := hid (W1_w14.out.keep hb15)
          have W2_w15 := hid (W2_w14.out.keep hb15)
          clear hb15
          cases bw
          · clear hlaw
            go_wp2
            go_ret
            exact ⟨rfl, HBw15.out⟩
          · obtain ⟨_, hlen, x, y, hx, hy, hxy⟩ := hlaw rfl
            obtain ⟨e1, e2⟩ := rmat_n Q_w15.out
            obtain ⟨e3, e4⟩ := rmat_n W2_w15.out
            have HX := hid hx
            have HY := hid hy
            have f1 : IntKind.i64.wrap ((nq : Int) - 1) = (nq : Int) - 1 := IntWalk.i64_in _ (by omega)
            have t1 : ((n14 : Int) == (nq : Int) - 1) = true := by rw [beq_iff_eq]; omega
            clear hlaw hx hy hlen e1 e3
            go_wp2_with fail
            refine ((iIsTreeMetric_u _ Q _ Q_w15.out).mono fun e w' h => bbLp h HX.out).mono ?_
            rintro e w16 ⟨rfl, hb16⟩
            have HBw16 := hid (HBw15.out.trans (hb16.mono HBw15.out.size))
            have Q_w16 := hid (Q_w15.out.keep hb16)
            have W1_w16 := hid (W1_w15.out.keep hb16)
            have W2_w16 := hid (W2_w15.out.keep hb16)
            clear hb16
            go_wp2_with fail
            refine ((iIsTreeMetric_u _ WW _ W1_w16.out).mono fun e w' h => bbLp h HY.out).mono ?_
            rintro e w17 ⟨rfl, hb17⟩
            have HBw17 := hid (HBw16.out.trans (hb17.mono HBw16.out.size))
            have Q_w17 := hid (Q_w16.out.keep hb17)
            have W1_w17 := hid (W1_w16.out.keep hb17)
            have W2_w17 := hid (W2_w16.out.keep hb17)
            clear hb17
            cases x <;> cases y
            all_goals try (exfalso; simp at hxy; done)
            all_goals
              clear hxy
              go_wp2
              go_ret
              exact ⟨rfl, HBw17.out⟩
      · obtain ⟨_, x, hx, hy⟩ := hlaw rfl
        have HX := hid hx
        have HY := hid hy
        clear hlaw hx hy
        go_wp2_with fail
        refine ((iIsTreeMetric_u _ P _ P_w11.out).mono fun e w' h => bbLp h HX.out).mono ?_
        rintro e w12 ⟨rfl, hb12⟩
        have HBw12 := hid (HBw11.out.trans (hb12.mono HBw11.out.size))
        have R1_w12 := hid (R1_w11.out.keep hb12)
        have P_w12 := hid (P_w11.out.keep hb12)
        have A1_w12 := hid (A1_w11.out.keep hb12)
        clear hb12
        go_wp2_with fail
        refine ((iIsTreeMetric_u _ A _ A1_w12.out).mono fun e w' h => bbLp h HY.out).mono ?_
        rintro e w13 ⟨rfl, hb13⟩
        have HBw13 := hid (HBw12.out.trans (hb13.mono HBw12.out.size))
        have R1_w13 := hid (R1_w12.out.keep hb13)
        have P_w13 := hid (P_w12.out.keep hb13)
        have A1_w13 := hid (A1_w12.out.keep hb13)
        clear hb13
        cases x
        · as_aux_lemma =>
            go_wp2_with fail
            refine (DrawWithoutTaxon_c _ x1 _ R1_w13.out).mono ?_
            rintro e w14 ⟨vq, Q, k, rfl, hQ, hb14⟩
            have HBw14 := hid (HBw13.out.trans (hb14.mono HBw13.out.size))
            have Q_w14 := hid hQ
            obtain ⟨aq, nq, cq, rfl⟩ : ∃ a n c, vq = .slice a n c := by obtain ⟨a, c, rfl, _⟩ := hQ; exact ⟨a, _, c, rfl⟩
            obtain ⟨WW, bw, hw2⟩ : ∃ WW bw, wtoB Q k = (WW, bw) := ⟨_, _, rfl⟩
            have hlaw := fun (h : bw = true) => wto_law (M := Q) (W := WW) (i := k) (by rw [hw2, h])
            have HWW := hid hw2
            clear hw2
            clear hb14 hQ
            go_wp2_with fail
            refine ((iWithoutTaxon_u _ Q k _ Q_w14.out).mono fun e w' h => h.lp HWW.out).mono ?_
            rintro e w15 ⟨a15, n15, c15, rfl, hp15, hb15⟩
            have HBw15 := hid (HBw14.out.trans (hb15.mono HBw14.out.size))
            have Q_w15 := hid (Q_w14.out.keep hb15)
            have W1_w15 := hid hp15
            clear hb15 hp15
            go_wp2_with fail
            refine ((sWithoutTaxon_u _ Q k _ Q_w15.out).mono fun e w' h => h.lp HWW.out).mono ?_
            rintro e w16 ⟨a16, n16, c16, rfl, hp16, hb16⟩
            have HBw16 := hid (HBw15.out.trans (hb16.mono HBw15.out.size))
            have Q_w16 := hid (Q_w15.out.keep hb16)
            have W1_w16 := hid (W1_w15.out.keep hb16)
            have W2_w16 := hid hp16
            clear hb16 hp16
            go_wp2_with fail
            refine (sameLists_y _ _ WW _ W1_w16.out W2_w16.out).mono ?_
            rintro e w17 ⟨rfl, hb17⟩
            have HBw17 := hid (HBw16.out.trans (hb17.mono HBw16.out.size))
            have Q_w17 := hid (Q_w16.out.keep hb17)
            have W1_w17 := hid (W1_w16.out.keep hb17)
            have W2_w17 := hid (W2_w16.out.keep hb17)
            clear hb17
            cases bw
            · clear hlaw
              go_wp2
              go_ret
              exact ⟨rfl, HBw17.out⟩
            · obtain ⟨_, hlen, x, y, hx, hy, hxy⟩ := hlaw rfl
              obtain ⟨e1, e2⟩ := rmat_n Q_w17.out
              obtain ⟨e3, e4⟩ := rmat_n W2_w17.out
              have HX := hid hx
              have HY := hid hy
              have f1 : IntKind.i64.wrap ((nq : Int) - 1) = (nq : Int) - 1 := IntWalk.i64_in _ (by omega)
              have t1 : ((n16 : Int) == (nq : Int) - 1) = true := by rw [beq_iff_eq]; omega
              clear hlaw hx hy hlen e1 e3
              go_wp2_with fail
              refine ((iIsTreeMetric_u _ Q _ Q_w17.out).mono fun e w' h => bbLp h HX.out).mono ?_
              rintro e w18 ⟨rfl, hb18⟩
              have HBw18 := hid (HBw17.out.trans (hb18.mono HBw17.out.size))
              have Q_w18 := hid (Q_w17.out.keep hb18)
              have W1_w18 := hid (W1_w17.out.keep hb18)
              have W2_w18 := hid (W2_w17.out.keep hb18)
              clear hb18
              go_wp2_with fail
              refine ((iIsTreeMetric_u _ WW _ W1_w18.out).mono fun e w' h => bbLp h HY.out).mono ?_
              rintro e w19 ⟨rfl, hb19⟩
              have HBw19 := hid (HBw18.out.trans (hb19.mono HBw18.out.size))
              have Q_w19 := hid (Q_w18.out.keep hb19)
              have W1_w19 := hid (W1_w18.out.keep hb19)
              have W2_w19 := hid (W2_w18.out.keep hb19)
              clear hb19
              cases x <;> cases y
              all_goals try (exfalso; simp at hxy; done)
              all_goals
                clear hxy
                go_wp2
                go_ret
                exact ⟨rfl, HBw19.out⟩
        · as_aux_lemma =>
            go_wp2_with fail
            refine (DrawWithoutTaxon_c _ x1 _ R1_w13.out).mono ?_
            rintro e w14 ⟨vq, Q, k, rfl, hQ, hb14⟩
            have HBw14 := hid (HBw13.out.trans (hb14.mono HBw13.out.size))
            have Q_w14 := hid hQ
            obtain ⟨aq, nq, cq, rfl⟩ : ∃ a n c, vq = .slice a n c := by obtain ⟨a, c, rfl, _⟩ := hQ; exact ⟨a, _, c, rfl⟩
            obtain ⟨WW, bw, hw2⟩ : ∃ WW bw, wtoB Q k = (WW, bw) := ⟨_, _, rfl⟩
            have hlaw := fun (h : bw = true) => wto_law (M := Q) (W := WW) (i := k) (by rw [hw2, h])
            have HWW := hid hw2
            clear hw2
            clear hb14 hQ
            go_wp2_with fail
            refine ((iWithoutTaxon_u _ Q k _ Q_w14.out).mono fun e w' h => h.lp HWW.out).mono ?_
            rintro e w15 ⟨a15, n15, c15, rfl, hp15, hb15⟩
            have HBw15 := hid (HBw14.out.trans (hb15.mono HBw14.out.size))
            have Q_w15 := hid (Q_w14.out.keep hb15)
            have W1_w15 := hid hp15
            clear hb15 hp15
            go_wp2_with fail
            refine ((sWithoutTaxon_u _ Q k _ Q_w15.out).mono fun e w' h => h.lp HWW.out).mono ?_
            rintro e w16 ⟨a16, n16, c16, rfl, hp16, hb16⟩
            have HBw16 := hid (HBw15.out.trans (hb16.mono HBw15.out.size))
            have Q_w16 := hid (Q_w15.out.keep hb16)
            have W1_w16 := hid (W1_w15.out.keep hb16)
            have W2_w16 := hid hp16
            clear hb16 hp16
            go_wp2_with fail
            refine (sameLists_y _ _ WW _ W1_w16.out W2_w16.out).mono ?_
            rintro e w17 ⟨rfl, hb17⟩
            have HBw17 := hid (HBw16.out.trans (hb17.mono HBw16.out.size))
            have Q_w17 := hid (Q_w16.out.keep hb17)
            have W1_w17 := hid (W1_w16.out.keep hb17)
            have W2_w17 := hid (W2_w16.out.keep hb17)
            clear hb17
            cases bw
            · clear hlaw
              go_wp2
              go_ret
              exact ⟨rfl, HBw17.out⟩
            · obtain ⟨_, hlen, x, y, hx, hy, hxy⟩ := hlaw rfl
              obtain ⟨e1, e2⟩ := rmat_n Q_w17.out
              obtain ⟨e3, e4⟩ := rmat_n W2_w17.out
              have HX := hid hx
              have HY := hid hy
              have f1 : IntKind.i64.wrap ((nq : Int) - 1) = (nq : Int) - 1 := IntWalk.i64_in _ (by omega)
              have t1 : ((n16 : Int) == (nq : Int) - 1) = true := by rw [beq_iff_eq]; omega
              clear hlaw hx hy hlen e1 e3
              go_wp2_with fail
              refine ((iIsTreeMetric_u _ Q _ Q_w17.out).mono fun e w' h => bbLp h HX.out).mono ?_
              rintro e w18 ⟨rfl, hb18⟩
              have HBw18 := hid (HBw17.out.trans (hb18.mono HBw17.out.size))
              have Q_w18 := hid (Q_w17.out.keep hb18)
              have W1_w18 := hid (W1_w17.out.keep hb18)
              have W2_w18 := hid (W2_w17.out.keep hb18)
              clear hb18
              go_wp2_with fail
              refine ((iIsTreeMetric_u _ WW _ W1_w18.out).mono fun e w' h => bbLp h HY.out).mono ?_
              rintro e w19 ⟨rfl, hb19⟩
              have HBw19 := hid (HBw18.out.trans (hb19.mono HBw18.out.size))
              have Q_w19 := hid (Q_w18.out.keep hb19)
              have W1_w19 := hid (W1_w18.out.keep hb19)
              have W2_w19 := hid (W2_w18.out.keep hb19)
              clear hb19
              cases x <;> cases y
              all_goals try (exfalso; simp at hxy; done)
              all_goals
                clear hxy
                go_wp2
                go_ret
                exact ⟨rfl, HBw19.out⟩
  · obtain ⟨U, B, hu, hi, hiu, huu, hB, hmu, hul, hle⟩ := ult_law t
    have HU := hid hu
    have HI := hid hi
    have HIU := hid hiu
    have HUU := hid huu
    have HLE := hid hle
    have HT := hid t
    have HBD : Hid (decide (U = M) = B) := hB.symm
    have hmt := metB_parts t
    have hmt2 := metB_parts hmu
    have HQ := hid hmt.2.2.1
    have HQ2 := hid hmt2.2.2.1
    have HUL := hid hul
    have hM2 := hmt.1
    have hM7 := hmt.2.1
    clear hu hi hiu huu hle t hB hmt hmt2 hmu hul
    go_wp2_with fail
    refine ((iUltraBelow_u _ M _ M_w1.out).mono fun e w' h => h.lp HU.out).mono ?_
    rintro e w2 ⟨a2, n2, c2, rfl, hp2, hb2⟩
    have HBw2 := hid (HBw1.out.trans (hb2.mono HBw1.out.size))
    have R1_w2 := hid (R1_w1.out.keep hb2)
    have M_w2 := hid (M_w1.out.keep hb2)
    have U1_w2 := hid hp2
    clear hb2 hp2
    go_wp2_with fail
    refine ((sUltraBelow_u _ M _ M_w2.out).mono fun e w' h => h.lp HU.out).mono ?_
    rintro e w3 ⟨a3, n3, c3, rfl, hp3, hb3⟩
    have HBw3 := hid (HBw2.out.trans (hb3.mono HBw2.out.size))
    have R1_w3 := hid (R1_w2.out.keep hb3)
    have M_w3 := hid (M_w2.out.keep hb3)
    have U1_w3 := hid (U1_w2.out.keep hb3)
    have U2_w3 := hid hp3
    clear hb3 hp3
    go_wp2_with fail
    refine ((iIsUltrametric_u _ M _ M_w3.out).mono fun e w' h => bbLp h HI.out).mono ?_
    rintro e w4 ⟨rfl, hb4⟩
    have HBw4 := hid (HBw3.out.trans (hb4.mono HBw3.out.size))
    have R1_w4 := hid (R1_w3.out.keep hb4)
    have M_w4 := hid (M_w3.out.keep hb4)
    have U1_w4 := hid (U1_w3.out.keep hb4)
    have U2_w4 := hid (U2_w3.out.keep hb4)
    clear hb4
    go_wp2_with fail
    refine ((sIsUltrametric_u _ M _ M_w4.out).mono fun e w' h => bbLp h HI.out).mono ?_
    rintro e w5 ⟨rfl, hb5⟩
    have HBw5 := hid (HBw4.out.trans (hb5.mono HBw4.out.size))
    have R1_w5 := hid (R1_w4.out.keep hb5)
    have M_w5 := hid (M_w4.out.keep hb5)
    have U1_w5 := hid (U1_w4.out.keep hb5)
    have U2_w5 := hid (U2_w4.out.keep hb5)
    clear hb5
    go_wp2_with fail
    refine (sameLists_y _ _ U _ U1_w5.out U2_w5.out).mono ?_
    rintro e w6 ⟨rfl, hb6⟩
    have HBw6 := hid (HBw5.out.trans (hb6.mono HBw5.out.size))
    have R1_w6 := hid (R1_w5.out.keep hb6)
    have M_w6 := hid (M_w5.out.keep hb6)
    have U1_w6 := hid (U1_w5.out.keep hb6)
    have U2_w6 := hid (U2_w5.out.keep hb6)
    clear hb6
    go_wp2_with fail
    refine (iIsMetric_u _ M _ M_w6.out).mono ?_
    rintro e w7 ⟨rfl, hb7⟩
    have HBw7 := hid (HBw6.out.trans (hb7.mono HBw6.out.size))
    have R1_w7 := hid (R1_w6.out.keep hb7)
    have M_w7 := hid (M_w6.out.keep hb7)
    have U1_w7 := hid (U1_w6.out.keep hb7)
    have U2_w7 := hid (U2_w6.out.keep hb7)
    clear hb7
    rw [HT.out]
    go_wp2_with fail
    refine ((iIsUltrametric_u _ U _ U1_w7.out).mono fun e w' h => bbLp h HIU.out).mono ?_
    rintro e w8 ⟨rfl, hb8⟩
    have HBw8 := hid (HBw7.out.trans (hb8.mono HBw7.out.size))
    have R1_w8 := hid (R1_w7.out.keep hb8)
    have M_w8 := hid (M_w7.out.keep hb8)
    have U1_w8 := hid (U1_w7.out.keep hb8)
    have U2_w8 := hid (U2_w7.out.keep hb8)
    clear hb8
    go_wp2_with fail
    refine ((iUltraBelow_u _ U _ U1_w8.out).mono fun e w' h => h.lp HUU.out).mono ?_
    rintro e w9 ⟨a9, n9, c9, rfl, hp9, hb9⟩
    have HBw9 := hid (HBw8.out.trans (hb9.mono HBw8.out.size))
    have R1_w9 := hid (R1_w8.out.keep hb9)
    have M_w9 := hid (M_w8.out.keep hb9)
    have U1_w9 := hid (U1_w8.out.keep hb9)
    have U2_w9 := hid (U2_w8.out.keep hb9)
    have V_w9 := hid hp9
    clear hb9 hp9
    go_wp2_with fail
    refine (sameLists_y _ _ U _ V_w9.out U2_w9.out).mono ?_
    rintro e w10 ⟨rfl, hb10⟩
    have HBw10 := hid (HBw9.out.trans (hb10.mono HBw9.out.size))
    have R1_w10 := hid (R1_w9.out.keep hb10)
    have M_w10 := hid (M_w9.out.keep hb10)
    have U1_w10 := hid (U1_w9.out.keep hb10)
    have U2_w10 := hid (U2_w9.out.keep hb10)
    have V_w10 := hid (V_w9.out.keep hb10)
    clear hb10
    go_wp2_with fail
    refine (sameLists_b _ _ U M _ U2_w10.out M_w10.out).mono ?_
    rintro e w11 ⟨rfl, hb11⟩
    have HBw11 := hid (HBw10.out.trans (hb11.mono HBw10.out.size))
    have R1_w11 := hid (R1_w10.out.keep hb11)
    have M_w11 := hid (M_w10.out.keep hb11)
    have U1_w11 := hid (U1_w10.out.keep hb11)
    have U2_w11 := hid (U2_w10.out.keep hb11)
    have V_w11 := hid (V_w10.out.keep hb11)
    clear hb11
    rw [HBD.out]
    cases B
    · obtain ⟨e1, e2⟩ := rmat_n M_w11.out
      obtain ⟨e3, e4⟩ := rmat_n U2_w11.out
      obtain ⟨g, o, cap, G, O, C, hv, hc1, hc2, hcl, hce⟩ := sq_open M_w11.out (show 0 < M.length by omega) rfl HQ.out
      obtain ⟨g', o', cap', G', O', C', hv', hc1', hc2', hcl', hce'⟩ := sq_open U2_w11.out (show 0 < M.length by omega) HUL.out (by have := HQ2.out; rw [HUL.out] at this; exact this)
      simp only [Value.slice.injEq] at hv hv'
      obtain ⟨rfl, -, rfl⟩ := hv
      obtain ⟨rfl, -, rfl⟩ := hv'
      rw [HUL.out] at e3
      obtain ⟨N, hN⟩ : ∃ N, M.length = N := ⟨_, rfl⟩
      rw [hN] at e1 e3 hM2 hM7 hcl hce hcl' hce' HLE
      obtain rfl : N = nm := e1.symm
      obtain rfl : N = n3 := e3.symm
      have HC := hid (And.intro hcl hce)
      have HC2 := hid (And.intro hcl' hce')
      clear hcl hce hcl' hce' hc1 hc2 hc1' hc2' hN e2 e4
      go_wp2
      go_loopg [133] N (fun gk iv wr => ∃ i : Nat, iv = .int .i64 i ∧ i ≤ N ∧ gk = N - i ∧ w11 = wr)
      case atStart => exact ⟨0, rfl, Nat.zero_le _, rfl, rfl⟩
      case round =>
        obtain ⟨i, rfl, hi, rfl, rfl⟩ := hrel
        by_cases hlt : i < N
        · have hiz : (i : Int) < (N : Int) := by omega
          have k1 := HC2.out.1 i hlt
          have k2 := HC.out.1 i hlt
          go_wp2
          go_loopg [140] N (fun gk jv wr => ∃ j : Nat, jv = .int .i64 j ∧ j ≤ N ∧ gk = N - j ∧ w11 = wr)
          case atStart => exact ⟨0, rfl, Nat.zero_le _, rfl, rfl⟩
          case round =>
            obtain ⟨j, rfl, hj, rfl, rfl⟩ := hrel
            by_cases hltj : j < N
            · have hjz : (j : Int) < (N : Int) := by omega
              have k3 := HC2.out.2 i j hlt hltj
              have k4 := HC.out.2 i j hlt hltj
              have h5 := HLE.out i j hlt hltj
              obtain ⟨x, hx⟩ : ∃ x, ent U i j = x := ⟨_, rfl⟩
              obtain ⟨y, hy⟩ : ∃ y, ent M i j = y := ⟨_, rfl⟩
              rw [hx] at k3 h5
              rw [hy] at k4 h5
              have h6 : ¬ (x > y) := by omega
              clear hx hy
              go_wp2
              go_roundg (N - (j + 1))
              case rel => exact ⟨j + 1, by go_num, by omega, rfl, rfl⟩
              case measure => omega
            · obtain rfl : N = j := by omega
              clear k1 k2
              go_wp2
              go_roundg (N - (i + 1))
              case rel => exact ⟨i + 1, by go_num, by omega, rfl, rfl⟩
              case measure => omega
        · obtain rfl : N = i := by omega
          clear HC HC2
          as_aux_lemma =>
            go_wp2_with fail
            refine (DrawAddPendants_c _ x1 _ R1_w11.out).mono ?_
            rintro e w12 ⟨vp, P, vb, by_, rfl, hP, hY, hb12⟩
            have HBw12 := hid (HBw11.out.trans (hb12.mono HBw11.out.size))
            have R1_w12 := hid (R1_w11.out.keep hb12)
            have P_w12 := hid hP
            have Y_w12 := hid hY
            obtain ⟨ap, np, cp, rfl⟩ : ∃ a n c, vp = .slice a n c := by obtain ⟨a, c, rfl, _⟩ := hP; exact ⟨a, _, c, rfl⟩
            obtain ⟨ab, nb, cb, rfl⟩ := hY.form3
            obtain ⟨A, ba, ha2⟩ : ∃ A ba, pendB P by_ = (A, ba) := ⟨_, _, rfl⟩
            have hlaw := fun (h : ba = true) => pend_law (M := P) (A := A) (b := by_) (by rw [ha2, h])
            have HAA := hid ha2
            clear ha2
            clear hb12 hP hY
            go_wp2_with fail
            refine ((iAddPendants_u _ P _ by_ _ P_w12.out Y_w12.out).mono fun e w' h => h.lp HAA.out).mono ?_
            rintro e w13 ⟨a13, n13, c13, rfl, hp13, hb13⟩
            have HBw13 := hid (HBw12.out.trans (hb13.mono HBw12.out.size))
            have R1_w13 := hid (R1_w12.out.keep hb13)
            have P_w13 := hid (P_w12.out.keep hb13)
            have Y_w13 := hid (Y_w12.out.keep hb13)
            have A1_w13 := hid hp13
            clear hb13 hp13
            go_wp2_with fail
            refine ((sAddPendants_u _ P _ by_ _ P_w13.out Y_w13.out).mono fun e w' h => h.lp HAA.out).mono ?_
            rintro e w14 ⟨a14, n14, c14, rfl, hp14, hb14⟩
            have HBw14 := hid (HBw13.out.trans (hb14.mono HBw13.out.size))
            have R1_w14 := hid (R1_w13.out.keep hb14)
            have P_w14 := hid (P_w13.out.keep hb14)
            have Y_w14 := hid (Y_w13.out.keep hb14)
            have A1_w14 := hid (A1_w13.out.keep hb14)
            have A2_w14 := hid hp14
            clear hb14 hp14
            go_wp2_with fail
            refine (sameLists_y _ _ A _ A1_w14.out A2_w14.out).mono ?_
            rintro e w15 ⟨rfl, hb15⟩
            have HBw15 := hid (HBw14.out.trans (hb15.mono HBw14.out.size))
            have R1_w15 := hid (R1_w14.out.keep hb15)
            have P_w15 := hid (P_w14.out.keep hb15)
            have A1_w15 := hid (A1_w14.out.keep hb15)
            have A2_w15 := hid (A2_w14.out.keep hb15)
            clear hb15
            cases ba
            · clear hlaw
              as_aux_lemma =>
                go_wp2_with fail
                refine (DrawWithoutTaxon_c _ x1 _ R1_w15.out).mono ?_
                rintro e w16 ⟨vq, Q, k, rfl, hQ, hb16⟩
                have HBw16 := hid (HBw15.out.trans (hb16.mono HBw15.out.size))
                have Q_w16 := hid hQ
                obtain ⟨aq, nq, cq, rfl⟩ : ∃ a n c, vq = .slice a n c := by obtain ⟨a, c, rfl, _⟩ := hQ; exact ⟨a, _, c, rfl⟩
                obtain ⟨WW, bw, hw2⟩ : ∃ WW bw, wtoB Q k = (WW, bw) := ⟨_, _, rfl⟩
                have hlaw := fun (h : bw = true) => wto_law (M := Q) (W := WW) (i := k) (by rw [hw2, h])
                have HWW := hid hw2
                clear hw2
                clear hb16 hQ
                go_wp2_with fail
                refine ((iWithoutTaxon_u _ Q k _ Q_w16.out).mono fun e w' h => h.lp HWW.out).mono ?_
                rintro e w17 ⟨a17, n17, c17, rfl, hp17, hb17⟩
                have HBw17 := hid (HBw16.out.trans (hb17.mono HBw16.out.size))
                have Q_w17 := hid (Q_w16.out.keep hb17)
                have W1_w17 := hid hp17
                clear hb17 hp17
                go_wp2_with fail
                refine ((sWithoutTaxon_u _ Q k _ Q_w17.out).mono fun e w' h => h.lp HWW.out).mono ?_
                rintro e w18 ⟨a18, n18, c18, rfl, hp18, hb18⟩
                have HBw18 := hid (HBw17.out.trans (hb18.mono HBw17.out.size))
                have Q_w18 := hid (Q_w17.out.keep hb18)
                have W1_w18 := hid (W1_w17.out.keep hb18)
                have W2_w18 := hid hp18
                clear hb18 hp18
                go_wp2_with fail
                refine (sameLists_y _ _ WW _ W1_w18.out W2_w18.out).mono ?_
                rintro e w19 ⟨rfl, hb19⟩
                have HBw19 := hid (HBw18.out.trans (hb19.mono HBw18.out.size))
                have Q_w19 := hid (Q_w18.out.keep hb19)
                have W1_w19 := hid (W1_w18.out.keep hb19)
                have W2_w19 := hid (W2_w18.out.keep hb19)
                clear hb19
                cases bw
                · clear hlaw
                  go_wp2
                  go_ret
                  exact ⟨rfl, HBw19.out⟩
                · obtain ⟨_, hlen, x, y, hx, hy, hxy⟩ := hlaw rfl
                  obtain ⟨e1, e2⟩ := rmat_n Q_w19.out
                  obtain ⟨e3, e4⟩ := rmat_n W2_w19.out
                  have HX := hid hx
                  have HY := hid hy
                  have f1 : IntKind.i64.wrap ((nq : Int) - 1) = (nq : Int) - 1 := IntWalk.i64_in _ (by omega)
                  have t1 : ((n18 : Int) == (nq : Int) - 1) = true := by rw [beq_iff_eq]; omega
                  clear hlaw hx hy hlen e1 e3
                  go_wp2_with fail
                  refine ((iIsTreeMetric_u _ Q _ Q_w19.out).mono fun e w' h => bbLp h HX.out).mono ?_
                  rintro e w20 ⟨rfl, hb20⟩
                  have HBw20 := hid (HBw19.out.trans (hb20.mono HBw19.out.size))
                  have Q_w20 := hid (Q_w19.out.keep hb20)
                  have W1_w20 := hid (W1_w19.out.keep hb20)
                  have W2_w20 := hid (W2_w19.out.keep hb20)
                  clear hb20
                  go_wp2_with fail
                  refine ((iIsTreeMetric_u _ WW _ W1_w20.out).mono fun e w' h => bbLp h HY.out).mono ?_
                  rintro e w21 ⟨rfl, hb21⟩
                  have HBw21 := hid (HBw20.out.trans (hb21.mono HBw20.out.size))
                  have Q_w21 := hid (Q_w20.out.keep hb21)
                  have W1_w21 := hid (W1_w20.out.keep hb21)
                  have W2_w21 := hid (W2_w20.out.keep hb21)
                  clear hb21
                  cases x <;> cases y
                  all_goals try (exfalso; simp at hxy; done)
                  all_goals
                    clear hxy
                    go_wp2
                    go_ret
                    exact ⟨rfl, HBw21.out⟩
            · obtain ⟨_, x, hx, hy⟩ := hlaw rfl
              have HX := hid hx
              have HY := hid hy
              clear hlaw hx hy
              go_wp2_with fail
              refine ((iIsTreeMetric_u _ P _ P_w15.out).mono fun e w' h => bbLp h HX.out).mono ?_
              rintro e w16 ⟨rfl, hb16⟩
              have HBw16 := hid (HBw15.out.trans (hb16.mono HBw15.out.size))
              have R1_w16 := hid (R1_w15.out.keep hb16)
              have P_w16 := hid (P_w15.out.keep hb16)
              have A1_w16 := hid (A1_w15.out.keep hb16)
              clear hb16
              go_wp2_with fail
              refine ((iIsTreeMetric_u _ A _ A1_w16.out).mono fun e w' h => bbLp h HY.out).mono ?_
              rintro e w17 ⟨rfl, hb17⟩
              have HBw17 := hid (HBw16.out.trans (hb17.mono HBw16.out.size))
              have R1_w17 := hid (R1_w16.out.keep hb17)
              have P_w17 := hid (P_w16.out.keep hb17)
              have A1_w17 := hid (A1_w16.out.keep hb17)
              clear hb17
              cases x
              · as_aux_lemma =>
                  go_wp2_with fail
                  refine (DrawWithoutTaxon_c _ x1 _ R1_w17.out).mono ?_
                  rintro e w18 ⟨vq, Q, k, rfl, hQ, hb18⟩
                  have HBw18 := hid (HBw17.out.trans (hb18.mono HBw17.out.size))
                  have Q_w18 := hid hQ
                  obtain ⟨aq, nq, cq, rfl⟩ : ∃ a n c, vq = .slice a n c := by obtain ⟨a, c, rfl, _⟩ := hQ; exact ⟨a, _, c, rfl⟩
                  obtain ⟨WW, bw, hw2⟩ : ∃ WW bw, wtoB Q k = (WW, bw) := ⟨_, _, rfl⟩
                  have hlaw := fun (h : bw = true) => wto_law (M := Q) (W := WW) (i := k) (by rw [hw2, h])
                  have HWW := hid hw2
                  clear hw2
                  clear hb18 hQ
                  go_wp2_with fail
                  refine ((iWithoutTaxon_u _ Q k _ Q_w18.out).mono fun e w' h => h.lp HWW.out).mono ?_
                  rintro e w19 ⟨a19, n19, c19, rfl, hp19, hb19⟩
                  have HBw19 := hid (HBw18.out.trans (hb19.mono HBw18.out.size))
                  have Q_w19 := hid (Q_w18.out.keep hb19)
                  have W1_w19 := hid hp19
                  clear hb19 hp19
                  go_wp2_with fail
                  refine ((sWithoutTaxon_u _ Q k _ Q_w19.out).mono fun e w' h => h.lp HWW.out).mono ?_
                  rintro e w20 ⟨a20, n20, c20, rfl, hp20, hb20⟩
                  have HBw20 := hid (HBw19.out.trans (hb20.mono HBw19.out.size))
                  have Q_w20 := hid (Q_w19.out.keep hb20)
                  have W1_w20 := hid (W1_w19.out.keep hb20)
                  have W2_w20 := hid hp20
                  clear hb20 hp20
                  go_wp2_with fail
                  refine (sameLists_y _ _ WW _ W1_w20.out W2_w20.out).mono ?_
                  rintro e w21 ⟨rfl, hb21⟩
                  have HBw21 := hid (HBw20.out.trans (hb21.mono HBw20.out.size))
                  have Q_w21 := hid (Q_w20.out.keep hb21)
                  have W1_w21 := hid (W1_w20.out.keep hb21)
                  have W2_w21 := hid (W2_w20.out.keep hb21)
                  clear hb21
                  cases bw
                  · clear hlaw
                    go_wp2
                    go_ret
                    exact ⟨rfl, HBw21.out⟩
                  · obtain ⟨_, hlen, x, y, hx, hy, hxy⟩ := hlaw rfl
                    obtain ⟨e1, e2⟩ := rmat_n Q_w21.out
                    obtain ⟨e3, e4⟩ := rmat_n W2_w21.out
                    have HX := hid hx
                    have HY := hid hy
                    have f1 : IntKind.i64.wrap ((nq : Int) - 1) = (nq : Int) - 1 := IntWalk.i64_in _ (by omega)
                    have t1 : ((n20 : Int) == (nq : Int) - 1) = true := by rw [beq_iff_eq]; omega
                    clear hlaw hx hy hlen e1 e3
                    go_wp2_with fail
                    refine ((iIsTreeMetric_u _ Q _ Q_w21.out).mono fun e w' h => bbLp h HX.out).mono ?_
                    rintro e w22 ⟨rfl, hb22⟩
                    have HBw22 := hid (HBw21.out.trans (hb22.mono HBw21.out.size))
                    have Q_w22 := hid (Q_w21.out.keep hb22)
                    have W1_w22 := hid (W1_w21.out.keep hb22)
                    have W2_w22 := hid (W2_w21.out.keep hb22)
                    clear hb22
                    go_wp2_with fail
                    refine ((iIsTreeMetric_u _ WW _ W1_w22.out).mono fun e w' h => bbLp h HY.out).mono ?_
                    rintro e w23 ⟨rfl, hb23⟩
                    have HBw23 := hid (HBw22.out.trans (hb23.mono HBw22.out.size))
                    have Q_w23 := hid (Q_w22.out.keep hb23)
                    have W1_w23 := hid (W1_w22.out.keep hb23)
                    have W2_w23 := hid (W2_w22.out.keep hb23)
                    clear hb23
                    cases x <;> cases y
                    all_goals try (exfalso; simp at hxy; done)
                    all_goals
                      clear hxy
                      go_wp2
                      go_ret
                      exact ⟨rfl, HBw23.out⟩
              · as_aux_lemma =>
                  go_wp2_with fail
                  refine (DrawWithoutTaxon_c _ x1 _ R1_w17.out).mono ?_
                  rintro e w18 ⟨vq, Q, k, rfl, hQ, hb18⟩
                  have HBw18 := hid (HBw17.out.trans (hb18.mono HBw17.out.size))
                  have Q_w18 := hid hQ
                  obtain ⟨aq, nq, cq, rfl⟩ : ∃ a n c, vq = .slice a n c := by obtain ⟨a, c, rfl, _⟩ := hQ; exact ⟨a, _, c, rfl⟩
                  obtain ⟨WW, bw, hw2⟩ : ∃ WW bw, wtoB Q k = (WW, bw) := ⟨_, _, rfl⟩
                  have hlaw := fun (h : bw = true) => wto_law (M := Q) (W := WW) (i := k) (by rw [hw2, h])
                  have HWW := hid hw2
                  clear hw2
                  clear hb18 hQ
                  go_wp2_with fail
                  refine ((iWithoutTaxon_u _ Q k _ Q_w18.out).mono fun e w' h => h.lp HWW.out).mono ?_
                  rintro e w19 ⟨a19, n19, c19, rfl, hp19, hb19⟩
                  have HBw19 := hid (HBw18.out.trans (hb19.mono HBw18.out.size))
                  have Q_w19 := hid (Q_w18.out.keep hb19)
                  have W1_w19 := hid hp19
                  clear hb19 hp19
                  go_wp2_with fail
                  refine ((sWithoutTaxon_u _ Q k _ Q_w19.out).mono fun e w' h => h.lp HWW.out).mono ?_
                  rintro e w20 ⟨a20, n20, c20, rfl, hp20, hb20⟩
                  have HBw20 := hid (HBw19.out.trans (hb20.mono HBw19.out.size))
                  have Q_w20 := hid (Q_w19.out.keep hb20)
                  have W1_w20 := hid (W1_w19.out.keep hb20)
                  have W2_w20 := hid hp20
                  clear hb20 hp20
                  go_wp2_with fail
                  refine (sameLists_y _ _ WW _ W1_w20.out W2_w20.out).mono ?_
                  rintro e w21 ⟨rfl, hb21⟩
                  have HBw21 := hid (HBw20.out.trans (hb21.mono HBw20.out.size))
                  have Q_w21 := hid (Q_w20.out.keep hb21)
                  have W1_w21 := hid (W1_w20.out.keep hb21)
                  have W2_w21 := hid (W2_w20.out.keep hb21)
                  clear hb21
                  cases bw
                  · clear hlaw
                    go_wp2
                    go_ret
                    exact ⟨rfl, HBw21.out⟩
                  · obtain ⟨_, hlen, x, y, hx, hy, hxy⟩ := hlaw rfl
                    obtain ⟨e1, e2⟩ := rmat_n Q_w21.out
                    obtain ⟨e3, e4⟩ := rmat_n W2_w21.out
                    have HX := hid hx
                    have HY := hid hy
                    have f1 : IntKind.i64.wrap ((nq : Int) - 1) = (nq : Int) - 1 := IntWalk.i64_in _ (by omega)
                    have t1 : ((n20 : Int) == (nq : Int) - 1) = true := by rw [beq_iff_eq]; omega
                    clear hlaw hx hy hlen e1 e3
                    go_wp2_with fail
                    refine ((iIsTreeMetric_u _ Q _ Q_w21.out).mono fun e w' h => bbLp h HX.out).mono ?_
                    rintro e w22 ⟨rfl, hb22⟩
                    have HBw22 := hid (HBw21.out.trans (hb22.mono HBw21.out.size))
                    have Q_w22 := hid (Q_w21.out.keep hb22)
                    have W1_w22 := hid (W1_w21.out.keep hb22)
                    have W2_w22 := hid (W2_w21.out.keep hb22)
                    clear hb22
                    go_wp2_with fail
                    refine ((iIsTreeMetric_u _ WW _ W1_w22.out).mono fun e w' h => bbLp h HY.out).mono ?_
                    rintro e w23 ⟨rfl, hb23⟩
                    have HBw23 := hid (HBw22.out.trans (hb23.mono HBw22.out.size))
                    have Q_w23 := hid (Q_w22.out.keep hb23)
                    have W1_w23 := hid (W1_w22.out.keep hb23)
                    have W2_w23 := hid (W2_w22.out.keep hb23)
                    clear hb23
                    cases x <;> cases y
                    all_goals try (exfalso; simp at hxy; done)
                    all_goals
                      clear hxy
                      go_wp2
                      go_ret
                      exact ⟨rfl, HBw23.out⟩
    · obtain ⟨e1, e2⟩ := rmat_n M_w11.out
      obtain ⟨e3, e4⟩ := rmat_n U2_w11.out
      obtain ⟨g, o, cap, G, O, C, hv, hc1, hc2, hcl, hce⟩ := sq_open M_w11.out (show 0 < M.length by omega) rfl HQ.out
      obtain ⟨g', o', cap', G', O', C', hv', hc1', hc2', hcl', hce'⟩ := sq_open U2_w11.out (show 0 < M.length by omega) HUL.out (by have := HQ2.out; rw [HUL.out] at this; exact this)
      simp only [Value.slice.injEq] at hv hv'
      obtain ⟨rfl, -, rfl⟩ := hv
      obtain ⟨rfl, -, rfl⟩ := hv'
      rw [HUL.out] at e3
      obtain ⟨N, hN⟩ : ∃ N, M.length = N := ⟨_, rfl⟩
      rw [hN] at e1 e3 hM2 hM7 hcl hce hcl' hce' HLE
      obtain rfl : N = nm := e1.symm
      obtain rfl : N = n3 := e3.symm
      have HC := hid (And.intro hcl hce)
      have HC2 := hid (And.intro hcl' hce')
      clear hcl hce hcl' hce' hc1 hc2 hc1' hc2' hN e2 e4
      go_wp2
      go_loopg [133] N (fun gk iv wr => ∃ i : Nat, iv = .int .i64 i ∧ i ≤ N ∧ gk = N - i ∧ w11 = wr)
      case atStart => exact ⟨0, rfl, Nat.zero_le _, rfl, rfl⟩
      case round =>
        obtain ⟨i, rfl, hi, rfl, rfl⟩ := hrel
        by_cases hlt : i < N
        · have hiz : (i : Int) < (N : Int) := by omega
          have k1 := HC2.out.1 i hlt
          have k2 := HC.out.1 i hlt
          go_wp2
          go_loopg [140] N (fun gk jv wr => ∃ j : Nat, jv = .int .i64 j ∧ j ≤ N ∧ gk = N - j ∧ w11 = wr)
          case atStart => exact ⟨0, rfl, Nat.zero_le _, rfl, rfl⟩
          case round =>
            obtain ⟨j, rfl, hj, rfl, rfl⟩ := hrel
            by_cases hltj : j < N
            · have hjz : (j : Int) < (N : Int) := by omega
              have k3 := HC2.out.2 i j hlt hltj
              have k4 := HC.out.2 i j hlt hltj
              have h5 := HLE.out i j hlt hltj
              obtain ⟨x, hx⟩ : ∃ x, ent U i j = x := ⟨_, rfl⟩
              obtain ⟨y, hy⟩ : ∃ y, ent M i j = y := ⟨_, rfl⟩
              rw [hx] at k3 h5
              rw [hy] at k4 h5
              have h6 : ¬ (x > y) := by omega
              clear hx hy
              go_wp2
              go_roundg (N - (j + 1))
              case rel => exact ⟨j + 1, by go_num, by omega, rfl, rfl⟩
              case measure => omega
            · obtain rfl : N = j := by omega
              clear k1 k2
              go_wp2
              go_roundg (N - (i + 1))
              case rel => exact ⟨i + 1, by go_num, by omega, rfl, rfl⟩
              case measure => omega
        · obtain rfl : N = i := by omega
          clear HC HC2
          as_aux_lemma =>
            go_wp2_with fail
            refine (DrawAddPendants_c _ x1 _ R1_w11.out).mono ?_
            rintro e w12 ⟨vp, P, vb, by_, rfl, hP, hY, hb12⟩
            have HBw12 := hid (HBw11.out.trans (hb12.mono HBw11.out.size))
            have R1_w12 := hid (R1_w11.out.keep hb12)
            have P_w12 := hid hP
            have Y_w12 := hid hY
            obtain ⟨ap, np, cp, rfl⟩ : ∃ a n c, vp = .slice a n c := by obtain ⟨a, c, rfl, _⟩ := hP; exact ⟨a, _, c, rfl⟩
            obtain ⟨ab, nb, cb, rfl⟩ := hY.form3
            obtain ⟨A, ba, ha2⟩ : ∃ A ba, pendB P by_ = (A, ba) := ⟨_, _, rfl⟩
            have hlaw := fun (h : ba = true) => pend_law (M := P) (A := A) (b := by_) (by rw [ha2, h])
            have HAA := hid ha2
            clear ha2
            clear hb12 hP hY
            go_wp2_with fail
            refine ((iAddPendants_u _ P _ by_ _ P_w12.out Y_w12.out).mono fun e w' h => h.lp HAA.out).mono ?_
            rintro e w13 ⟨a13, n13, c13, rfl, hp13, hb13⟩
            have HBw13 := hid (HBw12.out.trans (hb13.mono HBw12.out.size))
            have R1_w13 := hid (R1_w12.out.keep hb13)
            have P_w13 := hid (P_w12.out.keep hb13)
            have Y_w13 := hid (Y_w12.out.keep hb13)
            have A1_w13 := hid hp13
            clear hb13 hp13
            go_wp2_with fail
            refine ((sAddPendants_u _ P _ by_ _ P_w13.out Y_w13.out).mono fun e w' h => h.lp HAA.out).mono ?_
            rintro e w14 ⟨a14, n14, c14, rfl, hp14, hb14⟩
            have HBw14 := hid (HBw13.out.trans (hb14.mono HBw13.out.size))
            have R1_w14 := hid (R1_w13.out.keep hb14)
            have P_w14 := hid (P_w13.out.keep hb14)
            have Y_w14 := hid (Y_w13.out.keep hb14)
            have A1_w14 := hid (A1_w13.out.keep hb14)
            have A2_w14 := hid hp14
            clear hb14 hp14
            go_wp2_with fail
            refine (sameLists_y _ _ A _ A1_w14.out A2_w14.out).mono ?_
            rintro e w15 ⟨rfl, hb15⟩
            have HBw15 := hid (HBw14.out.trans (hb15.mono HBw14.out.size))
            have R1_w15 := hid (R1_w14.out.keep hb15)
            have P_w15 := hid (P_w14.out.keep hb15)
            have A1_w15 := hid (A1_w14.out.keep hb15)
            have A2_w15 := hid (A2_w14.out.keep hb15)
            clear hb15
            cases ba
            · clear hlaw
              as_aux_lemma =>
                go_wp2_with fail
                refine (DrawWithoutTaxon_c _ x1 _ R1_w15.out).mono ?_
                rintro e w16 ⟨vq, Q, k, rfl, hQ, hb16⟩
                have HBw16 := hid (HBw15.out.trans (hb16.mono HBw15.out.size))
                have Q_w16 := hid hQ
                obtain ⟨aq, nq, cq, rfl⟩ : ∃ a n c, vq = .slice a n c := by obtain ⟨a, c, rfl, _⟩ := hQ; exact ⟨a, _, c, rfl⟩
                obtain ⟨WW, bw, hw2⟩ : ∃ WW bw, wtoB Q k = (WW, bw) := ⟨_, _, rfl⟩
                have hlaw := fun (h : bw = true) => wto_law (M := Q) (W := WW) (i := k) (by rw [hw2, h])
                have HWW := hid hw2
                clear hw2
                clear hb16 hQ
                go_wp2_with fail
                refine ((iWithoutTaxon_u _ Q k _ Q_w16.out).mono fun e w' h => h.lp HWW.out).mono ?_
                rintro e w17 ⟨a17, n17, c17, rfl, hp17, hb17⟩
                have HBw17 := hid (HBw16.out.trans (hb17.mono HBw16.out.size))
                have Q_w17 := hid (Q_w16.out.keep hb17)
                have W1_w17 := hid hp17
                clear hb17 hp17
                go_wp2_with fail
                refine ((sWithoutTaxon_u _ Q k _ Q_w17.out).mono fun e w' h => h.lp HWW.out).mono ?_
                rintro e w18 ⟨a18, n18, c18, rfl, hp18, hb18⟩
                have HBw18 := hid (HBw17.out.trans (hb18.mono HBw17.out.size))
                have Q_w18 := hid (Q_w17.out.keep hb18)
                have W1_w18 := hid (W1_w17.out.keep hb18)
                have W2_w18 := hid hp18
                clear hb18 hp18
                go_wp2_with fail
                refine (sameLists_y _ _ WW _ W1_w18.out W2_w18.out).mono ?_
                rintro e w19 ⟨rfl, hb19⟩
                have HBw19 := hid (HBw18.out.trans (hb19.mono HBw18.out.size))
                have Q_w19 := hid (Q_w18.out.keep hb19)
                have W1_w19 := hid (W1_w18.out.keep hb19)
                have W2_w19 := hid (W2_w18.out.keep hb19)
                clear hb19
                cases bw
                · clear hlaw
                  go_wp2
                  go_ret
                  exact ⟨rfl, HBw19.out⟩
                · obtain ⟨_, hlen, x, y, hx, hy, hxy⟩ := hlaw rfl
                  obtain ⟨e1, e2⟩ := rmat_n Q_w19.out
                  obtain ⟨e3, e4⟩ := rmat_n W2_w19.out
                  have HX := hid hx
                  have HY := hid hy
                  have f1 : IntKind.i64.wrap ((nq : Int) - 1) = (nq : Int) - 1 := IntWalk.i64_in _ (by omega)
                  have t1 : ((n18 : Int) == (nq : Int) - 1) = true := by rw [beq_iff_eq]; omega
                  clear hlaw hx hy hlen e1 e3
                  go_wp2_with fail
                  refine ((iIsTreeMetric_u _ Q _ Q_w19.out).mono fun e w' h => bbLp h HX.out).mono ?_
                  rintro e w20 ⟨rfl, hb20⟩
                  have HBw20 := hid (HBw19.out.trans (hb20.mono HBw19.out.size))
                  have Q_w20 := hid (Q_w19.out.keep hb20)
                  have W1_w20 := hid (W1_w19.out.keep hb20)
                  have W2_w20 := hid (W2_w19.out.keep hb20)
                  clear hb20
                  go_wp2_with fail
                  refine ((iIsTreeMetric_u _ WW _ W1_w20.out).mono fun e w' h => bbLp h HY.out).mono ?_
                  rintro e w21 ⟨rfl, hb21⟩
                  have HBw21 := hid (HBw20.out.trans (hb21.mono HBw20.out.size))
                  have Q_w21 := hid (Q_w20.out.keep hb21)
                  have W1_w21 := hid (W1_w20.out.keep hb21)
                  have W2_w21 := hid (W2_w20.out.keep hb21)
                  clear hb21
                  cases x <;> cases y
                  all_goals try (exfalso; simp at hxy; done)
                  all_goals
                    clear hxy
                    go_wp2
                    go_ret
                    exact ⟨rfl, HBw21.out⟩
            · obtain ⟨_, x, hx, hy⟩ := hlaw rfl
              have HX := hid hx
              have HY := hid hy
              clear hlaw hx hy
              go_wp2_with fail
              refine ((iIsTreeMetric_u _ P _ P_w15.out).mono fun e w' h => bbLp h HX.out).mono ?_
              rintro e w16 ⟨rfl, hb16⟩
              have HBw16 := hid (HBw15.out.trans (hb16.mono HBw15.out.size))
              have R1_w16 := hid (R1_w15.out.keep hb16)
              have P_w16 := hid (P_w15.out.keep hb16)
              have A1_w16 := hid (A1_w15.out.keep hb16)
              clear hb16
              go_wp2_with fail
              refine ((iIsTreeMetric_u _ A _ A1_w16.out).mono fun e w' h => bbLp h HY.out).mono ?_
              rintro e w17 ⟨rfl, hb17⟩
              have HBw17 := hid (HBw16.out.trans (hb17.mono HBw16.out.size))
              have R1_w17 := hid (R1_w16.out.keep hb17)
              have P_w17 := hid (P_w16.out.keep hb17)
              have A1_w17 := hid (A1_w16.out.keep hb17)
              clear hb17
              cases x
              · as_aux_lemma =>
                  go_wp2_with fail
                  refine (DrawWithoutTaxon_c _ x1 _ R1_w17.out).mono ?_
                  rintro e w18 ⟨vq, Q, k, rfl, hQ, hb18⟩
                  have HBw18 := hid (HBw17.out.trans (hb18.mono HBw17.out.size))
                  have Q_w18 := hid hQ
                  obtain ⟨aq, nq, cq, rfl⟩ : ∃ a n c, vq = .slice a n c := by obtain ⟨a, c, rfl, _⟩ := hQ; exact ⟨a, _, c, rfl⟩
                  obtain ⟨WW, bw, hw2⟩ : ∃ WW bw, wtoB Q k = (WW, bw) := ⟨_, _, rfl⟩
                  have hlaw := fun (h : bw = true) => wto_law (M := Q) (W := WW) (i := k) (by rw [hw2, h])
                  have HWW := hid hw2
                  clear hw2
                  clear hb18 hQ
                  go_wp2_with fail
                  refine ((iWithoutTaxon_u _ Q k _ Q_w18.out).mono fun e w' h => h.lp HWW.out).mono ?_
                  rintro e w19 ⟨a19, n19, c19, rfl, hp19, hb19⟩
                  have HBw19 := hid (HBw18.out.trans (hb19.mono HBw18.out.size))
                  have Q_w19 := hid (Q_w18.out.keep hb19)
                  have W1_w19 := hid hp19
                  clear hb19 hp19
                  go_wp2_with fail
                  refine ((sWithoutTaxon_u _ Q k _ Q_w19.out).mono fun e w' h => h.lp HWW.out).mono ?_
                  rintro e w20 ⟨a20, n20, c20, rfl, hp20, hb20⟩
                  have HBw20 := hid (HBw19.out.trans (hb20.mono HBw19.out.size))
                  have Q_w20 := hid (Q_w19.out.keep hb20)
                  have W1_w20 := hid (W1_w19.out.keep hb20)
                  have W2_w20 := hid hp20
                  clear hb20 hp20
                  go_wp2_with fail
                  refine (sameLists_y _ _ WW _ W1_w20.out W2_w20.out).mono ?_
                  rintro e w21 ⟨rfl, hb21⟩
                  have HBw21 := hid (HBw20.out.trans (hb21.mono HBw20.out.size))
                  have Q_w21 := hid (Q_w20.out.keep hb21)
                  have W1_w21 := hid (W1_w20.out.keep hb21)
                  have W2_w21 := hid (W2_w20.out.keep hb21)
                  clear hb21
                  cases bw
                  · clear hlaw
                    go_wp2
                    go_ret
                    exact ⟨rfl, HBw21.out⟩
                  · obtain ⟨_, hlen, x, y, hx, hy, hxy⟩ := hlaw rfl
                    obtain ⟨e1, e2⟩ := rmat_n Q_w21.out
                    obtain ⟨e3, e4⟩ := rmat_n W2_w21.out
                    have HX := hid hx
                    have HY := hid hy
                    have f1 : IntKind.i64.wrap ((nq : Int) - 1) = (nq : Int) - 1 := IntWalk.i64_in _ (by omega)
                    have t1 : ((n20 : Int) == (nq : Int) - 1) = true := by rw [beq_iff_eq]; omega
                    clear hlaw hx hy hlen e1 e3
                    go_wp2_with fail
                    refine ((iIsTreeMetric_u _ Q _ Q_w21.out).mono fun e w' h => bbLp h HX.out).mono ?_
                    rintro e w22 ⟨rfl, hb22⟩
                    have HBw22 := hid (HBw21.out.trans (hb22.mono HBw21.out.size))
                    have Q_w22 := hid (Q_w21.out.keep hb22)
                    have W1_w22 := hid (W1_w21.out.keep hb22)
                    have W2_w22 := hid (W2_w21.out.keep hb22)
                    clear hb22
                    go_wp2_with fail
                    refine ((iIsTreeMetric_u _ WW _ W1_w22.out).mono fun e w' h => bbLp h HY.out).mono ?_
                    rintro e w23 ⟨rfl, hb23⟩
                    have HBw23 := hid (HBw22.out.trans (hb23.mono HBw22.out.size))
                    have Q_w23 := hid (Q_w22.out.keep hb23)
                    have W1_w23 := hid (W1_w22.out.keep hb23)
                    have W2_w23 := hid (W2_w22.out.keep hb23)
                    clear hb23
                    cases x <;> cases y
                    all_goals try (exfalso; simp at hxy; done)
                    all_goals
                      clear hxy
                      go_wp2
                      go_ret
                      exact ⟨rfl, HBw23.out⟩
              · as_aux_lemma =>
                  go_wp2_with fail
                  refine (DrawWithoutTaxon_c _ x1 _ R1_w17.out).mono ?_
                  rintro e w18 ⟨vq, Q, k, rfl, hQ, hb18⟩
                  have HBw18 := hid (HBw17.out.trans (hb18.mono HBw17.out.size))
                  have Q_w18 := hid hQ
                  obtain ⟨aq, nq, cq, rfl⟩ : ∃ a n c, vq = .slice a n c := by obtain ⟨a, c, rfl, _⟩ := hQ; exact ⟨a, _, c, rfl⟩
                  obtain ⟨WW, bw, hw2⟩ : ∃ WW bw, wtoB Q k = (WW, bw) := ⟨_, _, rfl⟩
                  have hlaw := fun (h : bw = true) => wto_law (M := Q) (W := WW) (i := k) (by rw [hw2, h])
                  have HWW := hid hw2
                  clear hw2
                  clear hb18 hQ
                  go_wp2_with fail
                  refine ((iWithoutTaxon_u _ Q k _ Q_w18.out).mono fun e w' h => h.lp HWW.out).mono ?_
                  rintro e w19 ⟨a19, n19, c19, rfl, hp19, hb19⟩
                  have HBw19 := hid (HBw18.out.trans (hb19.mono HBw18.out.size))
                  have Q_w19 := hid (Q_w18.out.keep hb19)
                  have W1_w19 := hid hp19
                  clear hb19 hp19
                  go_wp2_with fail
                  refine ((sWithoutTaxon_u _ Q k _ Q_w19.out).mono fun e w' h => h.lp HWW.out).mono ?_
                  rintro e w20 ⟨a20, n20, c20, rfl, hp20, hb20⟩
                  have HBw20 := hid (HBw19.out.trans (hb20.mono HBw19.out.size))
                  have Q_w20 := hid (Q_w19.out.keep hb20)
                  have W1_w20 := hid (W1_w19.out.keep hb20)
                  have W2_w20 := hid hp20
                  clear hb20 hp20
                  go_wp2_with fail
                  refine (sameLists_y _ _ WW _ W1_w20.out W2_w20.out).mono ?_
                  rintro e w21 ⟨rfl, hb21⟩
                  have HBw21 := hid (HBw20.out.trans (hb21.mono HBw20.out.size))
                  have Q_w21 := hid (Q_w20.out.keep hb21)
                  have W1_w21 := hid (W1_w20.out.keep hb21)
                  have W2_w21 := hid (W2_w20.out.keep hb21)
                  clear hb21
                  cases bw
                  · clear hlaw
                    go_wp2
                    go_ret
                    exact ⟨rfl, HBw21.out⟩
                  · obtain ⟨_, hlen, x, y, hx, hy, hxy⟩ := hlaw rfl
                    obtain ⟨e1, e2⟩ := rmat_n Q_w21.out
                    obtain ⟨e3, e4⟩ := rmat_n W2_w21.out
                    have HX := hid hx
                    have HY := hid hy
                    have f1 : IntKind.i64.wrap ((nq : Int) - 1) = (nq : Int) - 1 := IntWalk.i64_in _ (by omega)
                    have t1 : ((n20 : Int) == (nq : Int) - 1) = true := by rw [beq_iff_eq]; omega
                    clear hlaw hx hy hlen e1 e3
                    go_wp2_with fail
                    refine ((iIsTreeMetric_u _ Q _ Q_w21.out).mono fun e w' h => bbLp h HX.out).mono ?_
                    rintro e w22 ⟨rfl, hb22⟩
                    have HBw22 := hid (HBw21.out.trans (hb22.mono HBw21.out.size))
                    have Q_w22 := hid (Q_w21.out.keep hb22)
                    have W1_w22 := hid (W1_w21.out.keep hb22)
                    have W2_w22 := hid (W2_w21.out.keep hb22)
                    clear hb22
                    go_wp2_with fail
                    refine ((iIsTreeMetric_u _ WW _ W1_w22.out).mono fun e w' h => bbLp h HY.out).mono ?_
                    rintro e w23 ⟨rfl, hb23⟩
                    have HBw23 := hid (HBw22.out.trans (hb23.mono HBw22.out.size))
                    have Q_w23 := hid (Q_w22.out.keep hb23)
                    have W1_w23 := hid (W1_w22.out.keep hb23)
                    have W2_w23 := hid (W2_w22.out.keep hb23)
                    clear hb23
                    cases x <;> cases y
                    all_goals try (exfalso; simp at hxy; done)
                    all_goals
                      clear hxy
                      go_wp2
                      go_ret
                      exact ⟨rfl, HBw23.out⟩

set_option maxRecDepth 100000 in
theorem fnMetrics_lifted (os : Os) (started : os.Started) (H : Type) (enc : TypeId × Value → H) :
    ReturnsInHanded {} Try.checked os 5 .any (Rows.fnMetricsSpec.pre6 enc Try.prog Try.f5 Rows.fnMetricsRow.domain false) (Rows.fnMetricsSpec.post enc Try.prog Try.f5 false true false false) := by
  refine returnsInHanded_of_change (C := Try.checked) Try.own' started (by kernel_rfl) Try.func5
    (ChangeSpec.witness6 (enc := enc) (C := Try.checked) false ⟨#[], #[.slice none 0 0, .slice none 0 0], []⟩ 8 (by kernel_rfl) (by kernel_rfl) (by kernel_rfl) (by kernel_rfl)) ?_
  intro W base args ds gs before hval0 hW hcnd _
  have hval : ∀ (j : Nat) t v, Try.f5.params[j]? = some t → args[j]? = some v → Value.okWide Try.prog W .any base t v := hval0
  have hW' := hW
  obtain ⟨p, q, hA0, hV, rfl, hfz, hnd⟩ := hW
  have hA : DataW.TrodAll enc Try.prog W 0 (fun _ => true) true Try.f5.params.toList args.toList ds p := hA0
  rw [Try.params5] at hA hval
  obtain ⟨v0, vs0, d0, ds0, p0, q0, hargs, rfl, rfl, h0, t0⟩ := trodAll_cons hA
  obtain ⟨v1, vs1, d1, ds1, p1, q1, rfl, rfl, rfl, h1, t1⟩ := trodAll_cons t0
  obtain ⟨rfl, rfl, rfl⟩ := trodAll_nil t1
  obtain rfl : args = #[v0, v1] := by cases args; simp_all
  obtain ⟨rfl, rfl⟩ := trodVars_none hV
  have k0 := h0
  have lt0 := trod_blocks k0
  obtain ⟨x0, r0, i0⟩ := open_rbytes (hval 0 35 v0 rfl rfl) h0
  have k1 := h1
  have lt1 := trod_blocks k1
  obtain ⟨x1, r1, i1⟩ := open_rbytes (hval 1 35 v1 rfl rfl) h1
  clear hA0 hval0
  refine (FnMetrics_c v0 x0 v1 x1 W r0 r1).mono fun e W' ⟨he, bel⟩ => ?_
  subst he
  exact ⟨_, rfl, _, _, _, [], _, [], hW', trodAll_mk1 (shut_bool Try.underlying4 _), (trodAll_cons_mk (Below.trod Try.laidOut' (by kernel_rfl) (of_decide_eq_true (by kernel_rfl)) k0 bel lt0) (trodAll_cons_mk (Below.trod Try.laidOut' (by kernel_rfl) (of_decide_eq_true (by kernel_rfl)) k1 bel lt1) trodAll_mk0)), rfl, bel.frame _, fun h => by cases h⟩

theorem fnMetrics_holds : Rows.FnMetricsSaid :=
  OpenClaim.holds_of_wide 5 Try.f5 rfl rfl rfl rfl rfl rfl rfl ⟨rfl, rfl, rfl, rfl, rfl⟩ rfl rfl rfl rfl rfl (by kernel_rfl) Try.func5 (by kernel_rfl)
    (of_decide_eq_true (by kernel_rfl)) (by unfold Func.isWrapper; first | (rw [if_pos (by decide +kernel)]; kernel_rfl) | (rw [if_neg (by decide +kernel)]; exact ⟨rfl, rfl⟩))
    (fun os started H enc _ => fnMetrics_lifted os started H enc)

end Go.Proofs.Ytcgcgmlonhganaa
