/- FnFirings returns true for every input, and its arguments read as before. No condition. -/
import Derived.Test.YtlehhfmbdcmpoaaFireL
namespace Go.Proofs.Ytlehhfmbdcmpoaa
open Go.ChangeShapes Go.WideShapes Go.ChangeAt Go.RowKit
open Go.Lib (hid)

set_option maxRecDepth 100000 in
set_option maxHeartbeats 40000000 in
theorem FnFirings_c (v0 : Value) (x0 : Nat) (v1 : Value) (x1 : Nat) (w : World) (r0 : RBytes w v0 x0) (r1 : RBytes w v1 x1) :
    Calls Try.prog 4 #[v0, v1] w fun e w' => e = .returned (.bool true) ∧ Below w.heap.size w w' := by
  have R0 := hid r0
  have R1 := hid r1
  obtain ⟨a0, c0, rfl, hx0, hm0⟩ := r0.form
  obtain ⟨a1, c1, rfl, hx1, hm1⟩ := r1.form
  unfold maxLen at hm0 hm1
  clear r0 r1
  cases tbig : bigB x0 x1
  case' true =>
    have HTB := hid tbig
    clear tbig
    go_enter Try.func4, Try.ntmps4
    go_wp2_with fail
    refine (big_c _ _ _ _ _ R0.out R1.out).mono ?_
    rintro e w' ⟨rfl, q, rfl⟩
    rw [HTB.out]
    go_wp2
    go_ret
    exact ⟨rfl, below_drewN (Below.refl _ _) _⟩
  have HTB := hid tbig
  clear tbig
  go_enter Try.func4, Try.ntmps4
  go_wp2_with fail
  refine (big_c _ _ _ _ _ R0.out R1.out).mono ?_
  rintro e w0 ⟨rfl, qb, hqb⟩
  rw [HTB.out]
  have HB0 : Hid (Below w.heap.size w w0) := by rw [hqb]; exact below_drewN (Below.refl _ _) _
  have R0_0 := hid (R0.out.keep HB0.out)
  have R1_0 := hid (R1.out.keep HB0.out)
  clear hqb
  go_wp2_with fail
  refine (DrawFireScript_c _ x0 _ R0_0.out).mono ?_
  rintro e w1 ⟨n, vL, L, vd, d, vs, s, rfl, hn1, hn9, hll, hdl, hsl, hL, hD, hS, hb1⟩
  have HBw1 := hid (HB0.out.trans (hb1.mono HB0.out.size))
  have R1_w1 := hid (R1_0.out.keep hb1)
  have L_w1 := hid hL
  have D_w1 := hid hD
  have S_w1 := hid hS
  obtain ⟨al, cl, rfl⟩ := hL.form
  obtain ⟨ad, nd, cd, rfl, HND⟩ : ∃ a n c, vd = .slice a n c ∧ Hid (n = d.length) := by obtain ⟨a, cap, rfl, _⟩ := hD; exact ⟨_, _, _, rfl, hid rfl⟩
  obtain ⟨asx, ns, csx, rfl, HNS⟩ : ∃ a n c, vs = .slice a n c ∧ Hid (n = s.length) := by obtain ⟨a, cap, rfl, _⟩ := hS; exact ⟨_, _, _, rfl, hid rfl⟩
  clear hb1 hL hD hS
  cases t : divB n L d
  · have HF := hid (fsc_no s t)
    have HC := hid (csp_no t)
    clear t
    go_wp2_with fail
    refine ((iFireScript_u n _ _ L d _ s _ L_w1.out D_w1.out S_w1.out).mono fun e w' h => h.li HF.out).mono ?_
    rintro e w2 ⟨a2, n2, c2, rfl, hp2, hb2⟩
    have HBw2 := hid (HBw1.out.trans (hb2.mono HBw1.out.size))
    have R1_w2 := hid (R1_w1.out.keep hb2)
    have L_w2 := hid (L_w1.out.keep hb2)
    have D_w2 := hid (D_w1.out.keep hb2)
    have S_w2 := hid (S_w1.out.keep hb2)
    have F1_w2 := hid hp2
    clear hb2 hp2
    go_wp2_with fail
    refine ((sFireScript_u n _ _ L d _ s _ L_w2.out D_w2.out S_w2.out).mono fun e w' h => h.li HF.out).mono ?_
    rintro e w3 ⟨a3, n3, c3, rfl, hp3, hb3⟩
    have HBw3 := hid (HBw2.out.trans (hb3.mono HBw2.out.size))
    have R1_w3 := hid (R1_w2.out.keep hb3)
    have L_w3 := hid (L_w2.out.keep hb3)
    have D_w3 := hid (D_w2.out.keep hb3)
    have S_w3 := hid (S_w2.out.keep hb3)
    have F1_w3 := hid (F1_w2.out.keep hb3)
    have F2_w3 := hid hp3
    clear hb3 hp3
    go_wp2_with fail
    refine ((iChipSum_u n _ _ L d _ L_w3.out D_w3.out).mono fun e w' h => h.li HC.out).mono ?_
    rintro e w4 ⟨rfl, hb4⟩
    have HBw4 := hid (HBw3.out.trans (hb4.mono HBw3.out.size))
    have R1_w4 := hid (R1_w3.out.keep hb4)
    have L_w4 := hid (L_w3.out.keep hb4)
    have D_w4 := hid (D_w3.out.keep hb4)
    have S_w4 := hid (S_w3.out.keep hb4)
    have F1_w4 := hid (F1_w3.out.keep hb4)
    have F2_w4 := hid (F2_w3.out.keep hb4)
    clear hb4
    go_wp2_with fail
    refine ((sChipSum_u n _ _ L d _ L_w4.out D_w4.out).mono fun e w' h => h.li HC.out).mono ?_
    rintro e w5 ⟨rfl, hb5⟩
    have HBw5 := hid (HBw4.out.trans (hb5.mono HBw4.out.size))
    have R1_w5 := hid (R1_w4.out.keep hb5)
    have L_w5 := hid (L_w4.out.keep hb5)
    have D_w5 := hid (D_w4.out.keep hb5)
    have S_w5 := hid (S_w4.out.keep hb5)
    have F1_w5 := hid (F1_w4.out.keep hb5)
    have F2_w5 := hid (F2_w4.out.keep hb5)
    clear hb5
    go_wp2_with fail
    refine (sameInts_y _ _ [] _ F1_w5.out F2_w5.out).mono ?_
    rintro e w6 ⟨rfl, hb6⟩
    have HBw6 := hid (HBw5.out.trans (hb6.mono HBw5.out.size))
    have R1_w6 := hid (R1_w5.out.keep hb6)
    have L_w6 := hid (L_w5.out.keep hb6)
    have D_w6 := hid (D_w5.out.keep hb6)
    have S_w6 := hid (S_w5.out.keep hb6)
    have F1_w6 := hid (F1_w5.out.keep hb6)
    have F2_w6 := hid (F2_w5.out.keep hb6)
    clear hb6
    as_aux_lemma =>
      go_wp2_with fail
      refine (DrawFireSet_c _ x1 _ R1_w6.out).mono ?_
      rintro e w7 ⟨k, vM, M, vx, x, vy, y, rfl, hk1, hk9, hml, hxl, hyl, hM, hX, hY, hb7⟩
      have HBw7 := hid (HBw6.out.trans (hb7.mono HBw6.out.size))
      have M_w7 := hid hM
      have X_w7 := hid hX
      have Y_w7 := hid hY
      obtain ⟨am, cm, rfl⟩ := hM.form
      obtain ⟨ax, nx, cx, rfl⟩ := hX.form3
      obtain ⟨ay, ny, cy, rfl⟩ := hY.form3
      obtain ⟨Z, bz, hz⟩ : ∃ Z b, fstB k M x y = (Z, b) := ⟨_, _, rfl⟩
      have HZ := hid hz
      clear hz
      clear hb7 hM hX hY
      go_wp2_with fail
      refine ((iFireSet_u k _ _ M x _ y _ M_w7.out X_w7.out Y_w7.out).mono fun e w' h => h.li HZ.out).mono ?_
      rintro e w8 ⟨a8, n8, c8, rfl, hp8, hb8⟩
      have HBw8 := hid (HBw7.out.trans (hb8.mono HBw7.out.size))
      have M_w8 := hid (M_w7.out.keep hb8)
      have X_w8 := hid (X_w7.out.keep hb8)
      have Y_w8 := hid (Y_w7.out.keep hb8)
      have P_w8 := hid hp8
      clear hb8 hp8
      go_wp2_with fail
      refine ((sFireSet_u k _ _ M x _ y _ M_w8.out X_w8.out Y_w8.out).mono fun e w' h => h.li HZ.out).mono ?_
      rintro e w9 ⟨a9, n9, c9, rfl, hp9, hb9⟩
      have HBw9 := hid (HBw8.out.trans (hb9.mono HBw8.out.size))
      have M_w9 := hid (M_w8.out.keep hb9)
      have X_w9 := hid (X_w8.out.keep hb9)
      have Y_w9 := hid (Y_w8.out.keep hb9)
      have P_w9 := hid (P_w8.out.keep hb9)
      have Q_w9 := hid hp9
      clear hb9 hp9
      cases bz
      · go_wp2_with fail
        refine (sameInts_y _ _ Z _ P_w9.out Q_w9.out).mono ?_
        rintro e w10 ⟨rfl, hb10⟩
        have HBw10 := hid (HBw9.out.trans (hb10.mono HBw9.out.size))
        have P_w10 := hid (P_w9.out.keep hb10)
        have Q_w10 := hid (Q_w9.out.keep hb10)
        clear hb10
        go_wp2
        go_ret
        exact ⟨rfl, HBw10.out⟩
      · go_wp2_with fail
        refine (sameInts_y _ _ Z _ P_w9.out Q_w9.out).mono ?_
        rintro e w10 ⟨rfl, hb10⟩
        have HBw10 := hid (HBw9.out.trans (hb10.mono HBw9.out.size))
        have P_w10 := hid (P_w9.out.keep hb10)
        have Q_w10 := hid (Q_w9.out.keep hb10)
        clear hb10
        go_wp2
        go_ret
        exact ⟨rfl, HBw10.out⟩
  · obtain ⟨m, hm, hnm, hG, _, hdl2, hdb, hda⟩ := divB_parts t
    subst hnm
    have hm8 := hG.n8
    have hm1 := hG.n1
    obtain rfl : nd = m := by rw [HND.out]; exact hdl2
    have HT := hid t
    obtain ⟨S, hS⟩ : ∃ S, d.sum = S := ⟨_, rfl⟩
    have hcs := csp_yes t
    rw [hS] at hcs
    have HC := hid hcs
    have HAL := hid (fst_all t)
    have HDB := hid (dbt_yes t)
    have HLG := hid (lgf_yes t)
    obtain ⟨NEG, hNEG⟩ : ∃ N, setL (fun v => decide (d.getD v 0 < 0)) nd = N := ⟨_, rfl⟩
    obtain ⟨LEG, hLEG⟩ : ∃ N, setL (fun v => decide (valV nd L v ≤ d.getD v 0)) nd = N := ⟨_, rfl⟩
    rw [hNEG] at HDB
    rw [hLEG] at HLG
    have HNEG := hid hNEG
    have HLEG := hid hLEG
    have HDLN := hid hdl2
    clear hcs hNEG hLEG hm
    rcases fsc_cases nd t s with hf | ⟨hf, hsl2, hsa, hfa⟩
    · have HF := hid hf
      clear hf t hda hdb
      go_wp2_with fail
      refine ((iFireScript_u (nd : Int) _ _ L d _ s _ L_w1.out D_w1.out S_w1.out).mono fun e w' h => h.li HF.out).mono ?_
      rintro e w2 ⟨a2, n2, c2, rfl, hp2, hb2⟩
      have HBw2 := hid (HBw1.out.trans (hb2.mono HBw1.out.size))
      have R1_w2 := hid (R1_w1.out.keep hb2)
      have L_w2 := hid (L_w1.out.keep hb2)
      have D_w2 := hid (D_w1.out.keep hb2)
      have S_w2 := hid (S_w1.out.keep hb2)
      have F1_w2 := hid hp2
      clear hb2 hp2
      go_wp2_with fail
      refine ((sFireScript_u (nd : Int) _ _ L d _ s _ L_w2.out D_w2.out S_w2.out).mono fun e w' h => h.li HF.out).mono ?_
      rintro e w3 ⟨a3, n3, c3, rfl, hp3, hb3⟩
      have HBw3 := hid (HBw2.out.trans (hb3.mono HBw2.out.size))
      have R1_w3 := hid (R1_w2.out.keep hb3)
      have L_w3 := hid (L_w2.out.keep hb3)
      have D_w3 := hid (D_w2.out.keep hb3)
      have S_w3 := hid (S_w2.out.keep hb3)
      have F1_w3 := hid (F1_w2.out.keep hb3)
      have F2_w3 := hid hp3
      clear hb3 hp3
      go_wp2_with fail
      refine ((iChipSum_u (nd : Int) _ _ L d _ L_w3.out D_w3.out).mono fun e w' h => h.li HC.out).mono ?_
      rintro e w4 ⟨rfl, hb4⟩
      have HBw4 := hid (HBw3.out.trans (hb4.mono HBw3.out.size))
      have R1_w4 := hid (R1_w3.out.keep hb4)
      have L_w4 := hid (L_w3.out.keep hb4)
      have D_w4 := hid (D_w3.out.keep hb4)
      have S_w4 := hid (S_w3.out.keep hb4)
      have F1_w4 := hid (F1_w3.out.keep hb4)
      have F2_w4 := hid (F2_w3.out.keep hb4)
      clear hb4
      go_wp2_with fail
      refine ((sChipSum_u (nd : Int) _ _ L d _ L_w4.out D_w4.out).mono fun e w' h => h.li HC.out).mono ?_
      rintro e w5 ⟨rfl, hb5⟩
      have HBw5 := hid (HBw4.out.trans (hb5.mono HBw4.out.size))
      have R1_w5 := hid (R1_w4.out.keep hb5)
      have L_w5 := hid (L_w4.out.keep hb5)
      have D_w5 := hid (D_w4.out.keep hb5)
      have S_w5 := hid (S_w4.out.keep hb5)
      have F1_w5 := hid (F1_w4.out.keep hb5)
      have F2_w5 := hid (F2_w4.out.keep hb5)
      clear hb5
      go_wp2_with fail
      refine (sameInts_y _ _ [] _ F1_w5.out F2_w5.out).mono ?_
      rintro e w6 ⟨rfl, hb6⟩
      have HBw6 := hid (HBw5.out.trans (hb6.mono HBw5.out.size))
      have R1_w6 := hid (R1_w5.out.keep hb6)
      have L_w6 := hid (L_w5.out.keep hb6)
      have D_w6 := hid (D_w5.out.keep hb6)
      have S_w6 := hid (S_w5.out.keep hb6)
      have F1_w6 := hid (F1_w5.out.keep hb6)
      have F2_w6 := hid (F2_w5.out.keep hb6)
      clear hb6
      as_aux_lemma =>
        go_wp2
        go_loopg [24, 25] nd (fun gk av vv wr => ∃ (i : Nat) (a : Option Addr) (c : Nat), av = .slice a i c ∧ vv = .int .i64 i ∧ i ≤ nd ∧ gk = nd - i ∧ FInts wr w6.heap.size wr.heap.size (.slice a i c) (setL (fun _ => true) i) ∧ Below w6.heap.size w6 wr)
        case atStart => exact ⟨0, none, 0, rfl, rfl, Nat.zero_le _, rfl, ints_nil _ _ _, Below.refl _ _⟩
        case round =>
          obtain ⟨i, aA, cA, rfl, rfl, hi, rfl, hFA, hbA⟩ := hrel
          have HFA := hid hFA
          have HBA := hid hbA
          clear hFA hbA
          by_cases hlt : i < nd
          · have hltz : (i : Int) < (nd : Int) := by omega
            have hi8 : i ≤ 8 := by omega
            have HLK := hid (all_len i)
            have HX : Hid (setL (fun _ => true) i ++ [(i : Int)] = setL (fun _ => true) (i + 1)) := (setL_succ_yes rfl).symm
            have hkm : i ≤ 1048576 := by omega
            go_wp2_with (at_builtin; (refine wpList_push_r (W0 := w6) rfl _ _ rfl w6.heap.size (.slice aA i cA) (setL (fun _ => true) i) (i : Int) rfl rfl HFA.out HBA.out HBA.out.size i HLK hkm _ HX ?_; intro g7 c7 w7 hF7 hb7; have HF7 := hid hF7; have HB7 := hid hb7; clear hF7 hb7))
            go_roundg (nd - (i + 1))
            case rel => exact ⟨i + 1, _, _, rfl, by go_num, by omega, rfl, HF7.out, HB7.out⟩
            case measure => omega
          · obtain rfl : nd = i := by omega
            obtain ⟨wA, rfl⟩ : ∃ w' : World, w' = wr := ⟨_, rfl⟩
            have HAR := hid HFA.out.r
            have HBa7 := hid (HBw6.out.trans (HBA.out.mono HBw6.out.size))
            have R1_a7 := hid (R1_w6.out.keep HBA.out)
            have L_a7 := hid (L_w6.out.keep HBA.out)
            have D_a7 := hid (D_w6.out.keep HBA.out)
            go_wp2_with fail
            refine ((iFireSet_u (nd : Int) _ _ L d _ (setL (fun _ => true) nd) _ L_a7.out D_a7.out HAR.out).mono fun e w' h => h.li HAL.out).mono ?_
            rintro e w8 ⟨a8, n8, c8, rfl, hp8, hb8⟩
            have HBw8 := hid (HBa7.out.trans (hb8.mono HBa7.out.size))
            have R1_w8 := hid (R1_a7.out.keep hb8)
            have L_w8 := hid (L_a7.out.keep hb8)
            have D_w8 := hid (D_a7.out.keep hb8)
            have A_w8 := hid (HAR.out.keep hb8)
            have B_w8 := hid hp8
            clear hb8 hp8
            go_wp2_with fail
            refine ((iDebtsOf_u (nd : Int) _ _ L d _ L_w8.out D_w8.out).mono fun e w' h => h.li HDB.out).mono ?_
            rintro e w9 ⟨a9, n9, c9, rfl, hp9, hb9⟩
            have HBw9 := hid (HBw8.out.trans (hb9.mono HBw8.out.size))
            have R1_w9 := hid (R1_w8.out.keep hb9)
            have L_w9 := hid (L_w8.out.keep hb9)
            have D_w9 := hid (D_w8.out.keep hb9)
            have B_w9 := hid (B_w8.out.keep hb9)
            have E1_w9 := hid hp9
            clear hb9 hp9
            go_wp2_with fail
            refine ((sDebtsOf_u (nd : Int) _ _ L d _ L_w9.out D_w9.out).mono fun e w' h => h.li HDB.out).mono ?_
            rintro e w10 ⟨a10, n10, c10, rfl, hp10, hb10⟩
            have HBw10 := hid (HBw9.out.trans (hb10.mono HBw9.out.size))
            have R1_w10 := hid (R1_w9.out.keep hb10)
            have L_w10 := hid (L_w9.out.keep hb10)
            have D_w10 := hid (D_w9.out.keep hb10)
            have B_w10 := hid (B_w9.out.keep hb10)
            have E1_w10 := hid (E1_w9.out.keep hb10)
            have E2_w10 := hid hp10
            clear hb10 hp10
            go_wp2_with fail
            refine ((iLegalFirings_u (nd : Int) _ _ L d _ L_w10.out D_w10.out).mono fun e w' h => h.li HLG.out).mono ?_
            rintro e w11 ⟨a11, n11, c11, rfl, hp11, hb11⟩
            have HBw11 := hid (HBw10.out.trans (hb11.mono HBw10.out.size))
            have R1_w11 := hid (R1_w10.out.keep hb11)
            have L_w11 := hid (L_w10.out.keep hb11)
            have D_w11 := hid (D_w10.out.keep hb11)
            have B_w11 := hid (B_w10.out.keep hb11)
            have E1_w11 := hid (E1_w10.out.keep hb11)
            have E2_w11 := hid (E2_w10.out.keep hb11)
            have G1_w11 := hid hp11
            clear hb11 hp11
            go_wp2_with fail
            refine ((sLegalFirings_u (nd : Int) _ _ L d _ L_w11.out D_w11.out).mono fun e w' h => h.li HLG.out).mono ?_
            rintro e w12 ⟨a12, n12, c12, rfl, hp12, hb12⟩
            have HBw12 := hid (HBw11.out.trans (hb12.mono HBw11.out.size))
            have R1_w12 := hid (R1_w11.out.keep hb12)
            have L_w12 := hid (L_w11.out.keep hb12)
            have D_w12 := hid (D_w11.out.keep hb12)
            have B_w12 := hid (B_w11.out.keep hb12)
            have E1_w12 := hid (E1_w11.out.keep hb12)
            have E2_w12 := hid (E2_w11.out.keep hb12)
            have G1_w12 := hid (G1_w11.out.keep hb12)
            have G2_w12 := hid hp12
            clear hb12 hp12
            go_wp2_with fail
            refine (sameInts_y _ _ d _ B_w12.out D_w12.out).mono ?_
            rintro e w13 ⟨rfl, hb13⟩
            have HBw13 := hid (HBw12.out.trans (hb13.mono HBw12.out.size))
            have R1_w13 := hid (R1_w12.out.keep hb13)
            have L_w13 := hid (L_w12.out.keep hb13)
            have D_w13 := hid (D_w12.out.keep hb13)
            have B_w13 := hid (B_w12.out.keep hb13)
            have E1_w13 := hid (E1_w12.out.keep hb13)
            have E2_w13 := hid (E2_w12.out.keep hb13)
            have G1_w13 := hid (G1_w12.out.keep hb13)
            have G2_w13 := hid (G2_w12.out.keep hb13)
            clear hb13
            go_wp2_with fail
            refine (sameInts_y _ _ NEG _ E1_w13.out E2_w13.out).mono ?_
            rintro e w14 ⟨rfl, hb14⟩
            have HBw14 := hid (HBw13.out.trans (hb14.mono HBw13.out.size))
            have R1_w14 := hid (R1_w13.out.keep hb14)
            have L_w14 := hid (L_w13.out.keep hb14)
            have D_w14 := hid (D_w13.out.keep hb14)
            have E1_w14 := hid (E1_w13.out.keep hb14)
            have E2_w14 := hid (E2_w13.out.keep hb14)
            have G1_w14 := hid (G1_w13.out.keep hb14)
            have G2_w14 := hid (G2_w13.out.keep hb14)
            clear hb14
            go_wp2_with fail
            refine (sameInts_y _ _ LEG _ G1_w14.out G2_w14.out).mono ?_
            rintro e w15 ⟨rfl, hb15⟩
            have HBw15 := hid (HBw14.out.trans (hb15.mono HBw14.out.size))
            have R1_w15 := hid (R1_w14.out.keep hb15)
            have L_w15 := hid (L_w14.out.keep hb15)
            have D_w15 := hid (D_w14.out.keep hb15)
            have E2_w15 := hid (E2_w14.out.keep hb15)
            have G1_w15 := hid (G1_w14.out.keep hb15)
            have G2_w15 := hid (G2_w14.out.keep hb15)
            clear hb15
            have HDL3 := hid (rints_lst D_w15.out HDLN.out)
            obtain ⟨gd, od, cd2, he3, _, _, hdc⟩ := ri_open HDL3.out (by omega)
            simp only [Value.slice.injEq] at he3
            obtain ⟨rfl, _, rfl⟩ := he3
            have HDC := hid hdc
            clear hdc HDL3
            go_wp2
            go_loopg [257] (nd + 1) (fun gk iv wr => ∃ i : Nat, iv = .int .i64 i ∧ i ≤ nd ∧ gk = nd + 1 - i ∧ w15 = wr)
            case atStart => exact ⟨0, rfl, Nat.zero_le _, rfl, rfl⟩
            case round =>
              obtain ⟨i, rfl, hi, rfl, rfl⟩ := hrel
              by_cases hlt : i < nd
              · have hltz : (i : Int) < (nd : Int) := by omega
                have hi8 : i ≤ 8 := by omega
                have e1 := HDC.out i hlt
                obtain ⟨y, hy⟩ : ∃ y, d.getD i 0 = y := ⟨_, rfl⟩
                rw [hy] at e1
                have h1 := debt_at nd d hlt hy
                rw [HNEG.out] at h1
                have H1 := hid h1
                have h2 := fun h => debt_legal hG hlt hy h
                rw [HLEG.out] at h2
                have H2 := hid h2
                clear h1 h2 hy
                by_cases hlo : y < 0
                · have hld : decide (y < 0) = true := decide_eq_true hlo
                  go_wp2_with fail
                  refine (pIn_c _ NEG (i : Int) _ E2_w15.out).mono ?_
                  rintro e w' ⟨rfl, rfl⟩
                  rw [H1.out, hld]
                  go_wp2_with fail
                  refine (pIn_c _ NEG (i : Int) _ E2_w15.out).mono ?_
                  rintro e w' ⟨rfl, rfl⟩
                  rw [H1.out, hld]
                  go_wp2_with fail
                  refine (pIn_c _ LEG (i : Int) _ G2_w15.out).mono ?_
                  rintro e w' ⟨rfl, rfl⟩
                  rw [H2.out hlo]
                  go_wp2
                  go_roundg (nd + 1 - (i + 1))
                  case rel => exact ⟨i + 1, by go_num, by omega, rfl, rfl⟩
                  case measure => omega
                · have hld : decide (y < 0) = false := decide_eq_false hlo
                  go_wp2_with fail
                  refine (pIn_c _ NEG (i : Int) _ E2_w15.out).mono ?_
                  rintro e w' ⟨rfl, rfl⟩
                  rw [H1.out, hld]
                  go_wp2_with fail
                  refine (pIn_c _ NEG (i : Int) _ E2_w15.out).mono ?_
                  rintro e w' ⟨rfl, rfl⟩
                  rw [H1.out, hld]
                  go_wp2
                  go_roundg (nd + 1 - (i + 1))
                  case rel => exact ⟨i + 1, by go_num, by omega, rfl, rfl⟩
                  case measure => omega
              · obtain rfl : nd = i := by omega
                clear HDC
                have hn9 : n12 = LEG.length := by
                  obtain ⟨a9, c9, he9⟩ := (G2_w15.out).form
                  simp only [Value.slice.injEq] at he9
                  exact he9.2.1
                subst hn9
                have hl8 : LEG.length ≤ 8 := by rw [← HLEG.out]; have := setL_len (fun v => decide (valV nd L v ≤ d.getD v 0)) nd; omega
                go_wp2
                go_loopg [281] (LEG.length + 1) (fun gk iv wr => ∃ i : Nat, iv = .int .i64 i ∧ i ≤ LEG.length ∧ gk = LEG.length + 1 - i ∧ Below w15.heap.size w15 wr)
                case atStart => exact ⟨0, rfl, Nat.zero_le _, rfl, Below.refl _ _⟩
                case round =>
                  obtain ⟨i, rfl, hi, rfl, hbr⟩ := hrel
                  have HBR := hid hbr
                  clear hbr
                  obtain ⟨wr, rfl⟩ : ∃ w' : World, w' = wr := ⟨_, rfl⟩
                  have HBa16 := hid (HBw15.out.trans (HBR.out.mono HBw15.out.size))
                  have R1_a16 := hid (R1_w15.out.keep HBR.out)
                  have L_a16 := hid (L_w15.out.keep HBR.out)
                  have D_a16 := hid (D_w15.out.keep HBR.out)
                  have G2_a16 := hid (G2_w15.out.keep HBR.out)
                  by_cases hlt : i < LEG.length
                  · have hltz : (i : Int) < (LEG.length : Int) := by omega
                    have hi8 : i ≤ 8 := by omega
                    obtain ⟨_, _, he9, _, _, hcc⟩ := G2_a16.out
                    simp only [Value.slice.injEq, true_and] at he9
                    obtain ⟨rfl, rfl⟩ := he9
                    obtain ⟨gg, og, x, rfl, e1, HDx, HXx⟩ := ints_at hcc hlt
                    have hmem : x ∈ LEG := by rw [← HXx.out]; simp [List.getD, List.getElem?_eq_getElem hlt]
                    rw [← HLEG.out] at hmem
                    obtain ⟨v, hv, hvl, rfl⟩ := mem_setL.1 hmem
                    have hvl2 : valV nd L v ≤ d.getD v 0 := of_decide_eq_true hvl
                    obtain ⟨X, bx, hx⟩ : ∃ X b, fvtB (nd : Int) L d (v : Int) = (X, b) := ⟨_, _, rfl⟩
                    have HXV := hid hx
                    have HXL : Hid (bx = true → X.length = nd ∧ 0 ≤ X.getD v 0) := fun hb => fvt_legal HT.out hv hvl2 (by rw [hx, hb])
                    clear hcc HDx HXx hmem hvl hvl2 hx
                    have HZZ : Hid (Since w15 wr) := HBR.out
                    go_wp2_with fail
                    refine ((iFireVertex_u (nd : Int) _ _ L d (v : Int) _ L_a16.out D_a16.out).mono fun e w' h => h.li HXV.out).mono ?_
                    rintro e w17 ⟨a17, n17, c17, rfl, hp17, hb17⟩
                    have HBw17 := hid (HBa16.out.trans (hb17.mono HBa16.out.size))
                    have R1_w17 := hid (R1_a16.out.keep hb17)
                    have L_w17 := hid (L_a16.out.keep hb17)
                    have D_w17 := hid (D_a16.out.keep hb17)
                    have Z_w17 := hid (HZZ.out.keep hb17)
                    have X1_w17 := hid hp17
                    clear hb17 hp17
                    go_wp2_with fail
                    refine ((sFireVertex_u (nd : Int) _ _ L d (v : Int) _ L_w17.out D_w17.out).mono fun e w' h => h.li HXV.out).mono ?_
                    rintro e w18 ⟨a18, n18, c18, rfl, hp18, hb18⟩
                    have HBw18 := hid (HBw17.out.trans (hb18.mono HBw17.out.size))
                    have R1_w18 := hid (R1_w17.out.keep hb18)
                    have L_w18 := hid (L_w17.out.keep hb18)
                    have D_w18 := hid (D_w17.out.keep hb18)
                    have Z_w18 := hid (Z_w17.out.keep hb18)
                    have X1_w18 := hid (X1_w17.out.keep hb18)
                    have X2_w18 := hid hp18
                    clear hb18 hp18
                    cases bx
                    · go_wp2_with fail
                      refine (sameInts_y _ _ X _ X1_w18.out X2_w18.out).mono ?_
                      rintro e w19 ⟨rfl, hb19⟩
                      have HBw19 := hid (HBw18.out.trans (hb19.mono HBw18.out.size))
                      have R1_w19 := hid (R1_w18.out.keep hb19)
                      have L_w19 := hid (L_w18.out.keep hb19)
                      have D_w19 := hid (D_w18.out.keep hb19)
                      have Z_w19 := hid (Z_w18.out.keep hb19)
                      have X1_w19 := hid (X1_w18.out.keep hb19)
                      have X2_w19 := hid (X2_w18.out.keep hb19)
                      clear hb19
                      go_wp2
                      go_roundg (LEG.length + 1 - (i + 1))
                      case rel => exact ⟨i + 1, by go_num, by omega, rfl, Z_w19.out⟩
                      case measure => omega
                    · go_wp2_with fail
                      refine (sameInts_y _ _ X _ X1_w18.out X2_w18.out).mono ?_
                      rintro e w19 ⟨rfl, hb19⟩
                      have HBw19 := hid (HBw18.out.trans (hb19.mono HBw18.out.size))
                      have R1_w19 := hid (R1_w18.out.keep hb19)
                      have L_w19 := hid (L_w18.out.keep hb19)
                      have D_w19 := hid (D_w18.out.keep hb19)
                      have Z_w19 := hid (Z_w18.out.keep hb19)
                      have X1_w19 := hid (X1_w18.out.keep hb19)
                      have X2_w19 := hid (X2_w18.out.keep hb19)
                      clear hb19
                      obtain ⟨hxl, hx0⟩ := HXL.out (by first | rfl | trivial)
                      obtain ⟨_, _, he9, _, _, hcc⟩ := X2_w19.out
                      simp only [Value.slice.injEq] at he9
                      obtain ⟨rfl, hnx, rfl⟩ := he9
                      obtain ⟨gx, ox, rfl, e2⟩ := hcc v (by omega)
                      obtain ⟨z, hz⟩ : ∃ z, X.getD v 0 = z := ⟨_, rfl⟩
                      rw [hz] at e2 hx0
                      have hnz : ¬ (z < 0) := by omega
                      have hnzd : decide (z < 0) = false := decide_eq_false hnz
                      obtain rfl : nd = n18 := by omega
                      have hvz : (v : Int) < (nd : Int) := by omega
                      have hv8 : v ≤ 8 := by omega
                      clear hcc hz hxl hnx
                      go_wp2
                      go_roundg (LEG.length + 1 - (i + 1))
                      case rel => exact ⟨i + 1, by go_num, by omega, rfl, Z_w19.out⟩
                      case measure => omega
                  · obtain rfl : i = LEG.length := by omega
                    as_aux_lemma =>
                      go_wp2_with fail
                      refine (DrawFireSet_c _ x1 _ R1_a16.out).mono ?_
                      rintro e w17 ⟨k, vM, M, vx, x, vy, y, rfl, hk1, hk9, hml, hxl, hyl, hM, hX, hY, hb17⟩
                      have HBw17 := hid (HBa16.out.trans (hb17.mono HBa16.out.size))
                      have M_w17 := hid hM
                      have X_w17 := hid hX
                      have Y_w17 := hid hY
                      obtain ⟨am, cm, rfl⟩ := hM.form
                      obtain ⟨ax, nx, cx, rfl⟩ := hX.form3
                      obtain ⟨ay, ny, cy, rfl⟩ := hY.form3
                      obtain ⟨Z, bz, hz⟩ : ∃ Z b, fstB k M x y = (Z, b) := ⟨_, _, rfl⟩
                      have HZ := hid hz
                      clear hz
                      clear hb17 hM hX hY
                      go_wp2_with fail
                      refine ((iFireSet_u k _ _ M x _ y _ M_w17.out X_w17.out Y_w17.out).mono fun e w' h => h.li HZ.out).mono ?_
                      rintro e w18 ⟨a18, n18, c18, rfl, hp18, hb18⟩
                      have HBw18 := hid (HBw17.out.trans (hb18.mono HBw17.out.size))
                      have M_w18 := hid (M_w17.out.keep hb18)
                      have X_w18 := hid (X_w17.out.keep hb18)
                      have Y_w18 := hid (Y_w17.out.keep hb18)
                      have P_w18 := hid hp18
                      clear hb18 hp18
                      go_wp2_with fail
                      refine ((sFireSet_u k _ _ M x _ y _ M_w18.out X_w18.out Y_w18.out).mono fun e w' h => h.li HZ.out).mono ?_
                      rintro e w19 ⟨a19, n19, c19, rfl, hp19, hb19⟩
                      have HBw19 := hid (HBw18.out.trans (hb19.mono HBw18.out.size))
                      have M_w19 := hid (M_w18.out.keep hb19)
                      have X_w19 := hid (X_w18.out.keep hb19)
                      have Y_w19 := hid (Y_w18.out.keep hb19)
                      have P_w19 := hid (P_w18.out.keep hb19)
                      have Q_w19 := hid hp19
                      clear hb19 hp19
                      cases bz
                      · go_wp2_with fail
                        refine (sameInts_y _ _ Z _ P_w19.out Q_w19.out).mono ?_
                        rintro e w20 ⟨rfl, hb20⟩
                        have HBw20 := hid (HBw19.out.trans (hb20.mono HBw19.out.size))
                        have P_w20 := hid (P_w19.out.keep hb20)
                        have Q_w20 := hid (Q_w19.out.keep hb20)
                        clear hb20
                        go_wp2
                        go_ret
                        exact ⟨rfl, HBw20.out⟩
                      · go_wp2_with fail
                        refine (sameInts_y _ _ Z _ P_w19.out Q_w19.out).mono ?_
                        rintro e w20 ⟨rfl, hb20⟩
                        have HBw20 := hid (HBw19.out.trans (hb20.mono HBw19.out.size))
                        have P_w20 := hid (P_w19.out.keep hb20)
                        have Q_w20 := hid (Q_w19.out.keep hb20)
                        clear hb20
                        go_wp2
                        go_ret
                        exact ⟨rfl, HBw20.out⟩
    · obtain rfl : ns = nd := by rw [HNS.out]; exact hsl2
      have hbk := (fsc_back t hsa).resolve_right (by rw [hfa]; simp)
      have hsu := aft_sum hG hdl2 (fun i => s.getD i 0)
      have hdf : divB (ns : Int) L (aftL ns L d (fun i => s.getD i 0)) = true := by rw [← aftL_eq hG] at hfa ⊢; exact div_lst t hfa
      obtain ⟨F, hF⟩ : ∃ F, aftL ns L d (fun i => s.getD i 0) = F := ⟨_, rfl⟩
      rw [hF] at hf hfa hbk hsu hdf
      rw [hS] at hsu
      have hcf := csp_yes hdf
      rw [hsu] at hcf
      have HSQ : Hid (smallQ F) := by
        obtain ⟨_, _, _, _, _, hfl, _, _⟩ := divB_parts hdf
        exact ⟨by omega, fun x hx => by have := allB_mem hfa x hx; omega⟩
      have HF := hid hf
      have HBK := hid hbk
      have HCF := hid hcf
      have HSU := hid hsu
      have HSB : Hid (∀ i, -20 ≤ s.getD i 0 ∧ s.getD i 0 ≤ 20) := fun i => getD_bound (B := 20) (allB_mem hsa) (by decide) i
      have HSLN := hid hsl2
      clear hf hbk hcf hsu hdf hfa hsa hF t hda hdb hsl2
      go_wp2_with fail
      refine ((iFireScript_u (ns : Int) _ _ L d _ s _ L_w1.out D_w1.out S_w1.out).mono fun e w' h => h.li HF.out).mono ?_
      rintro e w2 ⟨a2, n2, c2, rfl, hp2, hb2⟩
      have HBw2 := hid (HBw1.out.trans (hb2.mono HBw1.out.size))
      have R1_w2 := hid (R1_w1.out.keep hb2)
      have L_w2 := hid (L_w1.out.keep hb2)
      have D_w2 := hid (D_w1.out.keep hb2)
      have S_w2 := hid (S_w1.out.keep hb2)
      have F1_w2 := hid hp2
      clear hb2 hp2
      go_wp2_with fail
      refine ((sFireScript_u (ns : Int) _ _ L d _ s _ L_w2.out D_w2.out S_w2.out).mono fun e w' h => h.li HF.out).mono ?_
      rintro e w3 ⟨a3, n3, c3, rfl, hp3, hb3⟩
      have HBw3 := hid (HBw2.out.trans (hb3.mono HBw2.out.size))
      have R1_w3 := hid (R1_w2.out.keep hb3)
      have L_w3 := hid (L_w2.out.keep hb3)
      have D_w3 := hid (D_w2.out.keep hb3)
      have S_w3 := hid (S_w2.out.keep hb3)
      have F1_w3 := hid (F1_w2.out.keep hb3)
      have F2_w3 := hid hp3
      clear hb3 hp3
      go_wp2_with fail
      refine ((iChipSum_u (ns : Int) _ _ L d _ L_w3.out D_w3.out).mono fun e w' h => h.li HC.out).mono ?_
      rintro e w4 ⟨rfl, hb4⟩
      have HBw4 := hid (HBw3.out.trans (hb4.mono HBw3.out.size))
      have R1_w4 := hid (R1_w3.out.keep hb4)
      have L_w4 := hid (L_w3.out.keep hb4)
      have D_w4 := hid (D_w3.out.keep hb4)
      have S_w4 := hid (S_w3.out.keep hb4)
      have F1_w4 := hid (F1_w3.out.keep hb4)
      have F2_w4 := hid (F2_w3.out.keep hb4)
      clear hb4
      go_wp2_with fail
      refine ((sChipSum_u (ns : Int) _ _ L d _ L_w4.out D_w4.out).mono fun e w' h => h.li HC.out).mono ?_
      rintro e w5 ⟨rfl, hb5⟩
      have HBw5 := hid (HBw4.out.trans (hb5.mono HBw4.out.size))
      have R1_w5 := hid (R1_w4.out.keep hb5)
      have L_w5 := hid (L_w4.out.keep hb5)
      have D_w5 := hid (D_w4.out.keep hb5)
      have S_w5 := hid (S_w4.out.keep hb5)
      have F1_w5 := hid (F1_w4.out.keep hb5)
      have F2_w5 := hid (F2_w4.out.keep hb5)
      clear hb5
      go_wp2_with fail
      refine (sameInts_y _ _ F _ F1_w5.out F2_w5.out).mono ?_
      rintro e w6 ⟨rfl, hb6⟩
      have HBw6 := hid (HBw5.out.trans (hb6.mono HBw5.out.size))
      have R1_w6 := hid (R1_w5.out.keep hb6)
      have L_w6 := hid (L_w5.out.keep hb6)
      have D_w6 := hid (D_w5.out.keep hb6)
      have S_w6 := hid (S_w5.out.keep hb6)
      have F1_w6 := hid (F1_w5.out.keep hb6)
      have F2_w6 := hid (F2_w5.out.keep hb6)
      clear hb6
      go_wp2_with fail
      refine ((iChipSum_u (ns : Int) _ _ L F _ L_w6.out F1_w6.out).mono fun e w' h => h.li HCF.out).mono ?_
      rintro e w7 ⟨rfl, hb7⟩
      have HBw7 := hid (HBw6.out.trans (hb7.mono HBw6.out.size))
      have R1_w7 := hid (R1_w6.out.keep hb7)
      have L_w7 := hid (L_w6.out.keep hb7)
      have D_w7 := hid (D_w6.out.keep hb7)
      have S_w7 := hid (S_w6.out.keep hb7)
      have F1_w7 := hid (F1_w6.out.keep hb7)
      have F2_w7 := hid (F2_w6.out.keep hb7)
      clear hb7
      have HSL3 := hid (rints_lst S_w7.out HSLN.out)
      obtain ⟨gs, os, cs2, he3, _, _, hsc⟩ := ri_open HSL3.out (by omega)
      simp only [Value.slice.injEq] at he3
      obtain ⟨rfl, _, rfl⟩ := he3
      have HSC := hid hsc
      clear hsc HSL3
      have hmk := run_make_row' (P := Try.prog) 23 3 (.int .i64 0) 8 Try.underlying23 Try.infoInt rfl .i64 .i64 ns (by omega) (by omega)
      have HF0 := hid (fi_made w7 ns (by omega))
      have HB0q : Hid (Below w7.heap.size w7 (w7.alloc (.cells (madeCells #[.int .i64 0] ns) 3))) := (Below.refl _ _).alloc (Nat.le_refl _) _
      go_wp2
      clear hmk
      go_loopg [131] ns (fun gk iv wr => ∃ i : Nat, i ≤ ns ∧ gk = ns - i ∧ iv = .int .i64 i ∧ FInts wr w7.heap.size (w7.heap.size + 1) (.slice (some ⟨w7.heap.size, 0, none⟩) ns ns) (lst ns (partF (fun _ => 0) (fun i => - s.getD i 0) i)) ∧ Below w7.heap.size w7 wr ∧ w7.heap.size + 1 ≤ wr.heap.size)
      case atStart => exact ⟨0, Nat.zero_le _, rfl, rfl, by rw [part_zero]; exact HF0.out, HB0q.out, by simp⟩
      case round =>
        obtain ⟨i, hi, rfl, rfl, hFq, hbq, hsq⟩ := hrel
        by_cases hlt : i < ns
        · obtain ⟨hc0, _, hset⟩ := fi_open hFq
          have hi8 : i ≤ 8 := by omega
          have b1 := (hc0 i hlt).1
          have b2 := (hc0 i hlt).2
          have e1 := (hbq.cell (p := ⟨gs, os + i, none⟩) (cell_lt (HSC.out i hlt))).trans (HSC.out i hlt)
          have hsb := HSB.out i
          obtain ⟨y, hy⟩ : ∃ y, s.getD i 0 = y := ⟨_, rfl⟩
          rw [hy] at e1 hsb
          have hst := hset i (-y) hlt
          rw [part_set ns _ (fun i => - s.getD i 0) (by rw [hy])] at hst
          have HO := hid (And.intro hst.1 (And.intro (hbq.trans (hst.2.below (Nat.le_refl _) hbq.size)) (Nat.le_trans hsq hst.2.size)))
          have hiz : (i : Int) < (ns : Int) := by omega
          have f1 : IntKind.i64.wrap (-y) = -y := IntWalk.i64_in _ (by omega)
          clear hFq hbq hc0 hset hst hy
          go_wp2
          go_roundg (ns - (i + 1))
          case rel => exact ⟨i + 1, by omega, rfl, by go_num, HO.out⟩
          case measure => omega
        · obtain rfl : ns = i := by omega
          rw [part_all] at hFq
          obtain ⟨wB, rfl⟩ : ∃ w' : World, w' = wr := ⟨_, rfl⟩
          have HBQ := hid hbq
          have HK := hid hFq.r
          clear hFq hbq HSC HF0 HB0q
          have HBa8 := hid (HBw7.out.trans (HBQ.out.mono HBw7.out.size))
          have R1_a8 := hid (R1_w7.out.keep HBQ.out)
          have L_a8 := hid (L_w7.out.keep HBQ.out)
          have D_a8 := hid (D_w7.out.keep HBQ.out)
          have F1_a8 := hid (F1_w7.out.keep HBQ.out)
          have F2_a8 := hid (F2_w7.out.keep HBQ.out)
          go_wp2_with fail
          refine ((iFireScript_u (ns : Int) _ _ L F _ (lst ns (fun i => - s.getD i 0)) _ L_a8.out F1_a8.out HK.out).mono fun e w' h => h.li HBK.out).mono ?_
          rintro e w9 ⟨a9, n9, c9, rfl, hp9, hb9⟩
          have HBw9 := hid (HBa8.out.trans (hb9.mono HBa8.out.size))
          have R1_w9 := hid (R1_a8.out.keep hb9)
          have L_w9 := hid (L_a8.out.keep hb9)
          have D_w9 := hid (D_a8.out.keep hb9)
          have F1_w9 := hid (F1_a8.out.keep hb9)
          have F2_w9 := hid (F2_a8.out.keep hb9)
          have K_w9 := hid (HK.out.keep hb9)
          have J_w9 := hid hp9
          clear hb9 hp9
          go_wp2_with fail
          refine (pSum_c _ F _ F2_w9.out HSQ.out).mono ?_
          rintro e w' ⟨rfl, rfl⟩
          rw [HSU.out]
          go_wp2_with fail
          refine (sameInts_y _ _ d _ J_w9.out D_w9.out).mono ?_
          rintro e w10 ⟨rfl, hb10⟩
          have HBw10 := hid (HBw9.out.trans (hb10.mono HBw9.out.size))
          have R1_w10 := hid (R1_w9.out.keep hb10)
          have L_w10 := hid (L_w9.out.keep hb10)
          have D_w10 := hid (D_w9.out.keep hb10)
          have F2_w10 := hid (F2_w9.out.keep hb10)
          have J_w10 := hid (J_w9.out.keep hb10)
          clear hb10
          as_aux_lemma =>
            go_wp2
            go_loopg [24, 25] ns (fun gk av vv wr => ∃ (i : Nat) (a : Option Addr) (c : Nat), av = .slice a i c ∧ vv = .int .i64 i ∧ i ≤ ns ∧ gk = ns - i ∧ FInts wr w10.heap.size wr.heap.size (.slice a i c) (setL (fun _ => true) i) ∧ Below w10.heap.size w10 wr)
            case atStart => exact ⟨0, none, 0, rfl, rfl, Nat.zero_le _, rfl, ints_nil _ _ _, Below.refl _ _⟩
            case round =>
              obtain ⟨i, aA, cA, rfl, rfl, hi, rfl, hFA, hbA⟩ := hrel
              have HFA := hid hFA
              have HBA := hid hbA
              clear hFA hbA
              by_cases hlt : i < ns
              · have hltz : (i : Int) < (ns : Int) := by omega
                have hi8 : i ≤ 8 := by omega
                have HLK := hid (all_len i)
                have HX : Hid (setL (fun _ => true) i ++ [(i : Int)] = setL (fun _ => true) (i + 1)) := (setL_succ_yes rfl).symm
                have hkm : i ≤ 1048576 := by omega
                go_wp2_with (at_builtin; (refine wpList_push_r (W0 := w10) rfl _ _ rfl w10.heap.size (.slice aA i cA) (setL (fun _ => true) i) (i : Int) rfl rfl HFA.out HBA.out HBA.out.size i HLK hkm _ HX ?_; intro g7 c7 w7 hF7 hb7; have HF7 := hid hF7; have HB7 := hid hb7; clear hF7 hb7))
                go_roundg (ns - (i + 1))
                case rel => exact ⟨i + 1, _, _, rfl, by go_num, by omega, rfl, HF7.out, HB7.out⟩
                case measure => omega
              · obtain rfl : ns = i := by omega
                obtain ⟨wA, rfl⟩ : ∃ w' : World, w' = wr := ⟨_, rfl⟩
                have HAR := hid HFA.out.r
                have HBa11 := hid (HBw10.out.trans (HBA.out.mono HBw10.out.size))
                have R1_a11 := hid (R1_w10.out.keep HBA.out)
                have L_a11 := hid (L_w10.out.keep HBA.out)
                have D_a11 := hid (D_w10.out.keep HBA.out)
                go_wp2_with fail
                refine ((iFireSet_u (ns : Int) _ _ L d _ (setL (fun _ => true) ns) _ L_a11.out D_a11.out HAR.out).mono fun e w' h => h.li HAL.out).mono ?_
                rintro e w12 ⟨a12, n12, c12, rfl, hp12, hb12⟩
                have HBw12 := hid (HBa11.out.trans (hb12.mono HBa11.out.size))
                have R1_w12 := hid (R1_a11.out.keep hb12)
                have L_w12 := hid (L_a11.out.keep hb12)
                have D_w12 := hid (D_a11.out.keep hb12)
                have A_w12 := hid (HAR.out.keep hb12)
                have B_w12 := hid hp12
                clear hb12 hp12
                go_wp2_with fail
                refine ((iDebtsOf_u (ns : Int) _ _ L d _ L_w12.out D_w12.out).mono fun e w' h => h.li HDB.out).mono ?_
                rintro e w13 ⟨a13, n13, c13, rfl, hp13, hb13⟩
                have HBw13 := hid (HBw12.out.trans (hb13.mono HBw12.out.size))
                have R1_w13 := hid (R1_w12.out.keep hb13)
                have L_w13 := hid (L_w12.out.keep hb13)
                have D_w13 := hid (D_w12.out.keep hb13)
                have B_w13 := hid (B_w12.out.keep hb13)
                have E1_w13 := hid hp13
                clear hb13 hp13
                go_wp2_with fail
                refine ((sDebtsOf_u (ns : Int) _ _ L d _ L_w13.out D_w13.out).mono fun e w' h => h.li HDB.out).mono ?_
                rintro e w14 ⟨a14, n14, c14, rfl, hp14, hb14⟩
                have HBw14 := hid (HBw13.out.trans (hb14.mono HBw13.out.size))
                have R1_w14 := hid (R1_w13.out.keep hb14)
                have L_w14 := hid (L_w13.out.keep hb14)
                have D_w14 := hid (D_w13.out.keep hb14)
                have B_w14 := hid (B_w13.out.keep hb14)
                have E1_w14 := hid (E1_w13.out.keep hb14)
                have E2_w14 := hid hp14
                clear hb14 hp14
                go_wp2_with fail
                refine ((iLegalFirings_u (ns : Int) _ _ L d _ L_w14.out D_w14.out).mono fun e w' h => h.li HLG.out).mono ?_
                rintro e w15 ⟨a15, n15, c15, rfl, hp15, hb15⟩
                have HBw15 := hid (HBw14.out.trans (hb15.mono HBw14.out.size))
                have R1_w15 := hid (R1_w14.out.keep hb15)
                have L_w15 := hid (L_w14.out.keep hb15)
                have D_w15 := hid (D_w14.out.keep hb15)
                have B_w15 := hid (B_w14.out.keep hb15)
                have E1_w15 := hid (E1_w14.out.keep hb15)
                have E2_w15 := hid (E2_w14.out.keep hb15)
                have G1_w15 := hid hp15
                clear hb15 hp15
                go_wp2_with fail
                refine ((sLegalFirings_u (ns : Int) _ _ L d _ L_w15.out D_w15.out).mono fun e w' h => h.li HLG.out).mono ?_
                rintro e w16 ⟨a16, n16, c16, rfl, hp16, hb16⟩
                have HBw16 := hid (HBw15.out.trans (hb16.mono HBw15.out.size))
                have R1_w16 := hid (R1_w15.out.keep hb16)
                have L_w16 := hid (L_w15.out.keep hb16)
                have D_w16 := hid (D_w15.out.keep hb16)
                have B_w16 := hid (B_w15.out.keep hb16)
                have E1_w16 := hid (E1_w15.out.keep hb16)
                have E2_w16 := hid (E2_w15.out.keep hb16)
                have G1_w16 := hid (G1_w15.out.keep hb16)
                have G2_w16 := hid hp16
                clear hb16 hp16
                go_wp2_with fail
                refine (sameInts_y _ _ d _ B_w16.out D_w16.out).mono ?_
                rintro e w17 ⟨rfl, hb17⟩
                have HBw17 := hid (HBw16.out.trans (hb17.mono HBw16.out.size))
                have R1_w17 := hid (R1_w16.out.keep hb17)
                have L_w17 := hid (L_w16.out.keep hb17)
                have D_w17 := hid (D_w16.out.keep hb17)
                have B_w17 := hid (B_w16.out.keep hb17)
                have E1_w17 := hid (E1_w16.out.keep hb17)
                have E2_w17 := hid (E2_w16.out.keep hb17)
                have G1_w17 := hid (G1_w16.out.keep hb17)
                have G2_w17 := hid (G2_w16.out.keep hb17)
                clear hb17
                go_wp2_with fail
                refine (sameInts_y _ _ NEG _ E1_w17.out E2_w17.out).mono ?_
                rintro e w18 ⟨rfl, hb18⟩
                have HBw18 := hid (HBw17.out.trans (hb18.mono HBw17.out.size))
                have R1_w18 := hid (R1_w17.out.keep hb18)
                have L_w18 := hid (L_w17.out.keep hb18)
                have D_w18 := hid (D_w17.out.keep hb18)
                have E1_w18 := hid (E1_w17.out.keep hb18)
                have E2_w18 := hid (E2_w17.out.keep hb18)
                have G1_w18 := hid (G1_w17.out.keep hb18)
                have G2_w18 := hid (G2_w17.out.keep hb18)
                clear hb18
                go_wp2_with fail
                refine (sameInts_y _ _ LEG _ G1_w18.out G2_w18.out).mono ?_
                rintro e w19 ⟨rfl, hb19⟩
                have HBw19 := hid (HBw18.out.trans (hb19.mono HBw18.out.size))
                have R1_w19 := hid (R1_w18.out.keep hb19)
                have L_w19 := hid (L_w18.out.keep hb19)
                have D_w19 := hid (D_w18.out.keep hb19)
                have E2_w19 := hid (E2_w18.out.keep hb19)
                have G1_w19 := hid (G1_w18.out.keep hb19)
                have G2_w19 := hid (G2_w18.out.keep hb19)
                clear hb19
                have HDL3 := hid (rints_lst D_w19.out HDLN.out)
                obtain ⟨gd, od, cd2, he3, _, _, hdc⟩ := ri_open HDL3.out (by omega)
                simp only [Value.slice.injEq] at he3
                obtain ⟨rfl, _, rfl⟩ := he3
                have HDC := hid hdc
                clear hdc HDL3
                go_wp2
                go_loopg [257] (ns + 1) (fun gk iv wr => ∃ i : Nat, iv = .int .i64 i ∧ i ≤ ns ∧ gk = ns + 1 - i ∧ w19 = wr)
                case atStart => exact ⟨0, rfl, Nat.zero_le _, rfl, rfl⟩
                case round =>
                  obtain ⟨i, rfl, hi, rfl, rfl⟩ := hrel
                  by_cases hlt : i < ns
                  · have hltz : (i : Int) < (ns : Int) := by omega
                    have hi8 : i ≤ 8 := by omega
                    have e1 := HDC.out i hlt
                    obtain ⟨y, hy⟩ : ∃ y, d.getD i 0 = y := ⟨_, rfl⟩
                    rw [hy] at e1
                    have h1 := debt_at ns d hlt hy
                    rw [HNEG.out] at h1
                    have H1 := hid h1
                    have h2 := fun h => debt_legal hG hlt hy h
                    rw [HLEG.out] at h2
                    have H2 := hid h2
                    clear h1 h2 hy
                    by_cases hlo : y < 0
                    · have hld : decide (y < 0) = true := decide_eq_true hlo
                      go_wp2_with fail
                      refine (pIn_c _ NEG (i : Int) _ E2_w19.out).mono ?_
                      rintro e w' ⟨rfl, rfl⟩
                      rw [H1.out, hld]
                      go_wp2_with fail
                      refine (pIn_c _ NEG (i : Int) _ E2_w19.out).mono ?_
                      rintro e w' ⟨rfl, rfl⟩
                      rw [H1.out, hld]
                      go_wp2_with fail
                      refine (pIn_c _ LEG (i : Int) _ G2_w19.out).mono ?_
                      rintro e w' ⟨rfl, rfl⟩
                      rw [H2.out hlo]
                      go_wp2
                      go_roundg (ns + 1 - (i + 1))
                      case rel => exact ⟨i + 1, by go_num, by omega, rfl, rfl⟩
                      case measure => omega
                    · have hld : decide (y < 0) = false := decide_eq_false hlo
                      go_wp2_with fail
                      refine (pIn_c _ NEG (i : Int) _ E2_w19.out).mono ?_
                      rintro e w' ⟨rfl, rfl⟩
                      rw [H1.out, hld]
                      go_wp2_with fail
                      refine (pIn_c _ NEG (i : Int) _ E2_w19.out).mono ?_
                      rintro e w' ⟨rfl, rfl⟩
                      rw [H1.out, hld]
                      go_wp2
                      go_roundg (ns + 1 - (i + 1))
                      case rel => exact ⟨i + 1, by go_num, by omega, rfl, rfl⟩
                      case measure => omega
                  · obtain rfl : ns = i := by omega
                    clear HDC
                    have hn9 : n16 = LEG.length := by
                      obtain ⟨a9, c9, he9⟩ := (G2_w19.out).form
                      simp only [Value.slice.injEq] at he9
                      exact he9.2.1
                    subst hn9
                    have hl8 : LEG.length ≤ 8 := by rw [← HLEG.out]; have := setL_len (fun v => decide (valV ns L v ≤ d.getD v 0)) ns; omega
                    go_wp2
                    go_loopg [281] (LEG.length + 1) (fun gk iv wr => ∃ i : Nat, iv = .int .i64 i ∧ i ≤ LEG.length ∧ gk = LEG.length + 1 - i ∧ Below w19.heap.size w19 wr)
                    case atStart => exact ⟨0, rfl, Nat.zero_le _, rfl, Below.refl _ _⟩
                    case round =>
                      obtain ⟨i, rfl, hi, rfl, hbr⟩ := hrel
                      have HBR := hid hbr
                      clear hbr
                      obtain ⟨wr, rfl⟩ : ∃ w' : World, w' = wr := ⟨_, rfl⟩
                      have HBa20 := hid (HBw19.out.trans (HBR.out.mono HBw19.out.size))
                      have R1_a20 := hid (R1_w19.out.keep HBR.out)
                      have L_a20 := hid (L_w19.out.keep HBR.out)
                      have D_a20 := hid (D_w19.out.keep HBR.out)
                      have G2_a20 := hid (G2_w19.out.keep HBR.out)
                      by_cases hlt : i < LEG.length
                      · have hltz : (i : Int) < (LEG.length : Int) := by omega
                        have hi8 : i ≤ 8 := by omega
                        obtain ⟨_, _, he9, _, _, hcc⟩ := G2_a20.out
                        simp only [Value.slice.injEq, true_and] at he9
                        obtain ⟨rfl, rfl⟩ := he9
                        obtain ⟨gg, og, x, rfl, e1, HDx, HXx⟩ := ints_at hcc hlt
                        have hmem : x ∈ LEG := by rw [← HXx.out]; simp [List.getD, List.getElem?_eq_getElem hlt]
                        rw [← HLEG.out] at hmem
                        obtain ⟨v, hv, hvl, rfl⟩ := mem_setL.1 hmem
                        have hvl2 : valV ns L v ≤ d.getD v 0 := of_decide_eq_true hvl
                        obtain ⟨X, bx, hx⟩ : ∃ X b, fvtB (ns : Int) L d (v : Int) = (X, b) := ⟨_, _, rfl⟩
                        have HXV := hid hx
                        have HXL : Hid (bx = true → X.length = ns ∧ 0 ≤ X.getD v 0) := fun hb => fvt_legal HT.out hv hvl2 (by rw [hx, hb])
                        clear hcc HDx HXx hmem hvl hvl2 hx
                        have HZZ : Hid (Since w19 wr) := HBR.out
                        go_wp2_with fail
                        refine ((iFireVertex_u (ns : Int) _ _ L d (v : Int) _ L_a20.out D_a20.out).mono fun e w' h => h.li HXV.out).mono ?_
                        rintro e w21 ⟨a21, n21, c21, rfl, hp21, hb21⟩
                        have HBw21 := hid (HBa20.out.trans (hb21.mono HBa20.out.size))
                        have R1_w21 := hid (R1_a20.out.keep hb21)
                        have L_w21 := hid (L_a20.out.keep hb21)
                        have D_w21 := hid (D_a20.out.keep hb21)
                        have Z_w21 := hid (HZZ.out.keep hb21)
                        have X1_w21 := hid hp21
                        clear hb21 hp21
                        go_wp2_with fail
                        refine ((sFireVertex_u (ns : Int) _ _ L d (v : Int) _ L_w21.out D_w21.out).mono fun e w' h => h.li HXV.out).mono ?_
                        rintro e w22 ⟨a22, n22, c22, rfl, hp22, hb22⟩
                        have HBw22 := hid (HBw21.out.trans (hb22.mono HBw21.out.size))
                        have R1_w22 := hid (R1_w21.out.keep hb22)
                        have L_w22 := hid (L_w21.out.keep hb22)
                        have D_w22 := hid (D_w21.out.keep hb22)
                        have Z_w22 := hid (Z_w21.out.keep hb22)
                        have X1_w22 := hid (X1_w21.out.keep hb22)
                        have X2_w22 := hid hp22
                        clear hb22 hp22
                        cases bx
                        · go_wp2_with fail
                          refine (sameInts_y _ _ X _ X1_w22.out X2_w22.out).mono ?_
                          rintro e w23 ⟨rfl, hb23⟩
                          have HBw23 := hid (HBw22.out.trans (hb23.mono HBw22.out.size))
                          have R1_w23 := hid (R1_w22.out.keep hb23)
                          have L_w23 := hid (L_w22.out.keep hb23)
                          have D_w23 := hid (D_w22.out.keep hb23)
                          have Z_w23 := hid (Z_w22.out.keep hb23)
                          have X1_w23 := hid (X1_w22.out.keep hb23)
                          have X2_w23 := hid (X2_w22.out.keep hb23)
                          clear hb23
                          go_wp2
                          go_roundg (LEG.length + 1 - (i + 1))
                          case rel => exact ⟨i + 1, by go_num, by omega, rfl, Z_w23.out⟩
                          case measure => omega
                        · go_wp2_with fail
                          refine (sameInts_y _ _ X _ X1_w22.out X2_w22.out).mono ?_
                          rintro e w23 ⟨rfl, hb23⟩
                          have HBw23 := hid (HBw22.out.trans (hb23.mono HBw22.out.size))
                          have R1_w23 := hid (R1_w22.out.keep hb23)
                          have L_w23 := hid (L_w22.out.keep hb23)
                          have D_w23 := hid (D_w22.out.keep hb23)
                          have Z_w23 := hid (Z_w22.out.keep hb23)
                          have X1_w23 := hid (X1_w22.out.keep hb23)
                          have X2_w23 := hid (X2_w22.out.keep hb23)
                          clear hb23
                          obtain ⟨hxl, hx0⟩ := HXL.out (by first | rfl | trivial)
                          obtain ⟨_, _, he9, _, _, hcc⟩ := X2_w23.out
                          simp only [Value.slice.injEq] at he9
                          obtain ⟨rfl, hnx, rfl⟩ := he9
                          obtain ⟨gx, ox, rfl, e2⟩ := hcc v (by omega)
                          obtain ⟨z, hz⟩ : ∃ z, X.getD v 0 = z := ⟨_, rfl⟩
                          rw [hz] at e2 hx0
                          have hnz : ¬ (z < 0) := by omega
                          have hnzd : decide (z < 0) = false := decide_eq_false hnz
                          obtain rfl : ns = n22 := by omega
                          have hvz : (v : Int) < (ns : Int) := by omega
                          have hv8 : v ≤ 8 := by omega
                          clear hcc hz hxl hnx
                          go_wp2
                          go_roundg (LEG.length + 1 - (i + 1))
                          case rel => exact ⟨i + 1, by go_num, by omega, rfl, Z_w23.out⟩
                          case measure => omega
                      · obtain rfl : i = LEG.length := by omega
                        as_aux_lemma =>
                          go_wp2_with fail
                          refine (DrawFireSet_c _ x1 _ R1_a20.out).mono ?_
                          rintro e w21 ⟨k, vM, M, vx, x, vy, y, rfl, hk1, hk9, hml, hxl, hyl, hM, hX, hY, hb21⟩
                          have HBw21 := hid (HBa20.out.trans (hb21.mono HBa20.out.size))
                          have M_w21 := hid hM
                          have X_w21 := hid hX
                          have Y_w21 := hid hY
                          obtain ⟨am, cm, rfl⟩ := hM.form
                          obtain ⟨ax, nx, cx, rfl⟩ := hX.form3
                          obtain ⟨ay, ny, cy, rfl⟩ := hY.form3
                          obtain ⟨Z, bz, hz⟩ : ∃ Z b, fstB k M x y = (Z, b) := ⟨_, _, rfl⟩
                          have HZ := hid hz
                          clear hz
                          clear hb21 hM hX hY
                          go_wp2_with fail
                          refine ((iFireSet_u k _ _ M x _ y _ M_w21.out X_w21.out Y_w21.out).mono fun e w' h => h.li HZ.out).mono ?_
                          rintro e w22 ⟨a22, n22, c22, rfl, hp22, hb22⟩
                          have HBw22 := hid (HBw21.out.trans (hb22.mono HBw21.out.size))
                          have M_w22 := hid (M_w21.out.keep hb22)
                          have X_w22 := hid (X_w21.out.keep hb22)
                          have Y_w22 := hid (Y_w21.out.keep hb22)
                          have P_w22 := hid hp22
                          clear hb22 hp22
                          go_wp2_with fail
                          refine ((sFireSet_u k _ _ M x _ y _ M_w22.out X_w22.out Y_w22.out).mono fun e w' h => h.li HZ.out).mono ?_
                          rintro e w23 ⟨a23, n23, c23, rfl, hp23, hb23⟩
                          have HBw23 := hid (HBw22.out.trans (hb23.mono HBw22.out.size))
                          have M_w23 := hid (M_w22.out.keep hb23)
                          have X_w23 := hid (X_w22.out.keep hb23)
                          have Y_w23 := hid (Y_w22.out.keep hb23)
                          have P_w23 := hid (P_w22.out.keep hb23)
                          have Q_w23 := hid hp23
                          clear hb23 hp23
                          cases bz
                          · go_wp2_with fail
                            refine (sameInts_y _ _ Z _ P_w23.out Q_w23.out).mono ?_
                            rintro e w24 ⟨rfl, hb24⟩
                            have HBw24 := hid (HBw23.out.trans (hb24.mono HBw23.out.size))
                            have P_w24 := hid (P_w23.out.keep hb24)
                            have Q_w24 := hid (Q_w23.out.keep hb24)
                            clear hb24
                            go_wp2
                            go_ret
                            exact ⟨rfl, HBw24.out⟩
                          · go_wp2_with fail
                            refine (sameInts_y _ _ Z _ P_w23.out Q_w23.out).mono ?_
                            rintro e w24 ⟨rfl, hb24⟩
                            have HBw24 := hid (HBw23.out.trans (hb24.mono HBw23.out.size))
                            have P_w24 := hid (P_w23.out.keep hb24)
                            have Q_w24 := hid (Q_w23.out.keep hb24)
                            clear hb24
                            go_wp2
                            go_ret
                            exact ⟨rfl, HBw24.out⟩

set_option maxRecDepth 100000 in
theorem fnFirings_lifted (os : Os) (started : os.Started) (H : Type) (enc : TypeId × Value → H) :
    ReturnsInHanded {} Try.checked os 4 .any (Rows.fnFiringsSpec.pre6 enc Try.prog Try.f4 Rows.fnFiringsRow.domain false) (Rows.fnFiringsSpec.post enc Try.prog Try.f4 false true false false) := by
  refine returnsInHanded_of_change (C := Try.checked) Try.own' started (by kernel_rfl) Try.func4
    (ChangeSpec.witness6 (enc := enc) (C := Try.checked) false ⟨#[], #[.slice none 0 0, .slice none 0 0], []⟩ 8 (by kernel_rfl) (by kernel_rfl) (by kernel_rfl) (by kernel_rfl)) ?_
  intro W base args ds gs before hval0 hW hcnd _
  have hval : ∀ (j : Nat) t v, Try.f4.params[j]? = some t → args[j]? = some v → Value.okWide Try.prog W .any base t v := hval0
  have hW' := hW
  obtain ⟨p, q, hA0, hV, rfl, hfz, hnd⟩ := hW
  have hA : DataW.TrodAll enc Try.prog W 0 (fun _ => true) true Try.f4.params.toList args.toList ds p := hA0
  rw [Try.params4] at hA hval
  obtain ⟨v0, vs0, d0, ds0, p0, q0, hargs, rfl, rfl, h0, t0⟩ := trodAll_cons hA
  obtain ⟨v1, vs1, d1, ds1, p1, q1, rfl, rfl, rfl, h1, t1⟩ := trodAll_cons t0
  obtain ⟨rfl, rfl, rfl⟩ := trodAll_nil t1
  obtain rfl : args = #[v0, v1] := by cases args; simp_all
  obtain ⟨rfl, rfl⟩ := trodVars_none hV
  have k0 := h0
  have lt0 := trod_blocks k0
  obtain ⟨x0, r0, i0⟩ := open_rbytes (hval 0 35 v0 rfl rfl) h0
  have k1 := h1
  have lt1 := trod_blocks k1
  obtain ⟨x1, r1, i1⟩ := open_rbytes (hval 1 35 v1 rfl rfl) h1
  clear hA0 hval0
  refine (FnFirings_c v0 x0 v1 x1 W r0 r1).mono fun e W' ⟨he, bel⟩ => ?_
  subst he
  exact ⟨_, rfl, _, _, _, [], _, [], hW', trodAll_mk1 (shut_bool Try.underlying4 _), (trodAll_cons_mk (Below.trod Try.laidOut' (by kernel_rfl) (of_decide_eq_true (by kernel_rfl)) k0 bel lt0) (trodAll_cons_mk (Below.trod Try.laidOut' (by kernel_rfl) (of_decide_eq_true (by kernel_rfl)) k1 bel lt1) trodAll_mk0)), rfl, bel.frame _, fun h => by cases h⟩

theorem fnFirings_holds : Rows.FnFiringsSaid :=
  OpenClaim.holds_of_wide 4 Try.f4 rfl rfl rfl rfl rfl rfl rfl ⟨rfl, rfl, rfl, rfl, rfl⟩ rfl rfl rfl rfl rfl (by kernel_rfl) Try.func4 (by kernel_rfl)
    (of_decide_eq_true (by kernel_rfl)) (by unfold Func.isWrapper; first | (rw [if_pos (by decide +kernel)]; kernel_rfl) | (rw [if_neg (by decide +kernel)]; exact ⟨rfl, rfl⟩))
    (fun os started H enc _ => fnFirings_lifted os started H enc)

end Go.Proofs.Ytlehhfmbdcmpoaa
