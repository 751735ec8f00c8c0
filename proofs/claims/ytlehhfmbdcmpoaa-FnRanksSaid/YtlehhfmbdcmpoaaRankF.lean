/- RankBalance: both. -/
import Derived.Test.YtlehhfmbdcmpoaaRankE
namespace Go.Proofs.Ytlehhfmbdcmpoaa
open Go.RowKit
open Go.Lib (hid)

theorem results_tmp5 {fn : Func} {t u v x y : Tmp} (h : fn.results = #[.tmp t, .tmp u, .tmp v, .tmp x, .tmp y]) (tmps : Array Value) (P : Program) (w : World) :
    (results fn tmps).run P w = .ok (.tuple #[tmps.getD t undef, tmps.getD u undef, tmps.getD v undef, tmps.getD x undef, tmps.getD y undef]) w := by
  simp [results, h]
/-- four numbers and a truth value -/
def RetZ4B (w : World) (p : Int × Int × Int × Int × Bool) (e : Ending) (w' : World) : Prop := e = .returned (.tuple #[.int .i64 p.1, .int .i64 p.2.1, .int .i64 p.2.2.1, .int .i64 p.2.2.2.1, .bool p.2.2.2.2]) ∧ Below w.heap.size w w'
/-- what RankBalance returns -/
noncomputable def balB (n : Int) (L : List Lnk) (d : List Int) : Int × Int × Int × Int × Bool := if (dualB n L d).2 then (rkZ n.toNat L (fun i => d.getD i 0), rkZ n.toNat L (dualF n.toNat L d), d.sum, 1 - n + edgL L, true) else (0, 0, 0, 0, false)
theorem balB_yes {n : Int} {L : List Lnk} {d : List Int} (h : (dualB n L d).2 = true) : balB n L d = (rkZ n.toNat L (fun i => d.getD i 0), rkZ n.toNat L (dualF n.toNat L d), d.sum, 1 - n + edgL L, true) := by unfold balB; rw [h]; rfl
theorem balB_no {n : Int} {L : List Lnk} {d : List Int} (h : (dualB n L d).2 = false) : balB n L d = (0, 0, 0, 0, false) := by unfold balB; rw [h]; rfl
theorem small_of8 {n : Nat} {f : Nat → Int} (h : raCB (n : Int) (lst n f) = true) : small8 n f ∧ sumN n f ≤ 8 := by
  refine ⟨fun i hi => (by have := (raCB_parts h).2 _ (mem_lst.2 ⟨i, hi, rfl⟩); omega), ?_⟩
  unfold raCB at h
  simp only [Bool.and_eq_true, decide_eq_true_eq] at h
  rw [← lst_sum]; exact h.2.2
theorem smallI_of {d : List Int} {m : Nat} (h : d.length = m) (hm : m ≤ 8) (hs : small8 m (fun i => d.getD i 0)) : smallI d := by
  rw [lst_of h]
  refine ⟨by rw [lst_len]; omega, fun x hx => ?_⟩
  obtain ⟨i, hi, rfl⟩ := mem_lst.1 hx
  have := hs i hi
  dsimp only at this
  omega

set_option maxRecDepth 100000 in
set_option maxHeartbeats 1000000 in
theorem sRankBalance_u (n : Int) (v : Value) (L : List Lnk) (u : Value) (d : List Int) (w : World) (h : RLinks w v L) (hd : RInts w u d) :
    Calls Try.prog 76 #[.int .i64 n, v, u] w (RetZ4B w (balB n L d)) := by
  have HR := hid h
  have HD := hid hd
  obtain ⟨a, cap, rfl⟩ := h.form
  obtain ⟨a2, cap2, rfl, _, _, hc⟩ := hd
  clear h hc
  rcases Bool.eq_false_or_eq_true (dualB n L d).2 with t | t
  · have hn := dual_small t
    obtain ⟨m, hm⟩ : ∃ m : Nat, n.toNat = m := ⟨_, rfl⟩
    rw [hm] at hn
    subst hn
    obtain ⟨hG, hcn, _, hl, ha, hca⟩ := dual_parts t
    obtain ⟨m2, hm2, _, hdl, hs8, h8, _, _⟩ := ask_parts ha
    have hmm : m2 = m := by omega
    subst hmm
    have hbal := balB_yes t
    rw [Int.toNat_natCast] at hbal
    have hdu := small_of8 hca
    rw [← sum_getD hdl] at h8
    have HBAL := hid hbal
    have HX := hid (And.intro hs8 (And.intro h8 hdu))
    have HL := hid hl
    have HDL := hid (rints_lst HD.out hdl)
    have HSI := hid (smallI_of hdl hG.n8 hs8)
    clear hbal hl hm hm2 hdl hs8 h8 hdu ha hca
    go_enter Try.func76, Try.ntmps76
    go_wp2_with fail
    refine (sDualChips_u (m2 : Int) _ L _ d _ HR.out HD.out).mono ?_
    rintro e w1 ⟨q, rfl, hF, hb⟩
    rw [t]
    rw [HL.out] at hF
    have HF := hid hF.r
    have HB := hid hb
    have HR1 := hid (HR.out.keep hb)
    have HD1 := hid (HDL.out.keep hb)
    obtain ⟨a3, n3, c3, rfl⟩ := hF.form3
    clear hF hb
    go_wp2_with fail
    refine (raRank_c m2 _ _ L _ _ HR1.out hG hcn HD1.out HX.out.1 HX.out.2.1).mono ?_
    rintro e w2 ⟨rfl, hb2⟩
    have HB2 := hid (HB.out.trans (hb2.mono HB.out.size))
    have HF2 := hid (HF.out.keep hb2)
    have HR2 := hid (HR1.out.keep hb2)
    clear hb2
    go_wp2_with fail
    refine (raRank_c m2 _ _ L _ _ HR2.out hG hcn HF2.out HX.out.2.2.1 HX.out.2.2.2).mono ?_
    rintro e w3 ⟨rfl, hb3⟩
    have HB3 := hid (HB2.out.trans (hb3.mono HB2.out.size))
    have HR3 := hid (HR2.out.keep hb3)
    have HD3 := hid (HD.out.keep HB3.out)
    clear hb3
    go_wp2_with fail
    refine (chSum_c _ d _ HD3.out HSI.out).mono ?_
    rintro e w' ⟨rfl, rfl⟩
    go_wp2_with fail
    refine (chGenus_c m2 _ L _ HR3.out hG).mono ?_
    rintro e w4 ⟨rfl, hb4⟩
    have HB4 := hid (HB3.out.trans (hb4.mono HB3.out.size))
    clear hb4
    have HV : Hid ((balB (m2 : Int) L d) = (rkZ m2 L (fun i => d.getD i 0), rkZ m2 L (dualF m2 L d), d.sum, 1 - (m2 : Int) + edgL L, true)) := HBAL.out
    go_wp2
    (try simp only [Exit.inBlock, Exit.then]); refine bodyPost_ret (results_tmp5 rfl _ _ _) rfl ?_
    exact ⟨by rw [HV.out]; rfl, HB4.out⟩
  · have HE := hid (balB_no t)
    go_enter Try.func76, Try.ntmps76
    go_wp2_with fail
    refine (sDualChips_u n _ L _ d _ HR.out HD.out).mono ?_
    rintro e w1 ⟨q, rfl, hF, hb⟩
    rw [t]
    obtain ⟨a3, n3, c3, rfl⟩ := hF.form3
    clear hF
    go_wp2
    (try simp only [Exit.inBlock, Exit.then]); refine bodyPost_ret (results_tmp5 rfl _ _ _) rfl ?_
    exact ⟨by rw [HE.out]; rfl, hb⟩

set_option maxRecDepth 100000 in
set_option maxHeartbeats 1000000 in
theorem iRankBalance_u (n : Int) (v : Value) (L : List Lnk) (u : Value) (d : List Int) (w : World) (h : RLinks w v L) (hd : RInts w u d) :
    Calls Try.prog 75 #[.int .i64 n, v, u] w (RetZ4B w (balB n L d)) := by
  have HR := hid h
  have HD := hid hd
  obtain ⟨a, cap, rfl⟩ := h.form
  obtain ⟨a2, cap2, rfl, _, _, hc⟩ := hd
  clear h hc
  rcases Bool.eq_false_or_eq_true (raAB n L d) with t1 | t1
  · obtain ⟨m, hm, hn, hdl, hs8, h8, hG, hcn⟩ := ask_parts t1
    subst hn
    have HT := hid t1
    have hdual : (dualB (m : Int) L d).2 = raCB (m : Int) (lst m (dualF m L d)) := by
      rcases Bool.eq_false_or_eq_true (raCB (m : Int) (lst (m : Int).toNat (dualF (m : Int).toNat L d))) with t2 | t2
      · rw [dualB_yes t1 t2]; rw [Int.toNat_natCast] at t2; exact t2.symm
      · rw [dualB_no2 t2]; rw [Int.toNat_natCast] at t2; exact t2.symm
    have HDU := hid hdual
    rw [← sum_getD hdl] at h8
    have HX := hid (And.intro hs8 h8)
    have HDL := hid (rints_lst HD.out hdl)
    have HSI := hid (smallI_of hdl hG.n8 hs8)
    have hn8 := hG.n8
    have heb := edgL_bound hG
    clear hm t1 hdual hdl hs8 h8
    go_enter Try.func75, Try.ntmps75
    go_wp2_with fail
    refine (withDual_yes m _ _ L d _ HR.out HD.out HT.out).mono ?_
    rintro e w1 ⟨g, q, rfl, hg, hF, hb1⟩
    have HF := hid hF.r
    have HG1 := hid hg
    have HB := hid hb1
    have HD1 := hid (HDL.out.keep hb1)
    obtain ⟨a6, n6, c6, rfl⟩ := hF.form3
    clear hF hb1 hg
    rcases Bool.eq_false_or_eq_true (raCB (m : Int) (lst m (dualF m L d))) with t2 | t2
    · have hbal := balB_yes (HDU.out.trans t2)
      rw [Int.toNat_natCast] at hbal
      have HBAL := hid hbal
      have HY := hid (small_of8 t2)
      rw [t2]
      clear hbal t2
      go_wp2_with fail
      refine (rank_c m _ _ L _ _ HG1.out hG hcn HD1.out HX.out.1 HX.out.2).mono ?_
      rintro e w2 ⟨rfl, hb2⟩
      have HB2 := hid (HB.out.trans (hb2.mono HB.out.size))
      have HF2 := hid (HF.out.keep hb2)
      have HG2 := hid (HG1.out.keep hb2)
      clear hb2
      go_wp2_with fail
      refine (rank_c m _ _ L _ _ HG2.out hG hcn HF2.out HY.out.1 HY.out.2).mono ?_
      rintro e w3 ⟨rfl, hb3⟩
      have HB3 := hid (HB2.out.trans (hb3.mono HB2.out.size))
      have HG3 := hid (HG2.out.keep hb3)
      have HD3 := hid (HD.out.keep HB3.out)
      clear hb3
      go_wp2_with fail
      refine (total_c _ d _ HD3.out HSI.out).mono ?_
      rintro e w' ⟨rfl, rfl⟩
      go_wp2_with fail
      refine (genus_c m _ L _ HG3.out hG).mono ?_
      rintro e w4 ⟨rfl, qq, rfl⟩
      rw [show edgL L - (m : Int) + 1 = 1 - (m : Int) + edgL L by omega]
      go_wp2
      (try simp only [Exit.inBlock, Exit.then]); refine bodyPost_ret (results_tmp5 rfl _ _ _) rfl ?_
      exact ⟨by rw [HBAL.out]; rfl, below_drewN HB3.out _⟩
    · have HE := hid (balB_no (HDU.out.trans t2))
      rw [t2]
      go_wp2
      (try simp only [Exit.inBlock, Exit.then]); refine bodyPost_ret (results_tmp5 rfl _ _ _) rfl ?_
      exact ⟨by rw [HE.out]; rfl, HB.out⟩
  · have HE := hid (balB_no (n := n) (L := L) (d := d) (by rw [dualB_no1 t1]))
    go_enter Try.func75, Try.ntmps75
    go_wp2_with fail
    refine (withDual_no n _ _ L d _ HR.out HD.out t1).mono ?_
    rintro e w1 ⟨rfl, hb1⟩
    go_wp2
    (try simp only [Exit.inBlock, Exit.then]); refine bodyPost_ret (results_tmp5 rfl _ _ _) rfl ?_
    exact ⟨by rw [HE.out]; rfl, hb1⟩

end Go.Proofs.Ytlehhfmbdcmpoaa
