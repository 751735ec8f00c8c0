/- RankOfChips: both. -/
import Derived.Test.YtlehhfmbdcmpoaaRankD
namespace Go.Proofs.Ytlehhfmbdcmpoaa
open Go.RowKit
open Go.Lib (hid)

/-- what RankOfChips returns -/
noncomputable def rocB (n : Int) (L : List Lnk) (d : List Int) : Int × Bool := if raAB n L d then (rkZ n.toNat L (fun i => d.getD i 0), true) else (0, false)
theorem rocB_yes {n : Int} {L : List Lnk} {d : List Int} (h : raAB n L d = true) : rocB n L d = (rkZ n.toNat L (fun i => d.getD i 0), true) := by unfold rocB; rw [h]; rfl
theorem rocB_no {n : Int} {L : List Lnk} {d : List Int} (h : raAB n L d = false) : rocB n L d = (0, false) := by unfold rocB; rw [h]; rfl
/-- a number and a truth value -/
def RetZB (w : World) (p : Int × Bool) (e : Ending) (w' : World) : Prop := e = .returned (.tuple #[.int .i64 p.1, .bool p.2]) ∧ Below w.heap.size w w'
theorem sum_getD {d : List Int} {m : Nat} (h : d.length = m) : sumN m (fun i => d.getD i 0) = d.sum := by rw [← lst_sum, ← lst_of h]

set_option maxRecDepth 100000 in
set_option maxHeartbeats 1000000 in
theorem sRankOfChips_u (n : Int) (v : Value) (L : List Lnk) (u : Value) (d : List Int) (w : World) (h : RLinks w v L) (hd : RInts w u d) :
    Calls Try.prog 68 #[.int .i64 n, v, u] w (RetZB w (rocB n L d)) := by
  have HR := hid h
  have HD := hid hd
  obtain ⟨a, cap, rfl⟩ := h.form
  obtain ⟨a2, cap2, rfl, _, _, hc⟩ := hd
  clear h hc
  rcases Bool.eq_false_or_eq_true (raAB n L d) with t1 | t1
  · obtain ⟨m, hm, hn, hl, hs, h8, hG, hcn⟩ := ask_parts t1
    have hy := rocB_yes t1
    have HDL := hid (rints_lst HD.out hl)
    rw [hm] at hy
    rw [← sum_getD hl] at h8
    subst hn
    have HY := hid hy
    have HS := hid (And.intro hs h8)
    clear hy hs hm hl h8
    go_enter Try.func68, Try.ntmps68
    go_wp2_with fail
    refine (raAsked_c _ _ _ L d _ HR.out HD.out).mono ?_
    rintro e w1 ⟨rfl, hb1⟩
    rw [t1]
    have HB1 := hid hb1
    have HR1 := hid (HR.out.keep hb1)
    have HD1 := hid (HDL.out.keep hb1)
    clear hb1
    go_wp2_with fail
    refine (raRank_c m _ _ L _ _ HR1.out hG hcn HD1.out HS.out.1 HS.out.2).mono ?_
    rintro e w2 ⟨rfl, hb2⟩
    have HB2 := hid (HB1.out.trans (hb2.mono HB1.out.size))
    clear hb2
    go_wp2
    go_ret2
    exact ⟨by rw [HY.out]; rfl, HB2.out⟩
  · have HE := hid (rocB_no t1)
    go_enter Try.func68, Try.ntmps68
    go_wp2_with fail
    refine (raAsked_c _ _ _ L d _ HR.out HD.out).mono ?_
    rintro e w1 ⟨rfl, hb1⟩
    rw [t1]
    go_wp2
    go_ret2
    exact ⟨by rw [HE.out]; rfl, hb1⟩

set_option maxRecDepth 100000 in
set_option maxHeartbeats 1000000 in
theorem iRankOfChips_u (n : Int) (v : Value) (L : List Lnk) (u : Value) (d : List Int) (w : World) (h : RLinks w v L) (hd : RInts w u d) :
    Calls Try.prog 67 #[.int .i64 n, v, u] w (RetZB w (rocB n L d)) := by
  have HR := hid h
  have HD := hid hd
  obtain ⟨a, cap, rfl⟩ := h.form
  obtain ⟨a2, cap2, rfl, _, _, hc⟩ := hd
  clear h hc
  rcases Bool.eq_false_or_eq_true (raAB n L d) with t1 | t1
  · obtain ⟨m, hm, hn, hl, hs, h8, hG, hcn⟩ := ask_parts t1
    have hy := rocB_yes t1
    have HDL := hid (rints_lst HD.out hl)
    rw [hm] at hy
    rw [← sum_getD hl] at h8
    subst hn
    have HY := hid hy
    have HS := hid (And.intro hs h8)
    clear hy hs hm hl h8
    go_enter Try.func67, Try.ntmps67
    go_wp2_with fail
    refine (smallGame_yes m _ _ L d _ HR.out HD.out t1).mono ?_
    rintro e w1 ⟨g, rfl, hg, hb1⟩
    have HB1 := hid hb1
    have HG1 := hid hg
    have HD1 := hid (HDL.out.keep hb1)
    clear hb1 hg
    go_wp2_with fail
    refine (rank_c m _ _ L _ _ HG1.out hG hcn HD1.out HS.out.1 HS.out.2).mono ?_
    rintro e w2 ⟨rfl, hb2⟩
    have HB2 := hid (HB1.out.trans (hb2.mono HB1.out.size))
    clear hb2
    go_wp2
    go_ret2
    exact ⟨by rw [HY.out]; rfl, HB2.out⟩
  · have HE := hid (rocB_no t1)
    go_enter Try.func67, Try.ntmps67
    go_wp2_with fail
    refine (smallGame_no n _ _ L d _ HR.out HD.out t1).mono ?_
    rintro e w1 ⟨g, rfl, hb1⟩
    go_wp2
    go_ret2
    exact ⟨by rw [HE.out]; rfl, hb1⟩

end Go.Proofs.Ytlehhfmbdcmpoaa
