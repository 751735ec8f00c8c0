/- IsRecurrent: the program. -/
import Derived.Test.YtifdhapaonideaaPileI5
import Derived.Test.YtifdhapaonideaaPileS4
namespace Go.Proofs.Ytifdhapaonideaa
open Go.RowKit
open Go.Lib (hid)

set_option maxRecDepth 100000 in
set_option maxHeartbeats 2000000 in
theorem iIsRecurrent_u (n : Int) (v : Value) (L : List Lnk) (q : Int) (u : Value) (d : List Int) (w : World) (h : RLinks w v L) (hd : RInts w u d) :
    Calls Try.prog 20 #[.int .i64 n, v, .int .i64 q, u] w (RetBC w (isrB n L q d)) := by
  have HR := hid h
  have HD := hid hd
  obtain ⟨a, cap, rfl⟩ := h.form
  obtain ⟨a2, cap2, rfl, _, _, hc⟩ := hd
  clear h hc
  obtain ⟨hm1, hal⟩ := rmat_one HD.out
  have HM := hid hm1
  have HAL := hid hal
  clear hm1 hal
  rcases Bool.eq_false_or_eq_true (piAB n L q d) with t1 | t1
  · obtain ⟨m, k, hn, hq, hm, hk, hP, hl, hz, _⟩ := piAB_parts t1
    have HDL := hid (rints_lst HD.out hl)
    have hst := stB_iff hP.good (q := k) (f := fun i => d.getD i 0)
    have hsb : piSB n L q d = stB m L k (fun i => d.getD i 0) := by unfold piSB; rw [t1, hm, hk]; rfl
    have hyes := fun h => isrB_yes (n := n) (L := L) (q := q) (d := d) h
    rw [hm, hk] at hyes
    subst hn
    subst hq
    have HZ := hid hz
    have HST := hid hst
    have HSB := hid hsb
    have HYES := hid hyes
    have HT := hid t1
    clear hm hk hl hz hst hsb hyes t1
    go_enter Try.func20, Try.ntmps20
    go_wp2_with fail
    refine (withPile_yes m k _ _ L d _ (HR.out.keep HAL.out) HM.out HT.out).mono ?_
    rintro e w1 ⟨g, rfl, hg, hb1, _⟩
    obtain ⟨c0, c1, hw2⟩ := tnew w1 (some ⟨g, 0, none⟩) k
    have hg2 := hg.keep hw2
    have hb02 := HAL.out.trans ((hb1.trans (hw2.mono hb1.size)).mono HAL.out.size)
    have HG2 := hid hg2
    have HB2 := hid hb02
    clear hg hb1 hw2 hg2 hb02
    go_wp2_with fail
    refine (isStable_c m k g L _ _ _ HG2.out hP.good (HDL.out.keep HB2.out)).mono ?_
    rintro e w3 ⟨rfl, hb3⟩
    have HG3 := hid (HG2.out.keep hb3)
    have HB3 := hid (HB2.out.trans (hb3.mono HB2.out.size))
    have d0 := (hb3.cell (p := ⟨w1.heap.size, 0, none⟩) (cell_lt c0)).trans c0
    have d1 := (hb3.cell (p := ⟨w1.heap.size, 1, none⟩) (cell_lt c1)).trans c1
    clear hb3 c0 c1
    rcases Bool.eq_false_or_eq_true (stB m L k (fun i => d.getD i 0)) with t | t
    · have HY := hid (HYES.out (HSB.out.trans t))
      rw [t]
      go_wp2_with fail
      refine (isRecurrent_c m k g _ L _ _ hP HG3.out (HDL.out.keep HB3.out) (HZ.out.mono (by decide)) (HST.out.1 t)).mono ?_
      rintro e w4 ⟨rfl, hb4⟩
      have HB4 := hid (HB3.out.trans (hb4.mono HB3.out.size))
      clear hb4 d0 d1
      go_wp2
      go_ret2
      exact ⟨by rw [HY.out]; rfl, HB4.out⟩
    · have HY := hid (isrB_no (HSB.out.trans t))
      rw [t]
      clear d0 d1
      go_wp2
      go_ret2
      exact ⟨by rw [HY.out]; rfl, HB3.out⟩
  · have HE := hid (isrB_no (piSB_no t1))
    go_enter Try.func20, Try.ntmps20
    go_wp2_with fail
    refine (withPile_no n q _ _ L d _ (HR.out.keep HAL.out) HM.out t1).mono ?_
    rintro e w1 ⟨ap, x, rfl, hb1⟩
    have HB := hid (HAL.out.trans ((hb1.alloc hb1.size (.cells #[.pointer ap, .int .i64 x] 54)).mono HAL.out.size))
    clear hb1
    go_wp2
    go_ret2
    exact ⟨by rw [HE.out]; rfl, HB.out⟩

end Go.Proofs.Ytifdhapaonideaa
