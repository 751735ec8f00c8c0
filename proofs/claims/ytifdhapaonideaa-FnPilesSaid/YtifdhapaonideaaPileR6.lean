/- Piles: OrderOfPile of the program. -/
import Derived.Test.YtifdhapaonideaaPileR5
namespace Go.Proofs.Ytifdhapaonideaa
open Go.RowKit
open Go.Lib (hid)

set_option maxRecDepth 100000 in
set_option maxHeartbeats 4000000 in
theorem withRecN_c (n q : Int) (v u : Value) (L : List Lnk) (d : List Int) (w : World) (h : RLinks w v L) (hd : RInts w u d) (hs : piAB n L q d = false) :
    Calls Try.prog 48 #[.int .i64 n, v, .int .i64 q, u] w (RetNoT w) := by
  have HR := hid h
  have HD := hid hd
  obtain ⟨a, cap, rfl⟩ := h.form
  obtain ⟨a2, cap2, rfl, _, _, hc⟩ := hd
  have hal : Below w.heap.size w (w.alloc (.cells #[.pointer none, .int .i64 0] 54)) := (Below.refl _ _).alloc (Nat.le_refl _) _
  have HAL := hid hal
  obtain ⟨hm1, hal2⟩ := rmat_one (HD.out.keep hal)
  rw [World.size_alloc] at hm1
  have HM := hid hm1
  have hlow : Below w.heap.size w ((w.alloc (.cells #[.pointer none, .int .i64 0] 54)).alloc (.cells #[.slice a2 d.length cap2] 25)) := hal.trans (hal2.mono (by simp))
  have HLOW := hid hlow
  have HAL2 := hid hal2
  clear h hc hal hal2 hm1 hlow
  go_enter Try.func48, Try.ntmps48
  go_wp2_with fail
  refine (withPile_no n q _ _ L d _ (HR.out.keep HLOW.out) HM.out hs).mono ?_
  rintro e w1 ⟨ap, x, rfl, hb1⟩
  obtain ⟨c0, c1, hw2⟩ := tnew w1 ap x
  obtain ⟨w2, hww⟩ : ∃ w2 : World, w2 = (w1.alloc (.cells #[.pointer ap, .int .i64 x] 54)) := ⟨_, rfl⟩
  rw [← hww] at hw2 c0 c1
  have hb02 := HAL2.out.trans ((hb1.trans (hw2.mono hb1.size)).mono HAL2.out.size)
  obtain ⟨k1, k2, k3, k4⟩ := tbox rfl rfl hb02
  have HWW := hid hww
  have HEND := hid (fun v u => tbox_none rfl hb02 v u)
  have hz01 : ((w.alloc (.cells #[.pointer none, .int .i64 0] 54)).alloc (.cells #[.slice a2 d.length cap2] 25)).heap.size = w.heap.size + 2 := by simp
  have hz1 : w.heap.size + 1 ≤ w1.heap.size := by have := hb1.size; omega
  obtain ⟨BX, hBX⟩ : ∃ BX, w1.heap.size = BX := ⟨_, rfl⟩
  rw [hBX] at c0 c1
  have hne : BX ≠ w.heap.size := by omega
  have hne' : w.heap.size ≠ BX := fun e => hne e.symm
  have HE2 : Hid (Below w.heap.size w ((w2.setCell ⟨w.heap.size, 0, none⟩ (.pointer ap)).setCell ⟨w.heap.size, 1, none⟩ (.int .i64 x)).drew) := by
    have := HEND.out (.pointer ap) (.int .i64 x)
    exact ⟨this.os, this.tape, this.output, this.size, this.block⟩
  clear hww hb1 hw2 hb02 hz01
  go_upto_region 2 with fail
  rw [← HWW.out]
  clear hBX hz1
  first
    | (go_region_with (fail))
    | fail
  all_goals
    go_wp2
    refine bodyPost_ret (v := .tuple #[.agg #[.pointer ap, .int .i64 x], .bool false]) (by simp [results, Try.results48, go_sem, k1, k2]) rfl ?_
    exact ⟨_, _, rfl, HE2.out⟩

theorem withRec_no (n q : Int) (v u : Value) (L : List Lnk) (d : List Int) (w : World) (h : RLinks w v L) (hd : RInts w u d) (hs : piRB n L q d = false) :
    Calls Try.prog 48 #[.int .i64 n, v, .int .i64 q, u] w (RetNoT w) := by
  rcases rb_split hs with h1 | ⟨h1, h2⟩ | ⟨h1, h2, h3⟩
  · exact withRecN_c n q v u L d w h hd h1
  · obtain ⟨m, k, hn, hq, hm, hk, _⟩ := piAB_parts h1
    rw [hm, hk] at h2
    subst hn
    subst hq
    exact withRecS_c m k v u L d w h hd h1 h2
  · obtain ⟨m, k, hn, hq, hm, hk, _⟩ := piAB_parts h1
    rw [hm, hk] at h2 h3
    subst hn
    subst hq
    exact withRecR_c m k v u L d w h hd h1 h2 h3
theorem withRec_yes (m k : Nat) (v u : Value) (L : List Lnk) (d : List Int) (w : World) (h : RLinks w v L) (hd : RInts w u d) (hs : piRB (m : Int) L (k : Int) d = true) :
    Calls Try.prog 48 #[.int .i64 m, v, .int .i64 k, u] w (RetT w m L k) := by
  unfold piRB piSB at hs
  simp only [Bool.and_eq_true, Int.toNat_natCast] at hs
  exact withRecY_c m k v u L d w h hd hs.1.1 hs.1.2 hs.2

set_option maxRecDepth 100000 in
set_option maxHeartbeats 2000000 in
theorem iOrderOfPile_u (n : Int) (v : Value) (L : List Lnk) (q : Int) (u : Value) (d : List Int) (w : World) (h : RLinks w v L) (hd : RInts w u d) :
    Calls Try.prog 18 #[.int .i64 n, v, .int .i64 q, u] w (RetZC w (orpB n L q d)) := by
  have HR := hid h
  have HD := hid hd
  obtain ⟨a, cap, rfl⟩ := h.form
  obtain ⟨a2, cap2, rfl, _, _, hc⟩ := hd
  clear h hc
  rcases Bool.eq_false_or_eq_true (piRB n L q d) with t1 | t1
  · obtain ⟨m, k, hn, hq, hm, hk, hP, hl, hz, hr, _⟩ := piRB_parts t1
    have HDL := hid (rints_lst HD.out hl)
    have hy := orpB_yes t1
    obtain ⟨o1, o2, o3⟩ := ord_facts hP hz hr
    rw [hm, hk] at hy
    obtain ⟨f, hf⟩ : ∃ f : Nat → Int, (fun i => d.getD i 0) = f := ⟨_, rfl⟩
    rw [hf] at hy hz o1 o2 o3 HDL
    obtain ⟨O, hO⟩ : ∃ O, ordN m L k f = O := ⟨_, rfl⟩
    rw [hO] at hy o1 o2 o3
    subst hn
    subst hq
    have HY := hid hy
    have HZ := hid hz
    have HO1 := hid o1
    have HO2 := hid o2
    have HO3 := hid o3
    have hmm := hP.n1
    have HT := hid t1
    clear hm hk hy hz hr hf hO o1 o2 o3 hl t1
    go_enter Try.func18, Try.ntmps18
    go_wp2_with fail
    refine (withRec_yes m k _ _ L d _ HR.out HD.out HT.out).mono ?_
    rintro e w1 ⟨g, rfl, hg, hb1, -⟩
    obtain ⟨c0, c1, hw2⟩ := tnew w1 (some ⟨g, 0, none⟩) k
    have HG := hid (hg.keep hw2)
    have HB1 := hid (hb1.trans (hw2.mono hb1.size))
    clear hg hb1 hw2
    go_wp2_with fail
    refine (identity_c hP _ HG.out).mono ?_
    rintro e w3 ⟨ui, rfl, hF, hb3⟩
    have HF := hid hF.r
    have HG3 := hid (HG.out.keep hb3)
    have HB3 := hid (HB1.out.trans (hb3.mono HB1.out.size))
    have HC := hid (And.intro ((hb3.cell (p := ⟨w1.heap.size, 0, none⟩) (cell_lt c0)).trans c0) ((hb3.cell (p := ⟨w1.heap.size, 1, none⟩) (cell_lt c1)).trans c1))
    obtain ⟨a4, n4, c4, rfl⟩ := hF.form3
    have hsz3 := HB3.out.size
    clear hF hb3 c0 c1
    go_wp2
    go_loopg [13, 14] (O + 1) (fun gk sv cv wr => ∃ (j : Nat) (a : Option Addr) (n c : Nat), sv = .slice a n c ∧ cv = .int .i64 ((j : Int) + 1) ∧ j ≤ O ∧ gk = O + 1 - j ∧ RInts wr (.slice a n c) (lst m (Gr.ms (grL m L hP.good) k f j)) ∧ Below w3.heap.size w3 wr)
    case atStart => exact ⟨0, _, _, _, rfl, rfl, Nat.zero_le _, rfl, HDL.out.keep HB3.out, Below.refl _ _⟩
    case round =>
      obtain ⟨j, a3, n3, c3, rfl, rfl, hj, rfl, hx, hb⟩ := hrel
      have HX := hid hx
      have HB := hid hb
      clear hx hb
      go_wp2_with fail
      refine (equal_c _ _ _ _ _ HX.out (HF.out.keep HB.out)).mono ?_
      rintro e w4 ⟨rfl, nd, rfl⟩
      have HB4 := hid (HB3.out.trans ((below_drewN HB.out nd).mono hsz3))
      by_cases hjo : j = O
      · have h1 : decide (lst m (Gr.ms (grL m L hP.good) k f j) = lst m (idF m L k hP.good)) = true := decide_eq_true (by rw [hjo]; exact HO1.out)
        rw [h1]
        have HJ := hid hjo
        clear hjo h1
        go_wp2
        go_ret2
        exact ⟨by rw [HY.out, ← HJ.out]; rfl, HB4.out⟩
      · have h1 : decide (lst m (Gr.ms (grL m L hP.good) k f j) = lst m (idF m L k hP.good)) = false := decide_eq_false (HO2.out j (by omega))
        rw [h1]
        clear h1
        have hbd := below_drewN HB.out nd
        have HBD := hid hbd
        have e0 := (hbd.cell (p := ⟨w1.heap.size, 0, none⟩) (cell_lt HC.out.1)).trans HC.out.1
        have e1 := (hbd.cell (p := ⟨w1.heap.size, 1, none⟩) (cell_lt HC.out.2)).trans HC.out.2
        have f1 : IntKind.i64.wrap ((j : Int) + 1 + 1) = (j : Int) + 1 + 1 := IntWalk.i64_in _ (by have := HO3.out; omega)
        clear hbd
        go_wp2_with fail
        refine (sum_c m k g _ _ L _ f _ hP (HG3.out.keep HBD.out) (HX.out.drewN) ((HDL.out.keep HB3.out).keep HBD.out) ((ms_pil hP HZ.out j).mono (by decide)) (HZ.out.mono (by decide))).mono ?_
        rintro e w5 ⟨us, rfl, hF5, hb5⟩
        have HF5 := hid hF5.r
        have HB5 := hid (HBD.out.trans (hb5.mono HBD.out.size))
        obtain ⟨a5, n5, c5, rfl⟩ := hF5.form3
        clear hF5 hb5 e0 e1
        go_wp2
        go_roundg (O + 1 - (j + 1))
        case rel => exact ⟨j + 1, _, _, _, rfl, by rw [show ((j + 1 : Nat) : Int) + 1 = (j : Int) + 1 + 1 by omega], by omega, rfl, HF5.out, HB5.out⟩
        case measure => omega
  · have HE := hid (orpB_no t1)
    go_enter Try.func18, Try.ntmps18
    go_wp2_with fail
    refine (withRec_no n q _ _ L d _ HR.out HD.out t1).mono ?_
    rintro e w1 ⟨ap, x, rfl, hb1⟩
    have HB := hid (hb1.alloc hb1.size (.cells #[.pointer ap, .int .i64 x] 54))
    clear hb1
    go_wp2
    go_ret2
    exact ⟨by rw [HE.out]; rfl, HB.out⟩

end Go.Proofs.Ytifdhapaonideaa
