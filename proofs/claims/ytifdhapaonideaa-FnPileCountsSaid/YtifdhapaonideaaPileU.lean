/- AddPiles, IsPile, GreatestStable: both programs'. -/
import Derived.Test.YtifdhapaonideaaPileQ
import Derived.Test.YtifdhapaonideaaPileI4
namespace Go.Proofs.Ytifdhapaonideaa
open Go.RowKit
open Go.Lib (hid)

noncomputable def addpB (n : Int) (L : List Lnk) (q : Int) (a b : List Int) : List Int × Bool := if piAB n L q a && piPB n q b then (stbL n.toNat L q.toNat (fun i => a.getD i 0 + b.getD i 0), true) else ([], false)
noncomputable def ispB (n : Int) (L : List Lnk) (q : Int) (d : List Int) : Bool × Bool := if piGB n L q then (piPB n q d, true) else (false, false)
noncomputable def grsB (n : Int) (L : List Lnk) (q : Int) : List Int × Bool := if piGB n L q then (lst n.toNat (grtV n.toNat L q.toNat), true) else ([], false)
theorem piPB_pil {m k : Nat} {d : List Int} (h : piPB m k d = true) : d.length = m ∧ PilZ m k 50 (fun i => d.getD i 0) := by
  obtain ⟨h1, h2, h3⟩ := piPB_parts h
  exact ⟨h1, fun v hv _ => by
    rw [← h1] at hv
    have : d.getD v 0 ∈ d := by simp [List.getD, List.getElem?_eq_getElem hv]
    exact h2 _ this, h3⟩
theorem rmat_two {w : World} {u v : Value} {c d : List Int} (h : RInts w u c) (h' : RInts w v d) : RMat (w.alloc (.cells #[u, v] 25)) (.slice (some ⟨w.heap.size, 0, none⟩) 2 2) [c, d] ∧ Below w.heap.size w (w.alloc (.cells #[u, v] 25)) := by
  have hal : Below w.heap.size w (w.alloc (.cells #[u, v] 25)) := (Below.refl _ _).alloc (Nat.le_refl _) _
  have hbx : (w.alloc (.cells #[u, v] 25)).heap[w.heap.size]? = some (.cells #[u, v] 25 (0, 0)) := heap_alloc_new _ _
  refine ⟨⟨_, 2, rfl, Nat.le_refl _, by unfold maxLen; omega, fun i hi => ?_⟩, hal⟩
  rcases (show i = 0 ∨ i = 1 by simp at hi; omega) with rfl | rfl
  · exact ⟨w.heap.size, 0, u, rfl, by rw [cell_of_row _ _ _ _ _ _ hbx]; rfl, h.keep hal⟩
  · exact ⟨w.heap.size, 0, v, rfl, by rw [cell_of_row _ _ _ _ _ _ hbx]; rfl, h'.keep hal⟩

set_option maxRecDepth 100000 in
set_option maxHeartbeats 2000000 in
theorem sAddPiles_u (n : Int) (v : Value) (L : List Lnk) (q : Int) (u1 : Value) (c : List Int) (u2 : Value) (d : List Int) (w : World) (h : RLinks w v L) (hc : RInts w u1 c) (hd : RInts w u2 d) :
    Calls Try.prog 14 #[.int .i64 n, v, .int .i64 q, u1, u2] w (RetIB w (addpB n L q c d)) := by
  have HR := hid h
  have HC := hid hc
  have HD := hid hd
  obtain ⟨a, cap, rfl⟩ := h.form
  obtain ⟨a1, cap1, rfl, _, _, -⟩ := hc
  obtain ⟨a2, cap2, rfl, _, _, -⟩ := hd
  clear h
  rcases Bool.eq_false_or_eq_true (piAB n L q c) with t1 | t1
  · obtain ⟨m, k, hn, hq, hm, hk, hP, hl, hz, _⟩ := piAB_parts t1
    have HCL := hid (rints_lst HC.out hl)
    subst hn
    subst hq
    have HT := hid t1
    have HZ := hid hz
    cases t2 : piPB m k d
    · have hy : addpB m L k c d = ([], false) := by unfold addpB; rw [t1, t2]; rfl
      have HE := hid hy
      clear hm hk hl hz hy t1
      go_enter Try.func14, Try.ntmps14
      go_wp2_with fail
      refine (piAsked_c _ _ _ _ L c _ HR.out HC.out).mono ?_
      rintro e w1 ⟨rfl, hb1⟩
      rw [HT.out]
      have HB1 := hid hb1
      clear hb1
      go_wp2_with fail
      refine (piPile_c m k _ d _ (HD.out.keep HB1.out) hP.hq).mono ?_
      rintro e w2 ⟨rfl, rfl⟩
      rw [t2]
      go_wp2
      go_ret2
      exact ⟨_, by rw [HE.out]; rfl, by rw [HE.out]; exact ints_nil _ _ _, HB1.out⟩
    · obtain ⟨hl2, hz2⟩ := piPB_pil t2
      have HDL := hid (rints_lst HD.out hl2)
      have HZ2 := hid hz2
      have hy : addpB m L k c d = (lst m (Gr.stb (grL m L hP.good) k (fun i => c.getD i 0 + d.getD i 0)), true) := by unfold addpB; rw [t1, t2, hm, hk, stbL_eq hP.good]; rfl
      have HY := hid hy
      clear hm hk hl hz hy t1 hl2 hz2
      go_enter Try.func14, Try.ntmps14
      go_wp2_with fail
      refine (piAsked_c _ _ _ _ L c _ HR.out HC.out).mono ?_
      rintro e w1 ⟨rfl, hb1⟩
      rw [HT.out]
      have HB1 := hid hb1
      clear hb1
      go_wp2_with fail
      refine (piPile_c m k _ d _ (HD.out.keep HB1.out) hP.hq).mono ?_
      rintro e w2 ⟨rfl, rfl⟩
      rw [t2]
      have HB2 := HB1
      go_wp2_with fail
      refine (piSum_c m k _ _ _ L _ _ _ (HR.out.keep HB2.out) hP (HCL.out.keep HB2.out) (HDL.out.keep HB2.out) (HZ.out.mono (by decide)) (HZ2.out.mono (by decide))).mono ?_
      rintro e w3 ⟨y, rfl, hF, hb3⟩
      have HB3 := hid (HB2.out.trans (hb3.mono HB2.out.size))
      have HF := hid (hF.mono (lo' := w.heap.size) HB2.out.size (Nat.le_refl _))
      obtain ⟨a7, n7, c7, rfl⟩ := hF.form3
      clear hb3 hF
      go_wp2
      go_ret2
      exact ⟨_, by rw [HY.out]; rfl, by rw [HY.out]; exact HF.out, HB3.out⟩
  · have hy : addpB n L q c d = ([], false) := by unfold addpB; rw [t1]; rfl
    have HE := hid hy
    clear hy
    go_enter Try.func14, Try.ntmps14
    go_wp2_with fail
    refine (piAsked_c _ _ _ _ L c _ HR.out HC.out).mono ?_
    rintro e w1 ⟨rfl, hb1⟩
    rw [t1]
    have HB := hid hb1
    clear hb1
    go_wp2
    go_ret2
    exact ⟨_, by rw [HE.out]; rfl, by rw [HE.out]; exact ints_nil _ _ _, HB.out⟩

set_option maxRecDepth 100000 in
set_option maxHeartbeats 2000000 in
theorem iAddPiles_u (n : Int) (v : Value) (L : List Lnk) (q : Int) (u1 : Value) (c : List Int) (u2 : Value) (d : List Int) (w : World) (h : RLinks w v L) (hc : RInts w u1 c) (hd : RInts w u2 d) :
    Calls Try.prog 13 #[.int .i64 n, v, .int .i64 q, u1, u2] w (RetIB w (addpB n L q c d)) := by
  have HR := hid h
  have HC := hid hc
  have HD := hid hd
  obtain ⟨a, cap, rfl⟩ := h.form
  obtain ⟨a1, cap1, rfl, _, _, -⟩ := hc
  obtain ⟨a2, cap2, rfl, _, _, -⟩ := hd
  clear h
  obtain ⟨hm1, hal⟩ := rmat_two HC.out HD.out
  have HM := hid hm1
  have HAL := hid hal
  clear hm1 hal
  rcases Bool.eq_false_or_eq_true (piGB n L q) with t0 | t0
  · obtain ⟨m, k, hn, hq, hm, hk, hP⟩ := piGB_nat t0
    subst hn
    subst hq
    cases t2 : piPB m k c && piPB m k d
    · have hy : addpB m L k c d = ([], false) := by
        unfold addpB piAB
        rw [t0, Bool.true_and, t2]; rfl
      have HE := hid hy
      have HT := hid t0
      have HA : Hid ([c, d].all (fun x => piPB m k x) = false) := by show _ = _; simp only [List.all_cons, List.all_nil, Bool.and_true]; exact t2
      clear hm hk hy t0 t2
      go_enter Try.func13, Try.ntmps13
      go_wp2_with fail
      refine (withPiles_no2 m k _ _ L [c, d] _ (HR.out.keep HAL.out) HM.out HT.out HA.out).mono ?_
      rintro e w1 ⟨ap, x, rfl, hb1⟩
      have HB := hid (HAL.out.trans ((hb1.alloc hb1.size (.cells #[.pointer ap, .int .i64 x] 54)).mono HAL.out.size))
      clear hb1
      go_wp2
      go_ret2
      exact ⟨_, by rw [HE.out]; rfl, by rw [HE.out]; exact ints_nil _ _ _, HB.out⟩
    · have hy : addpB m L k c d = (lst m (Gr.stb (grL m L hP.good) k (fun i => c.getD i 0 + d.getD i 0)), true) := by
        unfold addpB piAB
        rw [t0, Bool.true_and, t2, hm, hk, stbL_eq hP.good]; rfl
      have HY := hid hy
      have HT := hid t0
      have HA : Hid ([c, d].all (fun x => piPB m k x) = true) := by show _ = _; simp only [List.all_cons, List.all_nil, Bool.and_true]; exact t2
      simp only [Bool.and_eq_true] at t2
      obtain ⟨hl1, hz1⟩ := piPB_pil t2.1
      obtain ⟨hl2, hz2⟩ := piPB_pil t2.2
      have HCL := hid (rints_lst HC.out hl1)
      have HDL := hid (rints_lst HD.out hl2)
      have HZ1 := hid hz1
      have HZ2 := hid hz2
      clear hm hk hy t0 t2 hl1 hl2 hz1 hz2
      go_enter Try.func13, Try.ntmps13
      go_wp2_with fail
      refine (withPiles_yes m k _ _ L [c, d] _ (HR.out.keep HAL.out) HM.out HT.out HA.out).mono ?_
      rintro e w1 ⟨g, rfl, hg, hb1, _⟩
      obtain ⟨c0, c1, hw2⟩ := tnew w1 (some ⟨g, 0, none⟩) k
      have hg2 := hg.keep hw2
      have hb02 := HAL.out.trans ((hb1.trans (hw2.mono hb1.size)).mono HAL.out.size)
      have HG2 := hid hg2
      have HB2 := hid hb02
      clear hg hb1 hw2 hg2 hb02
      go_wp2_with fail
      refine (sum_c m k g _ _ L _ _ _ hP HG2.out (HCL.out.keep HB2.out) (HDL.out.keep HB2.out) (HZ1.out.mono (by decide)) (HZ2.out.mono (by decide))).mono ?_
      rintro e w3 ⟨y, rfl, hF, hb3⟩
      have HB3 := hid (HB2.out.trans (hb3.mono HB2.out.size))
      have HF := hid (hF.mono (lo' := w.heap.size) HB2.out.size (Nat.le_refl _))
      obtain ⟨a7, n7, c7, rfl⟩ := hF.form3
      clear hb3 hF c0 c1
      go_wp2
      go_ret2
      exact ⟨_, by rw [HY.out]; rfl, by rw [HY.out]; exact HF.out, HB3.out⟩
  · have hy : addpB n L q c d = ([], false) := by unfold addpB piAB; rw [t0]; rfl
    have HE := hid hy
    clear hy
    go_enter Try.func13, Try.ntmps13
    go_wp2_with fail
    refine (withPiles_no1 n q _ _ L [c, d] _ (HR.out.keep HAL.out) HM.out t0).mono ?_
    rintro e w1 ⟨ap, x, rfl, hb1⟩
    have HB := hid (HAL.out.trans ((hb1.alloc hb1.size (.cells #[.pointer ap, .int .i64 x] 54)).mono HAL.out.size))
    clear hb1
    go_wp2
    go_ret2
    exact ⟨_, by rw [HE.out]; rfl, by rw [HE.out]; exact ints_nil _ _ _, HB.out⟩

set_option maxRecDepth 100000 in
set_option maxHeartbeats 2000000 in
theorem sIsPile_u (n : Int) (v : Value) (L : List Lnk) (q : Int) (u : Value) (d : List Int) (w : World) (h : RLinks w v L) (hd : RInts w u d) :
    Calls Try.prog 36 #[.int .i64 n, v, .int .i64 q, u] w (RetBC w (ispB n L q d)) := by
  have HR := hid h
  have HD := hid hd
  obtain ⟨a, cap, rfl⟩ := h.form
  obtain ⟨a2, cap2, rfl, _, _, hc⟩ := hd
  clear h hc
  rcases Bool.eq_false_or_eq_true (piGB n L q) with t1 | t1
  · obtain ⟨m, k, hn, hq, hm, hk, hP⟩ := piGB_nat t1
    have hy : ispB n L q d = (piPB m k d, true) := by unfold ispB; rw [t1, hn, hq]; rfl
    subst hn
    subst hq
    have HY := hid hy
    clear hm hk hy
    go_enter Try.func36, Try.ntmps36
    go_wp2_with fail
    refine (piGraph_c _ _ _ L _ HR.out).mono ?_
    rintro e w1 ⟨rfl, hb1⟩
    rw [t1]
    have HB1 := hid hb1
    clear hb1
    go_wp2_with fail
    refine (piPile_c m k _ d _ (HD.out.keep HB1.out) hP.hq).mono ?_
    rintro e w2 ⟨rfl, rfl⟩
    go_wp2
    go_ret2
    exact ⟨by rw [HY.out]; rfl, HB1.out⟩
  · have hy : ispB n L q d = (false, false) := by unfold ispB; rw [t1]; rfl
    have HE := hid hy
    clear hy
    go_enter Try.func36, Try.ntmps36
    go_wp2_with fail
    refine (piGraph_c _ _ _ L _ HR.out).mono ?_
    rintro e w1 ⟨rfl, hb1⟩
    rw [t1]
    go_wp2
    go_ret2
    exact ⟨by rw [HE.out]; rfl, hb1⟩

set_option maxRecDepth 100000 in
set_option maxHeartbeats 2000000 in
theorem iIsPile_u (n : Int) (v : Value) (L : List Lnk) (q : Int) (u : Value) (d : List Int) (w : World) (h : RLinks w v L) (hd : RInts w u d) :
    Calls Try.prog 32 #[.int .i64 n, v, .int .i64 q, u] w (RetBC w (ispB n L q d)) := by
  have HR := hid h
  have HD := hid hd
  obtain ⟨a, cap, rfl⟩ := h.form
  obtain ⟨a2, cap2, rfl, _, _, hc⟩ := hd
  clear h hc
  rcases Bool.eq_false_or_eq_true (piGB n L q) with t1 | t1
  · obtain ⟨m, k, hn, hq, hm, hk, hP⟩ := piGB_nat t1
    have hy : ispB n L q d = (piPB m k d, true) := by unfold ispB; rw [t1, hn, hq]; rfl
    subst hn
    subst hq
    have HY := hid hy
    clear hm hk hy
    go_enter Try.func32, Try.ntmps32
    go_wp2_with fail
    refine (tableOf_yes m k _ L _ HR.out t1).mono ?_
    rintro e w1 ⟨g, rfl, hg, hb1, -⟩
    have hal : Below w1.heap.size w1 (w1.alloc (.cells #[.pointer (some ⟨g, 0, none⟩), .int .i64 k] 54)) := (Below.refl _ _).alloc (Nat.le_refl _) _
    have HG := hid (hg.keep hal)
    have HB1 := hid (hb1.trans (hal.mono hb1.size))
    clear hg hb1 hal
    go_wp2_with fail
    refine (isPile_c m k g L _ d _ HG.out (HD.out.keep HB1.out) hP.hq).mono ?_
    rintro e w2 ⟨rfl, hb2⟩
    have HB2 := hid (HB1.out.trans (hb2.mono HB1.out.size))
    clear hb2
    go_wp2
    go_ret2
    exact ⟨by rw [HY.out]; rfl, HB2.out⟩
  · have hy : ispB n L q d = (false, false) := by unfold ispB; rw [t1]; rfl
    have HE := hid hy
    clear hy
    go_enter Try.func32, Try.ntmps32
    go_wp2_with fail
    refine (tableOf_no n q _ L _ HR.out t1).mono ?_
    rintro e w1 ⟨ap, x, rfl, hb1⟩
    have HB := hid (hb1.alloc hb1.size (.cells #[.pointer ap, .int .i64 x] 54))
    clear hb1
    go_wp2
    go_ret2
    exact ⟨by rw [HE.out]; rfl, HB.out⟩

set_option maxRecDepth 100000 in
set_option maxHeartbeats 2000000 in
theorem sGreatest_u (n : Int) (v : Value) (L : List Lnk) (q : Int) (w : World) (h : RLinks w v L) :
    Calls Try.prog 28 #[.int .i64 n, v, .int .i64 q] w (RetIB w (grsB n L q)) := by
  have HR := hid h
  obtain ⟨a, cap, rfl⟩ := h.form
  clear h
  rcases Bool.eq_false_or_eq_true (piGB n L q) with t1 | t1
  · obtain ⟨m, k, hn, hq, hm, hk, hP⟩ := piGB_nat t1
    have hy : grsB n L q = (lst m (grtV m L k), true) := by unfold grsB; rw [t1, hm, hk]; rfl
    subst hn
    subst hq
    have HY := hid hy
    clear hm hk hy
    go_enter Try.func28, Try.ntmps28
    go_wp2_with fail
    refine (piGraph_c _ _ _ L _ HR.out).mono ?_
    rintro e w1 ⟨rfl, hb1⟩
    rw [t1]
    have HB1 := hid hb1
    clear hb1
    go_wp2_with fail
    refine (piGreatest_c m k _ L _ (HR.out.keep HB1.out) hP.good).mono ?_
    rintro e w2 ⟨u, rfl, hF, hb2⟩
    have HF := hid (hF.mono HB1.out.size (Nat.le_refl _))
    have HB2 := hid (HB1.out.trans (hb2.mono HB1.out.size))
    obtain ⟨a3, n3, c3, rfl⟩ := hF.form3
    clear hF hb2
    go_wp2
    go_ret2
    exact ⟨_, by rw [HY.out]; rfl, by rw [HY.out]; exact HF.out, HB2.out⟩
  · have hy : grsB n L q = ([], false) := by unfold grsB; rw [t1]; rfl
    have HE := hid hy
    clear hy
    go_enter Try.func28, Try.ntmps28
    go_wp2_with fail
    refine (piGraph_c _ _ _ L _ HR.out).mono ?_
    rintro e w1 ⟨rfl, hb1⟩
    rw [t1]
    go_wp2
    go_ret2
    exact ⟨_, by rw [HE.out]; rfl, by rw [HE.out]; exact ints_nil _ _ _, hb1⟩

set_option maxRecDepth 100000 in
set_option maxHeartbeats 4000000 in
theorem iGreatest_u (n : Int) (v : Value) (L : List Lnk) (q : Int) (w : World) (h : RLinks w v L) :
    Calls Try.prog 27 #[.int .i64 n, v, .int .i64 q] w (RetIB w (grsB n L q)) := by
  have HR := hid h
  obtain ⟨a, cap, rfl⟩ := h.form
  clear h
  rcases Bool.eq_false_or_eq_true (piGB n L q) with t1 | t1
  · obtain ⟨m, k, hn, hq, hm, hk, hP⟩ := piGB_nat t1
    have hy : grsB n L q = (lst m (grtV m L k), true) := by unfold grsB; rw [t1, hm, hk]; rfl
    subst hn
    subst hq
    have HY := hid hy
    have hm1 := hP.n1
    have hm5 := hP.n5
    have hmk := run_make_row' (P := Try.prog) 25 3 (.int .i64 0) 8 Try.underlying25 Try.infoInt rfl .i64 .i64 m (by omega) (by omega)
    clear hm hk hy
    go_enter Try.func27, Try.ntmps27
    go_wp2_with fail
    refine (tableOf_yes m k _ L _ HR.out t1).mono ?_
    rintro e w1 ⟨g, rfl, hg, hb1, -⟩
    obtain ⟨wt, hwt⟩ : ∃ wt : World, wt = w1.alloc (.cells #[.pointer (some ⟨g, 0, none⟩), .int .i64 k] 54) := ⟨_, rfl⟩
    obtain ⟨k0, _, hal⟩ := tnew w1 (some ⟨g, 0, none⟩) k
    have HSZ := hid (show wt.heap.size = w1.heap.size + 1 by rw [hwt]; simp)
    rw [← hwt] at k0 hal
    have HWT := hid hwt
    have hg := hg.keep hal
    have HB1 := hid (hb1.trans (hal.mono hb1.size))
    obtain ⟨gv, ov, cv, hcv1, hcv2, c20, hvc0⟩ : ∃ gv ov cv : Nat, m ≤ cv ∧ cv ≤ 9223372036854775807 ∧ wt.cell? ⟨g, 2, none⟩ = some (.slice (some ⟨gv, ov, none⟩) m cv) ∧ ∀ i, i < m → wt.cell? ⟨gv, ov + i, none⟩ = some (.int .i64 (valV m L i)) := by
      obtain ⟨g2, bt, vt, hgg, _, _, c2, _, _, hv⟩ := hg
      simp only [Value.pointer.injEq, Option.some.injEq, Addr.mk.injEq, and_true] at hgg
      subst hgg
      obtain ⟨gv, ov, cv, rfl, h1, h2, h3⟩ := ri_open hv (by omega)
      exact ⟨gv, ov, cv, h1, h2, c2, h3⟩
    have HK := hid (And.intro k0 (And.intro c20 hvc0))
    have hF0 : FInts (wt.alloc (.cells (madeCells #[.int .i64 0] m) 3)) wt.heap.size (wt.heap.size + 1) (.slice (some ⟨wt.heap.size, 0, none⟩) m m) (lst m (fun _ => 0)) := fi_made wt m (by omega)
    have HF0 := hid hF0
    have hal2 : Below wt.heap.size wt (wt.alloc (.cells (madeCells #[.int .i64 0] m) 3)) := (Below.refl _ _).alloc (Nat.le_refl _) _
    have HAL2 := hid hal2
    have hwe : wt.heap.size + 1 ≤ (wt.alloc (.cells (madeCells #[.int .i64 0] m) 3)).heap.size := by simp
    clear hg hb1 hal c20 hvc0 hF0 hal2
    go_wp2_with fail
    rw [← HWT.out]
    go_wp2
    obtain ⟨w2, hw2⟩ : ∃ w2 : World, w2 = wt.alloc (.cells (madeCells #[.int .i64 0] m) 3) := ⟨_, rfl⟩
    rw [← hw2] at HF0 HAL2 hwe ⊢
    have hF0 := HF0.out
    rw [HSZ.out] at hF0 hwe
    have HF1 := hid hF0
    clear HF0 hF0
    clear hmk
    go_loopg [25] m (fun gk vv wr => ∃ j : Nat, j ≤ m ∧ gk = m - j ∧ vv = .int .i64 j ∧ FInts wr (w1.heap.size + 1) (w1.heap.size + 1 + 1) (.slice (some ⟨w1.heap.size + 1, 0, none⟩) m m) (lst m (partF (fun _ => 0) (grtV m L k) j)) ∧ Touch (w1.heap.size + 1) (w1.heap.size + 1 + 1) w2 wr)
    case atStart => exact ⟨0, Nat.zero_le _, rfl, rfl, by rw [part_zero]; exact HF1.out, Touch.refl _ _ _⟩
    case round =>
      obtain ⟨j, hj, rfl, rfl, hF, hT⟩ := hrel
      have HT := hid hT
      by_cases hlt : j < m
      · obtain ⟨hc, _, hset⟩ := fi_open hF
        have a1 := (hc j hlt).1
        rw [part_at] at a1
        have a2 := (hc j hlt).2
        have hjz : (j : Int) < (m : Int) := by omega
        have hkeep : ∀ (b o : Nat) (x : Value), wt.cell? ⟨b, o, none⟩ = some x → wr.cell? ⟨b, o, none⟩ = some x := fun b o x hx => hT.cell (by have := cell_lt hx; have := HSZ.out; omega) ((HAL2.out.cell (p := ⟨b, o, none⟩) (cell_lt hx)).trans hx)
        by_cases hkq : j = k
        · have t1 : ((j : Int) == (k : Int)) = true := beq_nat_true hkq
          have t2 : ((j : Int) != (k : Int)) = false := bne_of_true t1
          have HJK := hid hkq
          have hst := hF
          have hs2 : partF (fun _ => 0) (grtV m L k) j j = 0 := part_at ..
          have HO := hid (show FInts wr (w1.heap.size + 1) (w1.heap.size + 1 + 1) (.slice (some ⟨w1.heap.size + 1, 0, none⟩) m m) (lst m (partF (fun _ => 0) (grtV m L k) (j + 1))) by
            have : lst m (partF (fun _ => 0) (grtV m L k) (j + 1)) = lst m (partF (fun _ => 0) (grtV m L k) j) := by
              rw [← part_set m (fun _ => 0) (grtV m L k) (show (0 : Int) = grtV m L k j by unfold grtV; rw [if_pos HJK.out])]
              refine lst_congr fun i _ => ?_
              unfold upd
              split
              · next e => rw [e, hs2]
              · rfl
            rw [this]; exact hF)
          clear hF hT hc hset hst hkq hkeep a1 a2
          go_wp2
          go_roundg (m - (j + 1))
          case rel => exact ⟨j + 1, by omega, rfl, by go_num, HO.out, HT.out⟩
          case measure => omega
        · have t1 : ((j : Int) == (k : Int)) = false := beq_nat_false hkq
          have t2 : ((j : Int) != (k : Int)) = true := bne_of_false t1
          have d0 := hkeep _ _ _ HK.out.1
          have d2 := hkeep _ _ _ HK.out.2.1
          have d3 := hkeep _ _ _ (HK.out.2.2 j hlt)
          have hvb := valV_bound hP.good hlt
          have hst := hset j (valV m L j - 1) hlt
          rw [part_set m _ _ (show valV m L j - 1 = grtV m L k j by unfold grtV; rw [if_neg hkq])] at hst
          obtain ⟨x, hx⟩ : ∃ x, valV m L j = x := ⟨_, rfl⟩
          rw [hx] at d3 hst hvb
          have HO := hid (And.intro hst.1 (hT.trans hst.2))
          have f1 : IntKind.i64.wrap (x - 1) = x - 1 := IntWalk.i64_in _ (by omega)
          clear hF hT hc hset hst hkq hkeep hx
          go_wp2
          go_roundg (m - (j + 1))
          case rel => exact ⟨j + 1, by omega, rfl, by go_num, HO.out⟩
          case measure => omega
      · have hkn : j = m := by omega
        subst hkn
        rw [part_all] at hF
        have HF2 := hid hF
        have hbe := HAL2.out.trans (hT.below (by rw [HSZ.out]; exact Nat.le_refl _) HAL2.out.size)
        have HBE := hid (HB1.out.trans (hbe.mono HB1.out.size))
        clear hF hT hbe
        go_wp2
        go_ret2
        exact ⟨_, by rw [HY.out]; rfl, by rw [HY.out]; exact HF2.out.mono (by rw [← HSZ.out]; exact HB1.out.size) (Nat.le_trans hwe HT.out.size), HBE.out⟩
  · have hy : grsB n L q = ([], false) := by unfold grsB; rw [t1]; rfl
    have HE := hid hy
    clear hy
    go_enter Try.func27, Try.ntmps27
    go_wp2_with fail
    refine (tableOf_no n q _ L _ HR.out t1).mono ?_
    rintro e w1 ⟨ap, x, rfl, hb1⟩
    have HB := hid (hb1.alloc hb1.size (.cells #[.pointer ap, .int .i64 x] 54))
    clear hb1
    go_wp2
    go_ret2
    exact ⟨_, by rw [HE.out]; rfl, by rw [HE.out]; exact ints_nil _ _ _, HB.out⟩
end Go.Proofs.Ytifdhapaonideaa
