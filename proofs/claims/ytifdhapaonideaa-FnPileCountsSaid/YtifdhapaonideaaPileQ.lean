/- ToppleAll, AddPiles, IsStable: both programs'. -/
import Derived.Test.YtifdhapaonideaaPileI6
namespace Go.Proofs.Ytifdhapaonideaa
open Go.RowKit
open Go.Lib (hid)

/-- a pile that is stable at last; how often each vertex toppled -/
noncomputable def stbL (n : Nat) (L : List Lnk) (q : Nat) (f : Nat → Int) : List Int := open Classical in if h : GoodL n L then lst n (Gr.stb (grL n L h) q f) else []
noncomputable def odoL (n : Nat) (L : List Lnk) (q : Nat) (f : Nat → Int) : List Int := open Classical in if h : GoodL n L then lst n (Gr.odo (grL n L h) q f) else []
theorem stbL_eq {n : Nat} {L : List Lnk} {q : Nat} {f : Nat → Int} (h : GoodL n L) : stbL n L q f = lst n (Gr.stb (grL n L h) q f) := by unfold stbL; rw [dif_pos h]
theorem odoL_eq {n : Nat} {L : List Lnk} {q : Nat} {f : Nat → Int} (h : GoodL n L) : odoL n L q f = lst n (Gr.odo (grL n L h) q f) := by unfold odoL; rw [dif_pos h]
noncomputable def topB (n : Int) (L : List Lnk) (q : Int) (d : List Int) : List Int × List Int × Bool := if piAB n L q d then (stbL n.toNat L q.toNat (fun i => d.getD i 0), odoL n.toNat L q.toNat (fun i => d.getD i 0), true) else ([], [], false)
noncomputable def istB (n : Int) (L : List Lnk) (q : Int) (d : List Int) : Bool × Bool := if piAB n L q d then (stB n.toNat L q.toNat (fun i => d.getD i 0), true) else (false, false)
def RetTB (w : World) (p : List Int × List Int × Bool) (e : Ending) (w' : World) : Prop := ∃ v s, e = .returned (.tuple #[v, s, .bool p.2.2]) ∧ FInts w' w.heap.size w'.heap.size v p.1 ∧ FInts w' w.heap.size w'.heap.size s p.2.1 ∧ Below w.heap.size w w'

set_option maxRecDepth 100000 in
set_option maxHeartbeats 2000000 in
theorem iIsStable_u (n : Int) (v : Value) (L : List Lnk) (q : Int) (u : Value) (d : List Int) (w : World) (h : RLinks w v L) (hd : RInts w u d) :
    Calls Try.prog 10 #[.int .i64 n, v, .int .i64 q, u] w (RetBC w (istB n L q d)) := by
  have HR := hid h
  have HD := hid hd
  obtain ⟨a, cap, rfl⟩ := h.form
  obtain ⟨a2, cap2, rfl, _, _, hc⟩ := hd
  clear h hc
  obtain ⟨hm1, hal⟩ := rmat_one HD.out
  have HM := hid hm1
  have HAL := hid hal
  clear hm1 hal
  rcases Bool.eq_false_or_eq_true (piAB n L q d) with t1 | t1
  · obtain ⟨m, k, hn, hq, hm, hk, hP, hl, hz, _⟩ := piAB_parts t1
    have HDL := hid (rints_lst HD.out hl)
    have hy : istB n L q d = (stB m L k (fun i => d.getD i 0), true) := by unfold istB; rw [t1, hm, hk]; rfl
    subst hn
    subst hq
    have HT := hid t1
    have HY := hid hy
    clear hm hk hl hz hy t1
    go_enter Try.func10, Try.ntmps10
    go_wp2_with fail
    refine (withPile_yes m k _ _ L d _ (HR.out.keep HAL.out) HM.out HT.out).mono ?_
    rintro e w1 ⟨g, rfl, hg, hb1, _⟩
    obtain ⟨c0, c1, hw2⟩ := tnew w1 (some ⟨g, 0, none⟩) k
    have hg2 := hg.keep hw2
    have hb02 := HAL.out.trans ((hb1.trans (hw2.mono hb1.size)).mono HAL.out.size)
    have HG2 := hid hg2
    have HB2 := hid hb02
    clear hg hb1 hw2 hg2 hb02
    go_wp2_with fail
    refine (isStable_c m k g L _ _ _ HG2.out hP.good (HDL.out.keep HB2.out)).mono ?_
    rintro e w3 ⟨rfl, hb3⟩
    have HB3 := hid (HB2.out.trans (hb3.mono HB2.out.size))
    clear hb3 c0 c1
    go_wp2
    go_ret2
    exact ⟨by rw [HY.out]; rfl, HB3.out⟩
  · have hy : istB n L q d = (false, false) := by unfold istB; rw [t1]; rfl
    have HE := hid hy
    clear hy
    go_enter Try.func10, Try.ntmps10
    go_wp2_with fail
    refine (withPile_no n q _ _ L d _ (HR.out.keep HAL.out) HM.out t1).mono ?_
    rintro e w1 ⟨ap, x, rfl, hb1⟩
    have HB := hid (HAL.out.trans ((hb1.alloc hb1.size (.cells #[.pointer ap, .int .i64 x] 54)).mono HAL.out.size))
    clear hb1
    go_wp2
    go_ret2
    exact ⟨by rw [HE.out]; rfl, HB.out⟩

theorem results_tmp3q {fn : Func} {t u v : Tmp} (h : fn.results = #[.tmp t, .tmp u, .tmp v]) (tmps : Array Value) (P : Program) (w : World) :
    (results fn tmps).run P w = .ok (.tuple #[tmps.getD t undef, tmps.getD u undef, tmps.getD v undef]) w := by
  simp [results, h]
set_option maxRecDepth 100000 in
set_option maxHeartbeats 2000000 in
theorem sToppleAll_u (n : Int) (v : Value) (L : List Lnk) (q : Int) (u : Value) (d : List Int) (w : World) (h : RLinks w v L) (hd : RInts w u d) :
    Calls Try.prog 8 #[.int .i64 n, v, .int .i64 q, u] w (RetTB w (topB n L q d)) := by
  have HR := hid h
  have HD := hid hd
  obtain ⟨a, cap, rfl⟩ := h.form
  obtain ⟨a2, cap2, rfl, _, _, hc⟩ := hd
  clear h hc
  rcases Bool.eq_false_or_eq_true (piAB n L q d) with t1 | t1
  · obtain ⟨m, k, hn, hq, hm, hk, hP, hl, hz, _⟩ := piAB_parts t1
    have HDL := hid (rints_lst HD.out hl)
    have hy : topB n L q d = (lst m (Gr.stb (grL m L hP.good) k (fun i => d.getD i 0)), lst m (Gr.odo (grL m L hP.good) k (fun i => d.getD i 0)), true) := by unfold topB; rw [t1, hm, hk, stbL_eq hP.good, odoL_eq hP.good]; rfl
    subst hn
    subst hq
    have HT := hid t1
    have HY := hid hy
    have HZ := hid hz
    clear hm hk hl hz hy t1
    go_enter Try.func8, Try.ntmps8
    go_wp2_with fail
    refine (piAsked_c _ _ _ _ L d _ HR.out HD.out).mono ?_
    rintro e w1 ⟨rfl, hb1⟩
    rw [HT.out]
    have HB2 := hid hb1
    clear hb1
    go_wp2_with fail
    refine (piTopple_c m k _ _ L _ _ (HR.out.keep HB2.out) hP (HDL.out.keep HB2.out) (HZ.out.pilF (by decide)) HZ.out.2).mono ?_
    rintro e w3 ⟨y, s, rfl, hF, hS, hb3⟩
    have HB3 := hid (HB2.out.trans (hb3.mono HB2.out.size))
    have HF := hid (hF.mono (lo' := w.heap.size) HB2.out.size (Nat.le_refl _))
    have HS := hid (hS.mono (lo' := w.heap.size) HB2.out.size (Nat.le_refl _))
    obtain ⟨a7, n7, c7, rfl⟩ := hF.form3
    obtain ⟨a8, n8, c8, rfl⟩ := hS.form3
    clear hb3 hF hS
    go_wp2
    (try simp only [Exit.inBlock, Exit.then]); refine bodyPost_ret (results_tmp3q rfl _ _ _) rfl ?_
    exact ⟨_, _, by rw [HY.out]; rfl, by rw [HY.out]; exact HF.out, by rw [HY.out]; exact HS.out, HB3.out⟩
  · have hy : topB n L q d = ([], [], false) := by unfold topB; rw [t1]; rfl
    have HE := hid hy
    clear hy
    go_enter Try.func8, Try.ntmps8
    go_wp2_with fail
    refine (piAsked_c _ _ _ _ L d _ HR.out HD.out).mono ?_
    rintro e w1 ⟨rfl, hb1⟩
    rw [t1]
    have HB := hid hb1
    clear hb1
    go_wp2
    (try simp only [Exit.inBlock, Exit.then]); refine bodyPost_ret (results_tmp3q rfl _ _ _) rfl ?_
    exact ⟨_, _, by rw [HE.out]; rfl, by rw [HE.out]; exact ints_nil _ _ _, by rw [HE.out]; exact ints_nil _ _ _, HB.out⟩

set_option maxRecDepth 100000 in
set_option maxHeartbeats 2000000 in
theorem iToppleAll_u (n : Int) (v : Value) (L : List Lnk) (q : Int) (u : Value) (d : List Int) (w : World) (h : RLinks w v L) (hd : RInts w u d) :
    Calls Try.prog 7 #[.int .i64 n, v, .int .i64 q, u] w (RetTB w (topB n L q d)) := by
  have HR := hid h
  have HD := hid hd
  obtain ⟨a, cap, rfl⟩ := h.form
  obtain ⟨a2, cap2, rfl, _, _, hc⟩ := hd
  clear h hc
  obtain ⟨hm1, hal⟩ := rmat_one HD.out
  have HM := hid hm1
  have HAL := hid hal
  clear hm1 hal
  rcases Bool.eq_false_or_eq_true (piAB n L q d) with t1 | t1
  · obtain ⟨m, k, hn, hq, hm, hk, hP, hl, hz, _⟩ := piAB_parts t1
    have HDL := hid (rints_lst HD.out hl)
    have hy : topB n L q d = (lst m (Gr.stb (grL m L hP.good) k (fun i => d.getD i 0)), lst m (Gr.odo (grL m L hP.good) k (fun i => d.getD i 0)), true) := by unfold topB; rw [t1, hm, hk, stbL_eq hP.good, odoL_eq hP.good]; rfl
    subst hn
    subst hq
    have HT := hid t1
    have HY := hid hy
    have HZ := hid hz
    clear hm hk hl hz hy t1
    go_enter Try.func7, Try.ntmps7
    go_wp2_with fail
    refine (withPile_yes m k _ _ L d _ (HR.out.keep HAL.out) HM.out HT.out).mono ?_
    rintro e w1 ⟨g, rfl, hg, hb1, _⟩
    obtain ⟨c0, c1, hw2⟩ := tnew w1 (some ⟨g, 0, none⟩) k
    have hg2 := hg.keep hw2
    have hb02 := HAL.out.trans ((hb1.trans (hw2.mono hb1.size)).mono HAL.out.size)
    have HG2 := hid hg2
    have HB2 := hid hb02
    clear hg hb1 hw2 hg2 hb02
    go_wp2_with fail
    refine (topple_c m k g _ L _ _ hP HG2.out (HDL.out.keep HB2.out) (HZ.out.pilF (by decide))).mono ?_
    rintro e w3 ⟨y, s, rfl, hF, hS, hb3⟩
    have HB3 := hid (HB2.out.trans (hb3.mono HB2.out.size))
    have HF := hid (hF.mono (lo' := w.heap.size) HB2.out.size (Nat.le_refl _))
    have HS := hid (hS.mono (lo' := w.heap.size) HB2.out.size (Nat.le_refl _))
    obtain ⟨a7, n7, c7, rfl⟩ := hF.form3
    obtain ⟨a8, n8, c8, rfl⟩ := hS.form3
    clear hb3 hF hS c0 c1
    go_wp2
    (try simp only [Exit.inBlock, Exit.then]); refine bodyPost_ret (results_tmp3q rfl _ _ _) rfl ?_
    exact ⟨_, _, by rw [HY.out]; rfl, by rw [HY.out]; exact HF.out, by rw [HY.out]; exact HS.out, HB3.out⟩
  · have hy : topB n L q d = ([], [], false) := by unfold topB; rw [t1]; rfl
    have HE := hid hy
    clear hy
    go_enter Try.func7, Try.ntmps7
    go_wp2_with fail
    refine (withPile_no n q _ _ L d _ (HR.out.keep HAL.out) HM.out t1).mono ?_
    rintro e w1 ⟨ap, x, rfl, hb1⟩
    have HB := hid (HAL.out.trans ((hb1.alloc hb1.size (.cells #[.pointer ap, .int .i64 x] 54)).mono HAL.out.size))
    clear hb1
    go_wp2
    (try simp only [Exit.inBlock, Exit.then]); refine bodyPost_ret (results_tmp3q rfl _ _ _) rfl ?_
    exact ⟨_, _, by rw [HE.out]; rfl, by rw [HE.out]; exact ints_nil _ _ _, by rw [HE.out]; exact ints_nil _ _ _, HB.out⟩

end Go.Proofs.Ytifdhapaonideaa
