/- FnPiles returns true for every input, and its arguments read as before. No condition. -/
import Derived.Test.YtifdhapaonideaaPileI6
import Derived.Test.YtifdhapaonideaaPileI4
import Derived.Test.YtifdhapaonideaaPileR7
import Derived.Test.YtifdhapaonideaaLeaf
import Derived.Test.YtifdhapaonideaaAppend
import Derived.BigQuiet
import Derived.Laws.BitsLemmas
import Derived.Laws.Bits64
import Derived.Test.YtifdhapaonideaaLink
import Derived.Test.YtifdhapaonideaaPush
import Derived.Test.YtifdhapaonideaaMark
import Derived.Test.YtifdhapaonideaaMem
import Derived.ProofKit
import Derived.OpenShut
import Derived.ShutString
import Derived.ChangeOld
import Derived.Deep.Matrix
/- ToppleAll, AddPiles, IsStable: both programs'. -/
namespace Go.Proofs.Ytifdhapaonideaa
open Go.RowKit
open Go.Lib (hid)

/-- a pile that is stable at last; how often each vertex toppled -/
noncomputable def stbL (n : Nat) (L : List Lnk) (q : Nat) (f : Nat → Int) : List Int := open Classical in if h : GoodL n L then lst n (Gr.stb (grL n L h) q f) else []
noncomputable def odoL (n : Nat) (L : List Lnk) (q : Nat) (f : Nat → Int) : List Int := open Classical in if h : GoodL n L then lst n (Gr.odo (grL n L h) q f) else []
theorem stbL_eq {n : Nat} {L : List Lnk} {q : Nat} {f : Nat → Int} (h : GoodL n L) : stbL n L q f = lst n (Gr.stb (grL n L h) q f) := by unfold stbL; rw [dif_pos h]
theorem odoL_eq {n : Nat} {L : List Lnk} {q : Nat} {f : Nat → Int} (h : GoodL n L) : odoL n L q f = lst n (Gr.odo (grL n L h) q f) := by unfold odoL; rw [dif_pos h]
noncomputable def topB (n : Int) (L : List Lnk) (q : Int) (d : List Int) : List Int × List Int × Bool := if piAB n L q d then (stbL n.toNat L q.toNat (fun i => d.getD i 0), odoL n.toNat L q.toNat (fun i => d.getD i 0), true) else ([], [], false)
noncomputable def istB (n : Int) (L : List Lnk) (q : Int) (d : List Int) : Bool × Bool := if piAB n L q d then (stB n.toNat L q.toNat (fun i => d.getD i 0), true) else (false, false)
def RetTB (w : World) (p : List Int × List Int × Bool) (e : Ending) (w' : World) : Prop := ∃ v s, e = .returned (.tuple #[v, s, .bool p.2.2]) ∧ FInts w' w.heap.size w'.heap.size v p.1 ∧ FInts w' w.heap.size w'.heap.size s p.2.1 ∧ Below w.heap.size w w'

set_option maxRecDepth 100000 in
set_option maxHeartbeats 2000000 in
theorem iIsStable_u (n : Int) (v : Value) (L : List Lnk) (q : Int) (u : Value) (d : List Int) (w : World) (h : RLinks w v L) (hd : RInts w u d) :
    Calls Try.prog 10 #[.int .i64 n, v, .int .i64 q, u] w (RetBC w (istB n L q d)) := by
  have HR := hid h
  have HD := hid hd
  obtain ⟨a, cap, rfl⟩ := h.form
  obtain ⟨a2, cap2, rfl, _, _, hc⟩ := hd
  clear h hc
  obtain ⟨hm1, hal⟩ := rmat_one HD.out
  have HM := hid hm1
  have HAL := hid hal
  clear hm1 hal
  rcases Bool.eq_false_or_eq_true (piAB n L q d) with t1 | t1
  · obtain ⟨m, k, hn, hq, hm, hk, hP, hl, hz, _⟩ := piAB_parts t1
    have HDL := hid (rints_lst HD.out hl)
    have hy : istB n L q d = (stB m L k (fun i => d.getD i 0), true) := by unfold istB; rw [t1, hm, hk]; rfl
    subst hn
    subst hq
    have HT := hid t1
    have HY := hid hy
    clear hm hk hl hz hy t1
    go_enter Try.func10, Try.ntmps10
    go_wp2_with fail
    refine (withPile_yes m k _ _ L d _ (HR.out.keep HAL.out) HM.out HT.out).mono ?_
    rintro e w1 ⟨g, rfl, hg, hb1, _⟩
    obtain ⟨c0, c1, hw2⟩ := tnew w1 (some ⟨g, 0, none⟩) k
    have hg2 := hg.keep hw2
    have hb02 := HAL.out.trans ((hb1.trans (hw2.mono hb1.size)).mono HAL.out.size)
    have HG2 := hid hg2
    have HB2 := hid hb02
    clear hg hb1 hw2 hg2 hb02
    go_wp2_with fail
    refine (isStable_c m k g L _ _ _ HG2.out hP.good (HDL.out.keep HB2.out)).mono ?_
    rintro e w3 ⟨rfl, hb3⟩
    have HB3 := hid (HB2.out.trans (hb3.mono HB2.out.size))
    clear hb3 c0 c1
    go_wp2
    go_ret2
    exact ⟨by rw [HY.out]; rfl, HB3.out⟩
  · have hy : istB n L q d = (false, false) := by unfold istB; rw [t1]; rfl
    have HE := hid hy
    clear hy
    go_enter Try.func10, Try.ntmps10
    go_wp2_with fail
    refine (withPile_no n q _ _ L d _ (HR.out.keep HAL.out) HM.out t1).mono ?_
    rintro e w1 ⟨ap, x, rfl, hb1⟩
    have HB := hid (HAL.out.trans ((hb1.alloc hb1.size (.cells #[.pointer ap, .int .i64 x] 54)).mono HAL.out.size))
    clear hb1
    go_wp2
    go_ret2
    exact ⟨by rw [HE.out]; rfl, HB.out⟩

theorem results_tmp3q {fn : Func} {t u v : Tmp} (h : fn.results = #[.tmp t, .tmp u, .tmp v]) (tmps : Array Value) (P : Program) (w : World) :
    (results fn tmps).run P w = .ok (.tuple #[tmps.getD t undef, tmps.getD u undef, tmps.getD v undef]) w := by
  simp [results, h]
set_option maxRecDepth 100000 in
set_option maxHeartbeats 2000000 in
theorem sToppleAll_u (n : Int) (v : Value) (L : List Lnk) (q : Int) (u : Value) (d : List Int) (w : World) (h : RLinks w v L) (hd : RInts w u d) :
    Calls Try.prog 8 #[.int .i64 n, v, .int .i64 q, u] w (RetTB w (topB n L q d)) := by
  have HR := hid h
  have HD := hid hd
  obtain ⟨a, cap, rfl⟩ := h.form
  obtain ⟨a2, cap2, rfl, _, _, hc⟩ := hd
  clear h hc
  rcases Bool.eq_false_or_eq_true (piAB n L q d) with t1 | t1
  · obtain ⟨m, k, hn, hq, hm, hk, hP, hl, hz, _⟩ := piAB_parts t1
    have HDL := hid (rints_lst HD.out hl)
    have hy : topB n L q d = (lst m (Gr.stb (grL m L hP.good) k (fun i => d.getD i 0)), lst m (Gr.odo (grL m L hP.good) k (fun i => d.getD i 0)), true) := by unfold topB; rw [t1, hm, hk, stbL_eq hP.good, odoL_eq hP.good]; rfl
    subst hn
    subst hq
    have HT := hid t1
    have HY := hid hy
    have HZ := hid hz
    clear hm hk hl hz hy t1
    go_enter Try.func8, Try.ntmps8
    go_wp2_with fail
    refine (piAsked_c _ _ _ _ L d _ HR.out HD.out).mono ?_
    rintro e w1 ⟨rfl, hb1⟩
    rw [HT.out]
    have HB2 := hid hb1
    clear hb1
    go_wp2_with fail
    refine (piTopple_c m k _ _ L _ _ (HR.out.keep HB2.out) hP (HDL.out.keep HB2.out) (HZ.out.pilF (by decide)) HZ.out.2).mono ?_
    rintro e w3 ⟨y, s, rfl, hF, hS, hb3⟩
    have HB3 := hid (HB2.out.trans (hb3.mono HB2.out.size))
    have HF := hid (hF.mono (lo' := w.heap.size) HB2.out.size (Nat.le_refl _))
    have HS := hid (hS.mono (lo' := w.heap.size) HB2.out.size (Nat.le_refl _))
    obtain ⟨a7, n7, c7, rfl⟩ := hF.form3
    obtain ⟨a8, n8, c8, rfl⟩ := hS.form3
    clear hb3 hF hS
    go_wp2
    (try simp only [Exit.inBlock, Exit.then]); refine bodyPost_ret (results_tmp3q rfl _ _ _) rfl ?_
    exact ⟨_, _, by rw [HY.out]; rfl, by rw [HY.out]; exact HF.out, by rw [HY.out]; exact HS.out, HB3.out⟩
  · have hy : topB n L q d = ([], [], false) := by unfold topB; rw [t1]; rfl
    have HE := hid hy
    clear hy
    go_enter Try.func8, Try.ntmps8
    go_wp2_with fail
    refine (piAsked_c _ _ _ _ L d _ HR.out HD.out).mono ?_
    rintro e w1 ⟨rfl, hb1⟩
    rw [t1]
    have HB := hid hb1
    clear hb1
    go_wp2
    (try simp only [Exit.inBlock, Exit.then]); refine bodyPost_ret (results_tmp3q rfl _ _ _) rfl ?_
    exact ⟨_, _, by rw [HE.out]; rfl, by rw [HE.out]; exact ints_nil _ _ _, by rw [HE.out]; exact ints_nil _ _ _, HB.out⟩

set_option maxRecDepth 100000 in
set_option maxHeartbeats 2000000 in
theorem iToppleAll_u (n : Int) (v : Value) (L : List Lnk) (q : Int) (u : Value) (d : List Int) (w : World) (h : RLinks w v L) (hd : RInts w u d) :
    Calls Try.prog 7 #[.int .i64 n, v, .int .i64 q, u] w (RetTB w (topB n L q d)) := by
  have HR := hid h
  have HD := hid hd
  obtain ⟨a, cap, rfl⟩ := h.form
  obtain ⟨a2, cap2, rfl, _, _, hc⟩ := hd
  clear h hc
  obtain ⟨hm1, hal⟩ := rmat_one HD.out
  have HM := hid hm1
  have HAL := hid hal
  clear hm1 hal
  rcases Bool.eq_false_or_eq_true (piAB n L q d) with t1 | t1
  · obtain ⟨m, k, hn, hq, hm, hk, hP, hl, hz, _⟩ := piAB_parts t1
    have HDL := hid (rints_lst HD.out hl)
    have hy : topB n L q d = (lst m (Gr.stb (grL m L hP.good) k (fun i => d.getD i 0)), lst m (Gr.odo (grL m L hP.good) k (fun i => d.getD i 0)), true) := by unfold topB; rw [t1, hm, hk, stbL_eq hP.good, odoL_eq hP.good]; rfl
    subst hn
    subst hq
    have HT := hid t1
    have HY := hid hy
    have HZ := hid hz
    clear hm hk hl hz hy t1
    go_enter Try.func7, Try.ntmps7
    go_wp2_with fail
    refine (withPile_yes m k _ _ L d _ (HR.out.keep HAL.out) HM.out HT.out).mono ?_
    rintro e w1 ⟨g, rfl, hg, hb1, _⟩
    obtain ⟨c0, c1, hw2⟩ := tnew w1 (some ⟨g, 0, none⟩) k
    have hg2 := hg.keep hw2
    have hb02 := HAL.out.trans ((hb1.trans (hw2.mono hb1.size)).mono HAL.out.size)
    have HG2 := hid hg2
    have HB2 := hid hb02
    clear hg hb1 hw2 hg2 hb02
    go_wp2_with fail
    refine (topple_c m k g _ L _ _ hP HG2.out (HDL.out.keep HB2.out) (HZ.out.pilF (by decide))).mono ?_
    rintro e w3 ⟨y, s, rfl, hF, hS, hb3⟩
    have HB3 := hid (HB2.out.trans (hb3.mono HB2.out.size))
    have HF := hid (hF.mono (lo' := w.heap.size) HB2.out.size (Nat.le_refl _))
    have HS := hid (hS.mono (lo' := w.heap.size) HB2.out.size (Nat.le_refl _))
    obtain ⟨a7, n7, c7, rfl⟩ := hF.form3
    obtain ⟨a8, n8, c8, rfl⟩ := hS.form3
    clear hb3 hF hS c0 c1
    go_wp2
    (try simp only [Exit.inBlock, Exit.then]); refine bodyPost_ret (results_tmp3q rfl _ _ _) rfl ?_
    exact ⟨_, _, by rw [HY.out]; rfl, by rw [HY.out]; exact HF.out, by rw [HY.out]; exact HS.out, HB3.out⟩
  · have hy : topB n L q d = ([], [], false) := by unfold topB; rw [t1]; rfl
    have HE := hid hy
    clear hy
    go_enter Try.func7, Try.ntmps7
    go_wp2_with fail
    refine (withPile_no n q _ _ L d _ (HR.out.keep HAL.out) HM.out t1).mono ?_
    rintro e w1 ⟨ap, x, rfl, hb1⟩
    have HB := hid (HAL.out.trans ((hb1.alloc hb1.size (.cells #[.pointer ap, .int .i64 x] 54)).mono HAL.out.size))
    clear hb1
    go_wp2
    (try simp only [Exit.inBlock, Exit.then]); refine bodyPost_ret (results_tmp3q rfl _ _ _) rfl ?_
    exact ⟨_, _, by rw [HE.out]; rfl, by rw [HE.out]; exact ints_nil _ _ _, by rw [HE.out]; exact ints_nil _ _ _, HB.out⟩

end Go.Proofs.Ytifdhapaonideaa

/- AddPiles, IsPile, GreatestStable: both programs'. -/
namespace Go.Proofs.Ytifdhapaonideaa
open Go.RowKit
open Go.Lib (hid)

noncomputable def addpB (n : Int) (L : List Lnk) (q : Int) (a b : List Int) : List Int × Bool := if piAB n L q a && piPB n q b then (stbL n.toNat L q.toNat (fun i => a.getD i 0 + b.getD i 0), true) else ([], false)
noncomputable def ispB (n : Int) (L : List Lnk) (q : Int) (d : List Int) : Bool × Bool := if piGB n L q then (piPB n q d, true) else (false, false)
noncomputable def grsB (n : Int) (L : List Lnk) (q : Int) : List Int × Bool := if piGB n L q then (lst n.toNat (grtV n.toNat L q.toNat), true) else ([], false)
theorem piPB_pil {m k : Nat} {d : List Int} (h : piPB m k d = true) : d.length = m ∧ PilZ m k 50 (fun i => d.getD i 0) := by
  obtain ⟨h1, h2, h3⟩ := piPB_parts h
  exact ⟨h1, fun v hv _ => by
    rw [← h1] at hv
    have : d.getD v 0 ∈ d := by simp [List.getD, List.getElem?_eq_getElem hv]
    exact h2 _ this, h3⟩
theorem rmat_two {w : World} {u v : Value} {c d : List Int} (h : RInts w u c) (h' : RInts w v d) : RMat (w.alloc (.cells #[u, v] 25)) (.slice (some ⟨w.heap.size, 0, none⟩) 2 2) [c, d] ∧ Below w.heap.size w (w.alloc (.cells #[u, v] 25)) := by
  have hal : Below w.heap.size w (w.alloc (.cells #[u, v] 25)) := (Below.refl _ _).alloc (Nat.le_refl _) _
  have hbx : (w.alloc (.cells #[u, v] 25)).heap[w.heap.size]? = some (.cells #[u, v] 25 (0, 0)) := heap_alloc_new _ _
  refine ⟨⟨_, 2, rfl, Nat.le_refl _, by unfold maxLen; omega, fun i hi => ?_⟩, hal⟩
  rcases (show i = 0 ∨ i = 1 by simp at hi; omega) with rfl | rfl
  · exact ⟨w.heap.size, 0, u, rfl, by rw [cell_of_row _ _ _ _ _ _ hbx]; rfl, h.keep hal⟩
  · exact ⟨w.heap.size, 0, v, rfl, by rw [cell_of_row _ _ _ _ _ _ hbx]; rfl, h'.keep hal⟩

set_option maxRecDepth 100000 in
set_option maxHeartbeats 2000000 in
theorem sAddPiles_u (n : Int) (v : Value) (L : List Lnk) (q : Int) (u1 : Value) (c : List Int) (u2 : Value) (d : List Int) (w : World) (h : RLinks w v L) (hc : RInts w u1 c) (hd : RInts w u2 d) :
    Calls Try.prog 14 #[.int .i64 n, v, .int .i64 q, u1, u2] w (RetIB w (addpB n L q c d)) := by
  have HR := hid h
  have HC := hid hc
  have HD := hid hd
  obtain ⟨a, cap, rfl⟩ := h.form
  obtain ⟨a1, cap1, rfl, _, _, -⟩ := hc
  obtain ⟨a2, cap2, rfl, _, _, -⟩ := hd
  clear h
  rcases Bool.eq_false_or_eq_true (piAB n L q c) with t1 | t1
  · obtain ⟨m, k, hn, hq, hm, hk, hP, hl, hz, _⟩ := piAB_parts t1
    have HCL := hid (rints_lst HC.out hl)
    subst hn
    subst hq
    have HT := hid t1
    have HZ := hid hz
    cases t2 : piPB m k d
    · have hy : addpB m L k c d = ([], false) := by unfold addpB; rw [t1, t2]; rfl
      have HE := hid hy
      clear hm hk hl hz hy t1
      go_enter Try.func14, Try.ntmps14
      go_wp2_with fail
      refine (piAsked_c _ _ _ _ L c _ HR.out HC.out).mono ?_
      rintro e w1 ⟨rfl, hb1⟩
      rw [HT.out]
      have HB1 := hid hb1
      clear hb1
      go_wp2_with fail
      refine (piPile_c m k _ d _ (HD.out.keep HB1.out) hP.hq).mono ?_
      rintro e w2 ⟨rfl, rfl⟩
      rw [t2]
      go_wp2
      go_ret2
      exact ⟨_, by rw [HE.out]; rfl, by rw [HE.out]; exact ints_nil _ _ _, HB1.out⟩
    · obtain ⟨hl2, hz2⟩ := piPB_pil t2
      have HDL := hid (rints_lst HD.out hl2)
      have HZ2 := hid hz2
      have hy : addpB m L k c d = (lst m (Gr.stb (grL m L hP.good) k (fun i => c.getD i 0 + d.getD i 0)), true) := by unfold addpB; rw [t1, t2, hm, hk, stbL_eq hP.good]; rfl
      have HY := hid hy
      clear hm hk hl hz hy t1 hl2 hz2
      go_enter Try.func14, Try.ntmps14
      go_wp2_with fail
      refine (piAsked_c _ _ _ _ L c _ HR.out HC.out).mono ?_
      rintro e w1 ⟨rfl, hb1⟩
      rw [HT.out]
      have HB1 := hid hb1
      clear hb1
      go_wp2_with fail
      refine (piPile_c m k _ d _ (HD.out.keep HB1.out) hP.hq).mono ?_
      rintro e w2 ⟨rfl, rfl⟩
      rw [t2]
      have HB2 := HB1
      go_wp2_with fail
      refine (piSum_c m k _ _ _ L _ _ _ (HR.out.keep HB2.out) hP (HCL.out.keep HB2.out) (HDL.out.keep HB2.out) (HZ.out.mono (by decide)) (HZ2.out.mono (by decide))).mono ?_
      rintro e w3 ⟨y, rfl, hF, hb3⟩
      have HB3 := hid (HB2.out.trans (hb3.mono HB2.out.size))
      have HF := hid (hF.mono (lo' := w.heap.size) HB2.out.size (Nat.le_refl _))
      obtain ⟨a7, n7, c7, rfl⟩ := hF.form3
      clear hb3 hF
      go_wp2
      go_ret2
      exact ⟨_, by rw [HY.out]; rfl, by rw [HY.out]; exact HF.out, HB3.out⟩
  · have hy : addpB n L q c d = ([], false) := by unfold addpB; rw [t1]; rfl
    have HE := hid hy
    clear hy
    go_enter Try.func14, Try.ntmps14
    go_wp2_with fail
    refine (piAsked_c _ _ _ _ L c _ HR.out HC.out).mono ?_
    rintro e w1 ⟨rfl, hb1⟩
    rw [t1]
    have HB := hid hb1
    clear hb1
    go_wp2
    go_ret2
    exact ⟨_, by rw [HE.out]; rfl, by rw [HE.out]; exact ints_nil _ _ _, HB.out⟩

set_option maxRecDepth 100000 in
set_option maxHeartbeats 2000000 in
theorem iAddPiles_u (n : Int) (v : Value) (L : List Lnk) (q : Int) (u1 : Value) (c : List Int) (u2 : Value) (d : List Int) (w : World) (h : RLinks w v L) (hc : RInts w u1 c) (hd : RInts w u2 d) :
    Calls Try.prog 13 #[.int .i64 n, v, .int .i64 q, u1, u2] w (RetIB w (addpB n L q c d)) := by
  have HR := hid h
  have HC := hid hc
  have HD := hid hd
  obtain ⟨a, cap, rfl⟩ := h.form
  obtain ⟨a1, cap1, rfl, _, _, -⟩ := hc
  obtain ⟨a2, cap2, rfl, _, _, -⟩ := hd
  clear h
  obtain ⟨hm1, hal⟩ := rmat_two HC.out HD.out
  have HM := hid hm1
  have HAL := hid hal
  clear hm1 hal
  rcases Bool.eq_false_or_eq_true (piGB n L q) with t0 | t0
  · obtain ⟨m, k, hn, hq, hm, hk, hP⟩ := piGB_nat t0
    subst hn
    subst hq
    cases t2 : piPB m k c && piPB m k d
    · have hy : addpB m L k c d = ([], false) := by
        unfold addpB piAB
        rw [t0, Bool.true_and, t2]; rfl
      have HE := hid hy
      have HT := hid t0
      have HA : Hid ([c, d].all (fun x => piPB m k x) = false) := by show _ = _; simp only [List.all_cons, List.all_nil, Bool.and_true]; exact t2
      clear hm hk hy t0 t2
      go_enter Try.func13, Try.ntmps13
      go_wp2_with fail
      refine (withPiles_no2 m k _ _ L [c, d] _ (HR.out.keep HAL.out) HM.out HT.out HA.out).mono ?_
      rintro e w1 ⟨ap, x, rfl, hb1⟩
      have HB := hid (HAL.out.trans ((hb1.alloc hb1.size (.cells #[.pointer ap, .int .i64 x] 54)).mono HAL.out.size))
      clear hb1
      go_wp2
      go_ret2
      exact ⟨_, by rw [HE.out]; rfl, by rw [HE.out]; exact ints_nil _ _ _, HB.out⟩
    · have hy : addpB m L k c d = (lst m (Gr.stb (grL m L hP.good) k (fun i => c.getD i 0 + d.getD i 0)), true) := by
        unfold addpB piAB
        rw [t0, Bool.true_and, t2, hm, hk, stbL_eq hP.good]; rfl
      have HY := hid hy
      have HT := hid t0
      have HA : Hid ([c, d].all (fun x => piPB m k x) = true) := by show _ = _; simp only [List.all_cons, List.all_nil, Bool.and_true]; exact t2
      simp only [Bool.and_eq_true] at t2
      obtain ⟨hl1, hz1⟩ := piPB_pil t2.1
      obtain ⟨hl2, hz2⟩ := piPB_pil t2.2
      have HCL := hid (rints_lst HC.out hl1)
      have HDL := hid (rints_lst HD.out hl2)
      have HZ1 := hid hz1
      have HZ2 := hid hz2
      clear hm hk hy t0 t2 hl1 hl2 hz1 hz2
      go_enter Try.func13, Try.ntmps13
      go_wp2_with fail
      refine (withPiles_yes m k _ _ L [c, d] _ (HR.out.keep HAL.out) HM.out HT.out HA.out).mono ?_
      rintro e w1 ⟨g, rfl, hg, hb1, _⟩
      obtain ⟨c0, c1, hw2⟩ := tnew w1 (some ⟨g, 0, none⟩) k
      have hg2 := hg.keep hw2
      have hb02 := HAL.out.trans ((hb1.trans (hw2.mono hb1.size)).mono HAL.out.size)
      have HG2 := hid hg2
      have HB2 := hid hb02
      clear hg hb1 hw2 hg2 hb02
      go_wp2_with fail
      refine (sum_c m k g _ _ L _ _ _ hP HG2.out (HCL.out.keep HB2.out) (HDL.out.keep HB2.out) (HZ1.out.mono (by decide)) (HZ2.out.mono (by decide))).mono ?_
      rintro e w3 ⟨y, rfl, hF, hb3⟩
      have HB3 := hid (HB2.out.trans (hb3.mono HB2.out.size))
      have HF := hid (hF.mono (lo' := w.heap.size) HB2.out.size (Nat.le_refl _))
      obtain ⟨a7, n7, c7, rfl⟩ := hF.form3
      clear hb3 hF c0 c1
      go_wp2
      go_ret2
      exact ⟨_, by rw [HY.out]; rfl, by rw [HY.out]; exact HF.out, HB3.out⟩
  · have hy : addpB n L q c d = ([], false) := by unfold addpB piAB; rw [t0]; rfl
    have HE := hid hy
    clear hy
    go_enter Try.func13, Try.ntmps13
    go_wp2_with fail
    refine (withPiles_no1 n q _ _ L [c, d] _ (HR.out.keep HAL.out) HM.out t0).mono ?_
    rintro e w1 ⟨ap, x, rfl, hb1⟩
    have HB := hid (HAL.out.trans ((hb1.alloc hb1.size (.cells #[.pointer ap, .int .i64 x] 54)).mono HAL.out.size))
    clear hb1
    go_wp2
    go_ret2
    exact ⟨_, by rw [HE.out]; rfl, by rw [HE.out]; exact ints_nil _ _ _, HB.out⟩

set_option maxRecDepth 100000 in
set_option maxHeartbeats 2000000 in
theorem sIsPile_u (n : Int) (v : Value) (L : List Lnk) (q : Int) (u : Value) (d : List Int) (w : World) (h : RLinks w v L) (hd : RInts w u d) :
    Calls Try.prog 36 #[.int .i64 n, v, .int .i64 q, u] w (RetBC w (ispB n L q d)) := by
  have HR := hid h
  have HD := hid hd
  obtain ⟨a, cap, rfl⟩ := h.form
  obtain ⟨a2, cap2, rfl, _, _, hc⟩ := hd
  clear h hc
  rcases Bool.eq_false_or_eq_true (piGB n L q) with t1 | t1
  · obtain ⟨m, k, hn, hq, hm, hk, hP⟩ := piGB_nat t1
    have hy : ispB n L q d = (piPB m k d, true) := by unfold ispB; rw [t1, hn, hq]; rfl
    subst hn
    subst hq
    have HY := hid hy
    clear hm hk hy
    go_enter Try.func36, Try.ntmps36
    go_wp2_with fail
    refine (piGraph_c _ _ _ L _ HR.out).mono ?_
    rintro e w1 ⟨rfl, hb1⟩
    rw [t1]
    have HB1 := hid hb1
    clear hb1
    go_wp2_with fail
    refine (piPile_c m k _ d _ (HD.out.keep HB1.out) hP.hq).mono ?_
    rintro e w2 ⟨rfl, rfl⟩
    go_wp2
    go_ret2
    exact ⟨by rw [HY.out]; rfl, HB1.out⟩
  · have hy : ispB n L q d = (false, false) := by unfold ispB; rw [t1]; rfl
    have HE := hid hy
    clear hy
    go_enter Try.func36, Try.ntmps36
    go_wp2_with fail
    refine (piGraph_c _ _ _ L _ HR.out).mono ?_
    rintro e w1 ⟨rfl, hb1⟩
    rw [t1]
    go_wp2
    go_ret2
    exact ⟨by rw [HE.out]; rfl, hb1⟩

set_option maxRecDepth 100000 in
set_option maxHeartbeats 2000000 in
theorem iIsPile_u (n : Int) (v : Value) (L : List Lnk) (q : Int) (u : Value) (d : List Int) (w : World) (h : RLinks w v L) (hd : RInts w u d) :
    Calls Try.prog 32 #[.int .i64 n, v, .int .i64 q, u] w (RetBC w (ispB n L q d)) := by
  have HR := hid h
  have HD := hid hd
  obtain ⟨a, cap, rfl⟩ := h.form
  obtain ⟨a2, cap2, rfl, _, _, hc⟩ := hd
  clear h hc
  rcases Bool.eq_false_or_eq_true (piGB n L q) with t1 | t1
  · obtain ⟨m, k, hn, hq, hm, hk, hP⟩ := piGB_nat t1
    have hy : ispB n L q d = (piPB m k d, true) := by unfold ispB; rw [t1, hn, hq]; rfl
    subst hn
    subst hq
    have HY := hid hy
    clear hm hk hy
    go_enter Try.func32, Try.ntmps32
    go_wp2_with fail
    refine (tableOf_yes m k _ L _ HR.out t1).mono ?_
    rintro e w1 ⟨g, rfl, hg, hb1, -⟩
    have hal : Below w1.heap.size w1 (w1.alloc (.cells #[.pointer (some ⟨g, 0, none⟩), .int .i64 k] 54)) := (Below.refl _ _).alloc (Nat.le_refl _) _
    have HG := hid (hg.keep hal)
    have HB1 := hid (hb1.trans (hal.mono hb1.size))
    clear hg hb1 hal
    go_wp2_with fail
    refine (isPile_c m k g L _ d _ HG.out (HD.out.keep HB1.out) hP.hq).mono ?_
    rintro e w2 ⟨rfl, hb2⟩
    have HB2 := hid (HB1.out.trans (hb2.mono HB1.out.size))
    clear hb2
    go_wp2
    go_ret2
    exact ⟨by rw [HY.out]; rfl, HB2.out⟩
  · have hy : ispB n L q d = (false, false) := by unfold ispB; rw [t1]; rfl
    have HE := hid hy
    clear hy
    go_enter Try.func32, Try.ntmps32
    go_wp2_with fail
    refine (tableOf_no n q _ L _ HR.out t1).mono ?_
    rintro e w1 ⟨ap, x, rfl, hb1⟩
    have HB := hid (hb1.alloc hb1.size (.cells #[.pointer ap, .int .i64 x] 54))
    clear hb1
    go_wp2
    go_ret2
    exact ⟨by rw [HE.out]; rfl, HB.out⟩

set_option maxRecDepth 100000 in
set_option maxHeartbeats 2000000 in
theorem sGreatest_u (n : Int) (v : Value) (L : List Lnk) (q : Int) (w : World) (h : RLinks w v L) :
    Calls Try.prog 28 #[.int .i64 n, v, .int .i64 q] w (RetIB w (grsB n L q)) := by
  have HR := hid h
  obtain ⟨a, cap, rfl⟩ := h.form
  clear h
  rcases Bool.eq_false_or_eq_true (piGB n L q) with t1 | t1
  · obtain ⟨m, k, hn, hq, hm, hk, hP⟩ := piGB_nat t1
    have hy : grsB n L q = (lst m (grtV m L k), true) := by unfold grsB; rw [t1, hm, hk]; rfl
    subst hn
    subst hq
    have HY := hid hy
    clear hm hk hy
    go_enter Try.func28, Try.ntmps28
    go_wp2_with fail
    refine (piGraph_c _ _ _ L _ HR.out).mono ?_
    rintro e w1 ⟨rfl, hb1⟩
    rw [t1]
    have HB1 := hid hb1
    clear hb1
    go_wp2_with fail
    refine (piGreatest_c m k _ L _ (HR.out.keep HB1.out) hP.good).mono ?_
    rintro e w2 ⟨u, rfl, hF, hb2⟩
    have HF := hid (hF.mono HB1.out.size (Nat.le_refl _))
    have HB2 := hid (HB1.out.trans (hb2.mono HB1.out.size))
    obtain ⟨a3, n3, c3, rfl⟩ := hF.form3
    clear hF hb2
    go_wp2
    go_ret2
    exact ⟨_, by rw [HY.out]; rfl, by rw [HY.out]; exact HF.out, HB2.out⟩
  · have hy : grsB n L q = ([], false) := by unfold grsB; rw [t1]; rfl
    have HE := hid hy
    clear hy
    go_enter Try.func28, Try.ntmps28
    go_wp2_with fail
    refine (piGraph_c _ _ _ L _ HR.out).mono ?_
    rintro e w1 ⟨rfl, hb1⟩
    rw [t1]
    go_wp2
    go_ret2
    exact ⟨_, by rw [HE.out]; rfl, by rw [HE.out]; exact ints_nil _ _ _, hb1⟩

set_option maxRecDepth 100000 in
set_option maxHeartbeats 4000000 in
theorem iGreatest_u (n : Int) (v : Value) (L : List Lnk) (q : Int) (w : World) (h : RLinks w v L) :
    Calls Try.prog 27 #[.int .i64 n, v, .int .i64 q] w (RetIB w (grsB n L q)) := by
  have HR := hid h
  obtain ⟨a, cap, rfl⟩ := h.form
  clear h
  rcases Bool.eq_false_or_eq_true (piGB n L q) with t1 | t1
  · obtain ⟨m, k, hn, hq, hm, hk, hP⟩ := piGB_nat t1
    have hy : grsB n L q = (lst m (grtV m L k), true) := by unfold grsB; rw [t1, hm, hk]; rfl
    subst hn
    subst hq
    have HY := hid hy
    have hm1 := hP.n1
    have hm5 := hP.n5
    have hmk := run_make_row' (P := Try.prog) 25 3 (.int .i64 0) 8 Try.underlying25 Try.infoInt rfl .i64 .i64 m (by omega) (by omega)
    clear hm hk hy
    go_enter Try.func27, Try.ntmps27
    go_wp2_with fail
    refine (tableOf_yes m k _ L _ HR.out t1).mono ?_
    rintro e w1 ⟨g, rfl, hg, hb1, -⟩
    obtain ⟨wt, hwt⟩ : ∃ wt : World, wt = w1.alloc (.cells #[.pointer (some ⟨g, 0, none⟩), .int .i64 k] 54) := ⟨_, rfl⟩
    obtain ⟨k0, _, hal⟩ := tnew w1 (some ⟨g, 0, none⟩) k
    have HSZ := hid (show wt.heap.size = w1.heap.size + 1 by rw [hwt]; simp)
    rw [← hwt] at k0 hal
    have HWT := hid hwt
    have hg := hg.keep hal
    have HB1 := hid (hb1.trans (hal.mono hb1.size))
    obtain ⟨gv, ov, cv, hcv1, hcv2, c20, hvc0⟩ : ∃ gv ov cv : Nat, m ≤ cv ∧ cv ≤ 9223372036854775807 ∧ wt.cell? ⟨g, 2, none⟩ = some (.slice (some ⟨gv, ov, none⟩) m cv) ∧ ∀ i, i < m → wt.cell? ⟨gv, ov + i, none⟩ = some (.int .i64 (valV m L i)) := by
      obtain ⟨g2, bt, vt, hgg, _, _, c2, _, _, hv⟩ := hg
      simp only [Value.pointer.injEq, Option.some.injEq, Addr.mk.injEq, and_true] at hgg
      subst hgg
      obtain ⟨gv, ov, cv, rfl, h1, h2, h3⟩ := ri_open hv (by omega)
      exact ⟨gv, ov, cv, h1, h2, c2, h3⟩
    have HK := hid (And.intro k0 (And.intro c20 hvc0))
    have hF0 : FInts (wt.alloc (.cells (madeCells #[.int .i64 0] m) 3)) wt.heap.size (wt.heap.size + 1) (.slice (some ⟨wt.heap.size, 0, none⟩) m m) (lst m (fun _ => 0)) := fi_made wt m (by omega)
    have HF0 := hid hF0
    have hal2 : Below wt.heap.size wt (wt.alloc (.cells (madeCells #[.int .i64 0] m) 3)) := (Below.refl _ _).alloc (Nat.le_refl _) _
    have HAL2 := hid hal2
    have hwe : wt.heap.size + 1 ≤ (wt.alloc (.cells (madeCells #[.int .i64 0] m) 3)).heap.size := by simp
    clear hg hb1 hal c20 hvc0 hF0 hal2
    go_wp2_with fail
    rw [← HWT.out]
    go_wp2
    obtain ⟨w2, hw2⟩ : ∃ w2 : World, w2 = wt.alloc (.cells (madeCells #[.int .i64 0] m) 3) := ⟨_, rfl⟩
    rw [← hw2] at HF0 HAL2 hwe ⊢
    have hF0 := HF0.out
    rw [HSZ.out] at hF0 hwe
    have HF1 := hid hF0
    clear HF0 hF0
    clear hmk
    go_loopg [25] m (fun gk vv wr => ∃ j : Nat, j ≤ m ∧ gk = m - j ∧ vv = .int .i64 j ∧ FInts wr (w1.heap.size + 1) (w1.heap.size + 1 + 1) (.slice (some ⟨w1.heap.size + 1, 0, none⟩) m m) (lst m (partF (fun _ => 0) (grtV m L k) j)) ∧ Touch (w1.heap.size + 1) (w1.heap.size + 1 + 1) w2 wr)
    case atStart => exact ⟨0, Nat.zero_le _, rfl, rfl, by rw [part_zero]; exact HF1.out, Touch.refl _ _ _⟩
    case round =>
      obtain ⟨j, hj, rfl, rfl, hF, hT⟩ := hrel
      have HT := hid hT
      by_cases hlt : j < m
      · obtain ⟨hc, _, hset⟩ := fi_open hF
        have a1 := (hc j hlt).1
        rw [part_at] at a1
        have a2 := (hc j hlt).2
        have hjz : (j : Int) < (m : Int) := by omega
        have hkeep : ∀ (b o : Nat) (x : Value), wt.cell? ⟨b, o, none⟩ = some x → wr.cell? ⟨b, o, none⟩ = some x := fun b o x hx => hT.cell (by have := cell_lt hx; have := HSZ.out; omega) ((HAL2.out.cell (p := ⟨b, o, none⟩) (cell_lt hx)).trans hx)
        by_cases hkq : j = k
        · have t1 : ((j : Int) == (k : Int)) = true := beq_nat_true hkq
          have t2 : ((j : Int) != (k : Int)) = false := bne_of_true t1
          have HJK := hid hkq
          have hst := hF
          have hs2 : partF (fun _ => 0) (grtV m L k) j j = 0 := part_at ..
          have HO := hid (show FInts wr (w1.heap.size + 1) (w1.heap.size + 1 + 1) (.slice (some ⟨w1.heap.size + 1, 0, none⟩) m m) (lst m (partF (fun _ => 0) (grtV m L k) (j + 1))) by
            have : lst m (partF (fun _ => 0) (grtV m L k) (j + 1)) = lst m (partF (fun _ => 0) (grtV m L k) j) := by
              rw [← part_set m (fun _ => 0) (grtV m L k) (show (0 : Int) = grtV m L k j by unfold grtV; rw [if_pos HJK.out])]
              refine lst_congr fun i _ => ?_
              unfold upd
              split
              · next e => rw [e, hs2]
              · rfl
            rw [this]; exact hF)
          clear hF hT hc hset hst hkq hkeep a1 a2
          go_wp2
          go_roundg (m - (j + 1))
          case rel => exact ⟨j + 1, by omega, rfl, by go_num, HO.out, HT.out⟩
          case measure => omega
        · have t1 : ((j : Int) == (k : Int)) = false := beq_nat_false hkq
          have t2 : ((j : Int) != (k : Int)) = true := bne_of_false t1
          have d0 := hkeep _ _ _ HK.out.1
          have d2 := hkeep _ _ _ HK.out.2.1
          have d3 := hkeep _ _ _ (HK.out.2.2 j hlt)
          have hvb := valV_bound hP.good hlt
          have hst := hset j (valV m L j - 1) hlt
          rw [part_set m _ _ (show valV m L j - 1 = grtV m L k j by unfold grtV; rw [if_neg hkq])] at hst
          obtain ⟨x, hx⟩ : ∃ x, valV m L j = x := ⟨_, rfl⟩
          rw [hx] at d3 hst hvb
          have HO := hid (And.intro hst.1 (hT.trans hst.2))
          have f1 : IntKind.i64.wrap (x - 1) = x - 1 := IntWalk.i64_in _ (by omega)
          clear hF hT hc hset hst hkq hkeep hx
          go_wp2
          go_roundg (m - (j + 1))
          case rel => exact ⟨j + 1, by omega, rfl, by go_num, HO.out⟩
          case measure => omega
      · have hkn : j = m := by omega
        subst hkn
        rw [part_all] at hF
        have HF2 := hid hF
        have hbe := HAL2.out.trans (hT.below (by rw [HSZ.out]; exact Nat.le_refl _) HAL2.out.size)
        have HBE := hid (HB1.out.trans (hbe.mono HB1.out.size))
        clear hF hT hbe
        go_wp2
        go_ret2
        exact ⟨_, by rw [HY.out]; rfl, by rw [HY.out]; exact HF2.out.mono (by rw [← HSZ.out]; exact HB1.out.size) (Nat.le_trans hwe HT.out.size), HBE.out⟩
  · have hy : grsB n L q = ([], false) := by unfold grsB; rw [t1]; rfl
    have HE := hid hy
    clear hy
    go_enter Try.func27, Try.ntmps27
    go_wp2_with fail
    refine (tableOf_no n q _ L _ HR.out t1).mono ?_
    rintro e w1 ⟨ap, x, rfl, hb1⟩
    have HB := hid (hb1.alloc hb1.size (.cells #[.pointer ap, .int .i64 x] 54))
    clear hb1
    go_wp2
    go_ret2
    exact ⟨_, by rw [HE.out]; rfl, by rw [HE.out]; exact ints_nil _ _ _, HB.out⟩
end Go.Proofs.Ytifdhapaonideaa

/- What the law of piles asks, plain. -/
namespace Go.Proofs.Ytifdhapaonideaa
open Go.RowKit
open Go.Lib (hid)

theorem lst_own {d : List Int} {m : Nat} (h : d.length = m) : lst m (fun i => d.getD i 0) = d := by
  apply List.ext_getElem
  · rw [lst_len]; exact h.symm
  · intro i h1 h2
    rw [lst_len] at h1
    have := lst_at (n := m) (fun i => d.getD i 0) h1
    simp [List.getD, h2] at this
    simp [lst, List.getD, h2]
theorem piAB_mk {m k : Nat} {L : List Lnk} {d : List Int} (hg : piGB (m : Int) L (k : Int) = true) (hl : d.length = m) (hz : PilZ m k 50 (fun i => d.getD i 0)) : piAB (m : Int) L (k : Int) d = true := by
  unfold piAB piPB
  rw [hg, Bool.true_and]
  simp only [Bool.and_eq_true, beq_iff_eq, Int.toNat_natCast]
  refine ⟨by omega, ?_, hz.2⟩
  unfold allB
  rw [List.all_eq_true]
  intro x hx
  obtain ⟨i, hi, rfl⟩ := List.getElem_of_mem hx
  have := hz.all (by decide) (v := i) (by omega)
  simp [List.getD, hi] at this
  exact inB_iff.2 (by omega)
theorem piPB_of {m k : Nat} {L : List Lnk} {d : List Int} (h : piAB (m : Int) L (k : Int) d = true) : piPB (m : Int) (k : Int) d = true := by
  unfold piAB at h; simp only [Bool.and_eq_true] at h; exact h.2
theorem top_no {n q : Int} {L : List Lnk} {d : List Int} (h : piAB n L q d = false) : topB n L q d = ([], [], false) := by unfold topB; rw [h]; rfl
/-- a toppled pile is stable; nothing has toppled just if it was stable -/
theorem top_facts {m k : Nat} {L : List Lnk} {d : List Int} (h : piAB (m : Int) L (k : Int) d = true) :
    ∃ P T : List Int, topB (m : Int) L (k : Int) d = (P, T, true) ∧ istB (m : Int) L (k : Int) P = (true, true) ∧ istB (m : Int) L (k : Int) d = (decide (P = d), true) ∧ T.getD k 0 = 0 ∧ k < T.length ∧ T.length ≤ 5 ∧ (∀ x ∈ T, 0 ≤ x ∧ x ≤ 100000000000000000) ∧ (decide (P = d) = decide (T.sum = 0)) := by
  obtain ⟨m', k', hm, hk, _, _, hP, hl, hz, hg⟩ := piAB_parts h
  obtain rfl : m = m' := by omega
  obtain rfl : k = k' := by omega
  obtain ⟨f, hf⟩ : ∃ f : Nat → Int, (fun i => d.getD i 0) = f := ⟨_, rfl⟩
  have hd : lst m f = d := by rw [← hf]; exact lst_own hl
  rw [hf] at hz
  obtain ⟨W, _⟩ := Gr.wt8 (G := grL m L hP.good) hP.hq hP.con
  have h0 : ∀ v, v < m → v ≠ k → 0 ≤ f v := fun v h1 h2 => (hz.1 v h1 h2).1
  obtain ⟨c, c1, c2, c3, c4⟩ := Gr.stb_spec (G := grL m L hP.good) W h0
  have hsp := stb_pil hP hz
  have hss := stb_st hP hz
  have ht : topB (m : Int) L (k : Int) d = (lst m (Gr.stb (grL m L hP.good) k f), lst m c, true) := by
    unfold topB
    rw [h, hf]
    simp only [Int.toNat_natCast]
    rw [stbL_eq hP.good, odoL_eq hP.good, c4]; rfl
  have hat : Gr.Eqv (grL m L hP.good) k (fun i => (lst m (Gr.stb (grL m L hP.good) k f)).getD i 0) (Gr.stb (grL m L hP.good) k f) := fun v h1 _ => lst_at _ h1
  have hPz : PilZ m k 50 (fun i => (lst m (Gr.stb (grL m L hP.good) k f)).getD i 0) := by
    refine ⟨fun v h1 h2 => ?_, ?_⟩
    · have := hsp.1 v h1 h2
      have e := lst_at (Gr.stb (grL m L hP.good) k f) h1
      dsimp only; rw [e]; omega
    · have e := lst_at (Gr.stb (grL m L hP.good) k f) hP.hq
      show (lst m (Gr.stb (grL m L hP.good) k f)).getD k 0 = 0
      rw [e]; exact hsp.2
  have hPA := piAB_mk hg (lst_len m _) hPz
  have hi1 : istB (m : Int) L (k : Int) (lst m (Gr.stb (grL m L hP.good) k f)) = (true, true) := by
    unfold istB
    rw [hPA]
    simp only [Int.toNat_natCast]
    rw [(stB_iff hP.good).2 (hat.symm.stab hss)]; rfl
  have hbnd : ∀ u, u < m → 0 ≤ c u ∧ c u ≤ 46427408762688000 := fun u hu => ⟨c1.nonneg u, c1.few (G := grL m L hP.good) hP.hq hP.con h0 (fun v h1 h2 => by have := (hz.1 v h1 h2).2; omega) u hu⟩
  have hsum : (lst m c).sum = sumN m c := by
    have : ∀ n, (lst n c).sum = sumN n c := fun n => by
      induction n with
      | zero => rfl
      | succ n ih => rw [lst_succ, List.sum_append, ih]; simp [sumN]
    exact this m
  -- nothing topples just if the pile is stable
  have hst0 : (grL m L hP.good).Stab k f → c = Gr.none0 := fun hs => by
    have hn : (grL m L hP.good).Stab k (Gr.after (grL m L hP.good) f Gr.none0) := by rw [Gr.after_none]; exact hs
    exact c1.unique c2 .nil hn
  have heq0 : c = Gr.none0 → lst m (Gr.stb (grL m L hP.good) k f) = d := fun e => by
    rw [← hd]
    refine lst_eqv hP.good (q := k) ?_ (by rw [hsp.2, hz.2])
    rw [e, Gr.after_none] at c3
    exact c3
  have hds : lst m (Gr.stb (grL m L hP.good) k f) = d → (grL m L hP.good).Stab k f := fun e => by
    rw [← hd] at e
    have he : Gr.Eqv (grL m L hP.good) k (Gr.stb (grL m L hP.good) k f) f := (same_eqv hP.good hsp.2 hz.2).1 e
    exact he.stab hss
  have hz0 : sumN m c = 0 → c = Gr.none0 := fun e => by
    funext u
    by_cases hu : u < m
    · have h1 := le_sumN (f := c) hu (fun i hi _ => (hbnd i hi).1)
      have := (hbnd u hu).1
      simp [Gr.none0]; omega
    · rw [c1.out hu]; rfl
  have hstd : (grL m L hP.good).Stab k f ↔ lst m (Gr.stb (grL m L hP.good) k f) = d := ⟨fun h => heq0 (hst0 h), hds⟩
  refine ⟨_, _, ht, hi1, ?_, ?_, ?_, ?_, ?_, ?_⟩
  · unfold istB
    rw [h, hf]
    simp only [Int.toNat_natCast, if_true]
    have : stB m L k f = decide (lst m (Gr.stb (grL m L hP.good) k f) = d) := by
      rw [Bool.eq_iff_iff, stB_iff hP.good, hstd, decide_eq_true_eq]
    rw [this]
  · rw [lst_at c hP.hq]; exact c1.sink
  · rw [lst_len]; exact hP.hq
  · rw [lst_len]; exact hP.n5
  · intro x hx
    obtain ⟨i, hi, rfl⟩ := mem_lst.1 hx
    have := hbnd i hi; omega
  · rw [decide_eq_decide, hsum]
    constructor
    · intro e
      rw [hst0 (hds e)]
      exact sumN_zero (fun _ _ => rfl)
    · intro e; exact heq0 (hz0 e)

theorem addp_comm {n q : Int} {L : List Lnk} {c d : List Int} (h : (addpB n L q c d).2 = true) : addpB n L q d c = addpB n L q c d := by
  unfold addpB at h ⊢
  cases t : piAB n L q c && piPB n q d with
  | false => rw [t] at h; simp at h
  | true =>
    simp only [Bool.and_eq_true] at t
    have t1 := t.1
    unfold piAB at t1
    simp only [Bool.and_eq_true] at t1
    have : (piAB n L q d && piPB n q c) = true := by unfold piAB; rw [t1.1, t1.2, t.2]; rfl
    rw [this]
    simp only [if_true]
    congr 2
    funext i
    exact Int.add_comm _ _

theorem opp_no {n q : Int} {L : List Lnk} {d : List Int} (h : piRB n L q d = false) : oppB n L q d = ([], false) ∧ orpB n L q d = (0, false) ∧ ((isrB n L q d).2 && (isrB n L q d).1) = false := by
  refine ⟨oppB_no h, orpB_no h, ?_⟩
  unfold piRB at h
  unfold isrB
  cases t : piSB n L q d with
  | false => rfl
  | true => rw [t] at h; simpa using h
/-- a recurrent pile has an opposite and an order -/
theorem opp_yes {m k : Nat} {L : List Lnk} {d : List Int} (h : piRB (m : Int) L (k : Int) d = true) :
    ∃ (o E : List Int) (j : Int), oppB (m : Int) L (k : Int) d = (o, true) ∧ orpB (m : Int) L (k : Int) d = (j, true) ∧ isrB (m : Int) L (k : Int) d = (true, true) ∧ idpB (m : Int) L (k : Int) = (E, true) ∧ addpB (m : Int) L (k : Int) d o = (E, true) ∧
      addpB (m : Int) L (k : Int) d E = (d, true) ∧ 1 ≤ j ∧ decide (j = 1) = decide (d = E) := by
  obtain ⟨m', k', hm, hk, _, _, hP, hl, hz, hr, hsb⟩ := piRB_parts h
  obtain rfl : m = m' := by omega
  obtain rfl : k = k' := by omega
  have hg : piGB (m : Int) L (k : Int) = true := by
    unfold piSB piAB at hsb
    simp only [Bool.and_eq_true] at hsb
    exact hsb.1.1
  have hA : piAB (m : Int) L (k : Int) d = true := by
    unfold piSB at hsb
    simp only [Bool.and_eq_true] at hsb
    exact hsb.1
  obtain ⟨f, hf⟩ : ∃ f : Nat → Int, (fun i => d.getD i 0) = f := ⟨_, rfl⟩
  have hd : lst m f = d := by rw [← hf]; exact lst_own hl
  have hfd : ∀ i, d.getD i 0 = f i := fun i => by rw [← hf]
  have hy := oppB_yes h
  have ho := orpB_yes h
  simp only [Int.toNat_natCast, hf] at hy ho
  rw [hf] at hz hr
  obtain ⟨o0, o1, _⟩ := op_facts hP hz hr
  obtain ⟨W, _⟩ := Gr.wt8 (G := grL m L hP.good) hP.hq hP.con
  have hid := id_pil hP
  have hop := op_pil hP hz
  have padd : ∀ (g : Nat → Int), PilZ m k 50 g → addpB (m : Int) L (k : Int) d (lst m g) = (lst m (Gr.stb (grL m L hP.good) k (fun i => f i + g i)), true) := fun g hgz => by
    have hgz2 : PilZ m k 50 (fun i => (lst m g).getD i 0) := ⟨fun v h1 h2 => by have := hgz.1 v h1 h2; dsimp only; rw [lst_at g h1]; omega, by show (lst m g).getD k 0 = 0; rw [lst_at g hP.hq]; exact hgz.2⟩
    have hb := piPB_of (piAB_mk hg (lst_len m g) hgz2)
    unfold addpB
    rw [hA, hb]
    simp only [Int.toNat_natCast, Bool.and_self, if_true]
    rw [stbL_eq hP.good]
    congr 1
    refine lst_congr fun i hi => ?_
    exact Gr.stb_congr (G := grL m L hP.good) W (fun v h1 h2 => by
      have a := hz.1 v h1 h2
      have b := hgz2.1 v h1 h2
      dsimp only at b ⊢
      rw [hfd]; omega) (fun v h1 _ => by rw [hfd, lst_at g (show v < m from h1)]) i hi
  refine ⟨_, lst m (idF m L k hP.good), _, hy, ho, ?_, ?_, ?_, ?_, ?_, ?_⟩
  · rw [isrB_yes hsb]
    simp only [Int.toNat_natCast]
    rw [hf, (recB_iff hP.good).2 hr]
  · have := idpB_yes hg
    simp only [Int.toNat_natCast] at this
    rw [this, idL_eq hP.good]
  · rw [o0, padd _ (hop _), ← o1]
    congr 2
    show Gr.stb _ _ _ = Gr.op _ _ _ _
    show Gr.stb _ _ _ = Gr.stb _ _ _
    congr 1
    funext i
    exact Int.add_comm _ _
  · rw [padd _ (hid.mono (by decide))]
    congr 1
    have h1 := Gr.op_ms (G := grL m L hP.good) hP.hq W hP.con hr 0
    rw [← hd]
    refine lst_eqv hP.good (q := k) ?_ ?_
    · have e : Gr.stb (grL m L hP.good) k (fun i => f i + idF m L k hP.good i) = Gr.op (grL m L hP.good) k f (0 + 1) := by
        show Gr.stb _ _ _ = Gr.stb _ _ _
        congr 1
        funext i
        exact Int.add_comm _ _
      rw [e]; exact h1
    · rw [Gr.stb_sink, hz.2]
  · omega
  · rw [decide_eq_decide]
    have h2 : (ordN m L k f : Int) + 1 = 1 ↔ ordN m L k f = 0 := by omega
    rw [h2, ordN_eq hP.good, ← hd, same_eqv hP.good hz.2 hid.2]
    obtain ⟨s1, s2⟩ := Gr.ord_spec (G := grL m L hP.good) hP.hq W hP.con hr
    constructor
    · intro e; rw [e] at s1; exact s1
    · intro e
      apply Classical.byContradiction
      intro hne
      exact s2 0 (by omega) e
end Go.Proofs.Ytifdhapaonideaa

/- The cursor that draws: next, pick, one, among. -/
namespace Go.Proofs.Ytifdhapaonideaa
open Go.RowKit
open Go.Lib (hid)

/-- a slice of bytes -/
def RBytes (w : World) (v : Value) (n : Nat) : Prop :=
  ∃ a cap, v = .slice a n cap ∧ n ≤ cap ∧ cap ≤ maxLen ∧ ∀ i, i < n → ∃ (g o : Nat) (x : Int), a = some ⟨g, o, none⟩ ∧ w.cell? ⟨g, o + i, none⟩ = some (.int .u8 x) ∧ 0 ≤ x ∧ x < 256
/-- a cursor in block b; its bytes lie below b; so many steps at most are behind it -/
def Cur (w : World) (b k : Nat) : Prop :=
  ∃ (a : Option Addr) (n cap : Nat) (at_ sd : Int), w.heap[b]? = some (.cells #[.slice a n cap, .int .i64 at_, .int .u64 sd] 65 (0, 0)) ∧ 0 ≤ at_ ∧ at_ ≤ (k : Int) ∧ n ≤ cap ∧ n ≤ cap ∧ cap ≤ maxLen ∧
    0 ≤ sd ∧ sd < 18446744073709551616 ∧ ∀ i, i < n → ∃ (g o : Nat) (x : Int), a = some ⟨g, o, none⟩ ∧ g < b ∧ w.cell? ⟨g, o + i, none⟩ = some (.int .u8 x) ∧ 0 ≤ x ∧ x < 256
theorem Cur.lt {w : World} {b k : Nat} (h : Cur w b k) : b < w.heap.size := by
  obtain ⟨a, n, cap, at_, sd, hb, _⟩ := h
  exact (Array.getElem?_eq_some_iff.1 hb).1
theorem Cur.keep {w w' : World} {b k : Nat} (h : Cur w b k) (hb : Below w.heap.size w w') : Cur w' b k := by
  obtain ⟨a, n, cap, at_, sd, h1, h2, h3, h4, h5, h6, h7, h8, h9⟩ := h
  refine ⟨a, n, cap, at_, sd, (hb.block _ (Array.getElem?_eq_some_iff.1 h1).1).trans h1, h2, h3, h4, h5, h6, h7, h8, fun i hi => ?_⟩
  obtain ⟨g, o, x, ha, hg, hc, hx⟩ := h9 i hi
  exact ⟨g, o, x, ha, hg, (hb.cell (p := ⟨g, o + i, none⟩) (cell_lt hc)).trans hc, hx⟩
theorem Cur.more {w : World} {b k j : Nat} (h : Cur w b k) (hk : k ≤ j) : Cur w b j := by
  obtain ⟨a, n, cap, at_, sd, h1, h2, h3, h4⟩ := h
  exact ⟨a, n, cap, at_, sd, h1, h2, by omega, h4⟩
theorem Cur.drewN {w : World} {b k q : Nat} (h : Cur w b k) : Cur (w.drewN q) b k := h
/-- a step of the cursor: only its block is written -/
def RetCur (b k : Nat) (w : World) (P : Int → Prop) (e : Ending) (w' : World) : Prop := ∃ x, e = .returned (.int .i64 x) ∧ P x ∧ Cur w' b k ∧ Touch b (b + 1) w w'

theorem u64_63 (n : Int) (h₀ : 0 ≤ n) (h₁ : n < 2 ^ 63) : IntKind.u64.wrap n = n := by rw [IntKind.wrap_u64]; omega
theorem seed_byte (S : Int) (h0 : 0 ≤ S) (h1 : S < 18446744073709551616) : ∃ x, wrap64 (bits .and .u64 (S / 1099511627776) 255) = x ∧ 0 ≤ x ∧ x < 256 := by
  have h := bits_mask .u64 63 (by decide) u64_63 8 (by decide) (S / 1099511627776) (by omega) (by omega)
  have e : ((2 : Int) ^ 8 - 1) = 255 := by decide
  have e2 : ((2 : Int) ^ 8) = 256 := by decide
  rw [e, e2] at h
  refine ⟨_, rfl, ?_⟩
  rw [h]
  unfold wrap64
  omega
theorem u64_range (x : Int) : 0 ≤ IntKind.u64.wrap x ∧ IntKind.u64.wrap x < 18446744073709551616 := by rw [IntKind.wrap_u64]; omega
theorem Touch.cell1 {lo hi : Nat} {w w' : World} (h : Touch lo hi w w') {b o : Nat} {v : Value} (hb : ¬ (lo ≤ b ∧ b < hi)) (hc : w.cell? ⟨b, o, none⟩ = some v) : w'.cell? ⟨b, o, none⟩ = some v := by
  have hlt : b < w.heap.size := cell_lt hc
  have hk := h.block b hlt hb
  unfold World.cell? at hc ⊢
  simp only at hc ⊢
  rw [hk]; exact hc
/-- the cursor behind a step -/
theorem cur_step {w : World} {b k : Nat} {a : Option Addr} {n cap : Nat} {at_ sd S : Int} {p r : Nat} (h1 : w.heap[b]? = some (.cells #[.slice a n cap, .int .i64 at_, .int .u64 sd] 65 (0, 0))) (h2 : 0 ≤ at_) (h3 : at_ ≤ (k : Int)) (h4 : n ≤ cap) (h5 : n ≤ cap) (h6 : cap ≤ maxLen)
    (h9 : ∀ i, i < n → ∃ (g o : Nat) (x : Int), a = some ⟨g, o, none⟩ ∧ g < b ∧ w.cell? ⟨g, o + i, none⟩ = some (.int .u8 x) ∧ 0 ≤ x ∧ x < 256) (hS : 0 ≤ S ∧ S < 18446744073709551616) :
    Cur ((((w.drewN p).setCell ⟨b, 1, none⟩ (.int .i64 (at_ + 1))).setCell ⟨b, 2, none⟩ (.int .u64 S)).drewN r) b (k + 1) ∧ Touch b (b + 1) w ((((w.drewN p).setCell ⟨b, 1, none⟩ (.int .i64 (at_ + 1))).setCell ⟨b, 2, none⟩ (.int .u64 S)).drewN r) := by
  have e1 := heap_setCell_same (w.drewN p) b 1 _ _ (.int .i64 (at_ + 1)) h1
  have e2 := heap_setCell_same _ b 2 _ _ (.int .u64 S) e1
  have hoth : ∀ c, c ≠ b → (((w.drewN p).setCell ⟨b, 1, none⟩ (.int .i64 (at_ + 1))).setCell ⟨b, 2, none⟩ (.int .u64 S)).heap[c]? = w.heap[c]? := fun c hc =>
    (heap_setCell_other _ _ _ _ hc).trans (heap_setCell_other _ _ _ _ hc)
  have hT : Touch b (b + 1) w ((((w.drewN p).setCell ⟨b, 1, none⟩ (.int .i64 (at_ + 1))).setCell ⟨b, 2, none⟩ (.int .u64 S)).drewN r) := ⟨rfl, rfl, rfl, by simp [World.setCell, World.drewN], fun c _ hc => hoth c (by omega)⟩
  refine ⟨⟨a, n, cap, at_ + 1, S, e2, by omega, by omega, h4, h5, h6, hS.1, hS.2, fun i hi => ?_⟩, hT⟩
  obtain ⟨g, o, x, ha, hg, hc, hx⟩ := h9 i hi
  exact ⟨g, o, x, ha, hg, hT.cell1 (by omega) hc, hx⟩

set_option maxRecDepth 100000 in
set_option maxHeartbeats 4000000 in
theorem next_c (b k : Nat) (w : World) (h : Cur w b k) (hk : k ≤ 1000000000000) :
    Calls Try.prog 100 #[.pointer (some ⟨b, 0, none⟩)] w (RetCur b (k + 1) w (fun x => 0 ≤ x ∧ x < 256)) := by
  obtain ⟨a, n, cap, at_, sd, h1, h2, h3, h4, h5, h6, h7, h8, h9⟩ := h
  unfold maxLen at h6
  have H1 := hid h1
  have H9 := hid h9
  have c0 : w.cell? ⟨b, 0, none⟩ = some (.slice a n cap) := by rw [cell_of_row _ _ _ _ _ _ h1]; rfl
  have c1 : w.cell? ⟨b, 1, none⟩ = some (.int .i64 at_) := by rw [cell_of_row _ _ _ _ _ _ h1]; rfl
  have c2 : w.cell? ⟨b, 2, none⟩ = some (.int .u64 sd) := by rw [cell_of_row _ _ _ _ _ _ h1]; rfl
  have d0 := frozen_of_row w b 0 _ _ h1
  have d1 := frozen_of_row w b 1 _ _ h1
  have d2 := frozen_of_row w b 2 _ _ h1
  have f1 : IntKind.i64.wrap (at_ + 1) = at_ + 1 := IntWalk.i64_in _ (by omega)
  clear h1 h9
  by_cases hlt : at_ < (n : Int)
  · obtain ⟨j, hj⟩ : ∃ j : Nat, at_ = j := ⟨at_.toNat, by omega⟩
    subst hj
    obtain ⟨g, o, x, rfl, hg, hc, hx1, hx2⟩ := H9.out j (by omega)
    have hgb : g ≠ b := by omega
    have t1 : decide ((j : Int) < (n : Int)) = true := decide_eq_true hlt
    have t2 : decide ((j : Int) + 1 ≤ (n : Int)) = true := decide_eq_true (by omega)
    go_enter Try.func100, Try.ntmps100
    go_wp2
    go_quiet (fail)
    go_wp2
    go_quiet (fail)
    go_wp2
    go_quiet (fail)
    go_wp2
    go_ret
    exact ⟨_, rfl, ⟨hx1, hx2⟩, cur_step H1.out h2 h3 h4 h5 h6 H9.out (u64_range _)⟩
  · have t1 : decide (at_ < (n : Int)) = false := decide_eq_false hlt
    have t2 : decide (at_ + 1 ≤ (n : Int)) = false := decide_eq_false (by omega)
    have t3 : ¬ (at_ + 1 ≤ (n : Int)) := by omega
    go_enter Try.func100, Try.ntmps100
    go_wp2
    go_quiet (fail)
    go_wp2
    go_quiet (fail)
    go_wp2
    go_ret
    refine ⟨_, rfl, ?_, cur_step (p := _) H1.out h2 h3 h4 h5 h6 H9.out (u64_range _)⟩
    obtain ⟨y, hy, h⟩ := seed_byte (IntKind.u64.wrap (IntKind.u64.wrap (IntKind.u64.wrap (sd * 6364136223846793005)) + 1442695040888963407)) (u64_range _).1 (u64_range _).2
    rw [← hy] at h
    exact h

theorem RetCur.mono {b k j : Nat} {w w1 w2 : World} {P : Int → Prop} {e : Ending} (h : RetCur b k w1 P e w2) (hk : k ≤ j) (ht : Touch b (b + 1) w w1) : RetCur b j w P e w2 := by
  obtain ⟨x, h1, h2, h3, h4⟩ := h
  exact ⟨x, h1, h2, h3.more hk, ht.trans h4⟩
set_option maxRecDepth 100000 in
set_option maxHeartbeats 4000000 in
theorem pick_c (b k : Nat) (n : Int) (w : World) (h : Cur w b k) (hk : k ≤ 999999999990) (hn : n ≤ 60000) :
    Calls Try.prog 79 #[.pointer (some ⟨b, 0, none⟩), .int .i64 n] w (RetCur b (k + 2) w (fun x => 0 ≤ x ∧ (x < n ∨ x = 0))) := by
  have HH := hid h
  clear h
  by_cases h1 : n ≤ 1
  · go_enter Try.func79, Try.ntmps79
    go_wp2
    go_ret
    exact ⟨0, rfl, ⟨Int.le_refl _, .inr rfl⟩, HH.out.more (by omega), Touch.refl _ _ _⟩
  · by_cases h2 : n > 200
    · go_enter Try.func79, Try.ntmps79
      go_wp2_with fail
      refine (next_c b k _ HH.out (by omega)).mono ?_
      rintro e w1 ⟨x, rfl, ⟨hx1, hx2⟩, hc1, ht1⟩
      have HC1 := hid hc1
      have HT1 := hid ht1
      clear hc1 ht1
      have f1 : IntKind.i64.wrap (x * 256) = x * 256 := IntWalk.i64_in _ (by omega)
      go_wp2_with fail
      refine (next_c b (k + 1) _ HC1.out (by omega)).mono ?_
      rintro e w2 ⟨y, rfl, ⟨hy1, hy2⟩, hc2, ht2⟩
      have HC2 := hid hc2
      have HT2 := hid (HT1.out.trans ht2)
      clear hc2 ht2
      have f2 : IntKind.i64.wrap (x * 256 + y) = x * 256 + y := IntWalk.i64_in _ (by omega)
      have f3 : (x * 256 + y).tmod n = (x * 256 + y) % n := Int.tmod_eq_emod_of_nonneg (by omega)
      have f4 := Int.emod_nonneg (x * 256 + y) (show n ≠ 0 by omega)
      have f5 := Int.emod_lt_of_pos (x * 256 + y) (show 0 < n by omega)
      have f6 : IntKind.i64.wrap ((x * 256 + y) % n) = (x * 256 + y) % n := IntWalk.i64_in _ (by omega)
      go_wp2
      go_ret
      exact ⟨_, rfl, ⟨f4, .inl f5⟩, HC2.out, HT2.out⟩
    · go_enter Try.func79, Try.ntmps79
      go_wp2_with fail
      refine (next_c b k _ HH.out (by omega)).mono ?_
      rintro e w1 ⟨x, rfl, ⟨hx1, hx2⟩, hc1, ht1⟩
      have HC1 := hid hc1
      have HT1 := hid ht1
      clear hc1 ht1
      have f3 : x.tmod n = x % n := Int.tmod_eq_emod_of_nonneg (by omega)
      have f4 := Int.emod_nonneg x (show n ≠ 0 by omega)
      have f5 := Int.emod_lt_of_pos x (show 0 < n by omega)
      have f6 : IntKind.i64.wrap (x % n) = x % n := IntWalk.i64_in _ (by omega)
      go_wp2
      go_ret
      exact ⟨_, rfl, ⟨f4, .inl f5⟩, HC1.out.more (by omega), HT1.out⟩

def RetCurB (b k : Nat) (w : World) (e : Ending) (w' : World) : Prop := ∃ x, e = .returned (.bool x) ∧ Cur w' b k ∧ Touch b (b + 1) w w'
set_option maxRecDepth 100000 in
set_option maxHeartbeats 4000000 in
theorem one_c (b k : Nat) (n : Int) (w : World) (h : Cur w b k) (hk : k ≤ 999999999990) (hn : n ≤ 60000) :
    Calls Try.prog 77 #[.pointer (some ⟨b, 0, none⟩), .int .i64 n] w (RetCurB b (k + 2) w) := by
  have HH := hid h
  clear h
  go_enter Try.func77, Try.ntmps77
  go_wp2_with fail
  refine (pick_c b k n _ HH.out hk hn).mono ?_
  rintro e w1 ⟨x, rfl, _, hc1, ht1⟩
  have HC1 := hid hc1
  have HT1 := hid ht1
  clear hc1 ht1
  go_wp2
  go_ret
  exact ⟨_, rfl, HC1.out, HT1.out⟩

set_option maxRecDepth 100000 in
set_option maxHeartbeats 4000000 in
theorem among_c (b k : Nat) (v : Value) (l : List Int) (w : World) (h : Cur w b k) (hk : k ≤ 999999999990) (hv : RInts w v l) (hl : 0 < l.length) (hl2 : l.length ≤ 1000) (hfr : ∀ p, v.ownBlock = some p → p ≠ b) :
    Calls Try.prog 78 #[.pointer (some ⟨b, 0, none⟩), v] w (RetCur b (k + 2) w (fun x => x ∈ l)) := by
  have HH := hid h
  obtain ⟨a, cap, rfl, h1, h2, hc⟩ := hv
  have HV := hid hc
  have HFR := hid hfr
  clear h hc hfr
  go_enter Try.func78, Try.ntmps78
  go_wp2_with fail
  refine (pick_c b k l.length _ HH.out hk (by omega)).mono ?_
  rintro e w1 ⟨x, rfl, ⟨hx1, hx2⟩, hc1, ht1⟩
  obtain ⟨y, rfl⟩ : ∃ y : Nat, x = y := ⟨x.toNat, by omega⟩
  have hy : y < l.length := by omega
  obtain ⟨g, o, x, rfl, hcell, HD, HX⟩ := ints_at HV.out hy
  have hgb : g ≠ b := HFR.out g rfl
  have hcell1 := ht1.cell1 (b := g) (by omega) hcell
  have HC1 := hid hc1
  have HT1 := hid ht1
  have hx : x ∈ l := by rw [← HX.out]; simp [List.getD, List.getElem?_eq_getElem hy]
  have hyz : (y : Int) < (l.length : Int) := by omega
  clear hc1 ht1
  go_wp2
  go_ret
  exact ⟨_, rfl, hx, HC1.out, HT1.out⟩

end Go.Proofs.Ytifdhapaonideaa

/- Slices of links of the call's own, that grow. -/
namespace Go.Proofs.Ytifdhapaonideaa
open Go.RowKit
open Go.Lib (hid)

/-- the cells of links -/
def flatL : List Lnk → List Value
  | [] => []
  | t :: ts => .int .i64 t.a :: .int .i64 t.b :: .int .i64 t.n :: flatL ts
theorem flatL_append (L M : List Lnk) : flatL (L ++ M) = flatL L ++ flatL M := by
  induction L with
  | nil => rfl
  | cons t ts ih => show _ :: _ :: _ :: flatL (ts ++ M) = _ :: _ :: _ :: (flatL ts ++ flatL M); rw [ih]
theorem flatL_len (L : List Lnk) : (flatL L).length = L.length * 3 := by
  induction L with
  | nil => rfl
  | cons t ts ih => show (flatL ts).length + 1 + 1 + 1 = (ts.length + 1) * 3; omega
theorem flatL_at (L : List Lnk) : ∀ i, i < L.length → (flatL L)[i * 3]? = some (.int .i64 (L.getD i noLnk).a) ∧ (flatL L)[i * 3 + 1]? = some (.int .i64 (L.getD i noLnk).b) ∧ (flatL L)[i * 3 + 2]? = some (.int .i64 (L.getD i noLnk).n) := by
  induction L with
  | nil => intro i hi; simp at hi
  | cons t ts ih =>
    intro i hi
    cases i with
    | zero => exact ⟨rfl, rfl, rfl⟩
    | succ i =>
      have := ih i (by simpa using hi)
      rw [show (i + 1) * 3 = i * 3 + 1 + 1 + 1 by omega]
      exact this
theorem flatL_set (L : List Lnk) : ∀ (i : Nat) (q : Int), i < L.length → (flatL L).set (i * 3 + 2) (.int .i64 q) = flatL (L.set i ⟨(L.getD i noLnk).a, (L.getD i noLnk).b, q⟩) := by
  induction L with
  | nil => intro i q hi; simp at hi
  | cons t ts ih =>
    intro i q hi
    cases i with
    | zero => rfl
    | succ i =>
      rw [show (i + 1) * 3 + 2 = i * 3 + 2 + 1 + 1 + 1 by omega]
      show _ :: _ :: _ :: (flatL ts).set (i * 3 + 2) _ = _ :: _ :: _ :: flatL (ts.set i _)
      rw [ih i q (by simpa using hi)]
      rfl

/-- v is a slice of links in a block of its own from lo on -/
def OLinks (w : World) (lo : Nat) (v : Value) (L : List Lnk) : Prop := w.ownsRow lo 104 3 v L.length (flatL L)
theorem olinks_nil (w : World) (lo : Nat) : OLinks w lo (.slice none 0 0) [] := World.ownsRow_nil _ _ _ _
theorem OLinks.keep {w w' : World} {lo : Nat} {v : Value} {L : List Lnk} (h : OLinks w lo v L) (hb : Below w.heap.size w w') : OLinks w' lo v L := by
  refine ⟨h.1, ?_⟩
  rcases h.2 with hn | ⟨g, cap, cur, rfl, hb1, hg, rest⟩
  · exact .inl hn
  · exact .inr ⟨g, cap, cur, rfl, hb1, by rw [hb.block g (Array.getElem?_eq_some_iff.1 hg).1]; exact hg, rest⟩
theorem OLinks.touch {w w' : World} {lo b c : Nat} {v : Value} {L : List Lnk} (h : OLinks w lo v L) (hb : Touch b c w w') (hc : c ≤ lo) : OLinks w' lo v L := by
  refine ⟨h.1, ?_⟩
  rcases h.2 with hn | ⟨g, cap, cur, rfl, hb1, hg, rest⟩
  · exact .inl hn
  · exact .inr ⟨g, cap, cur, rfl, hb1, by rw [hb.block g (Array.getElem?_eq_some_iff.1 hg).1 (by omega)]; exact hg, rest⟩
theorem OLinks.form {w : World} {lo : Nat} {v : Value} {L : List Lnk} (h : OLinks w lo v L) : ∃ a n cap, v = .slice a n cap := by
  rcases h.2 with ⟨rfl, _⟩ | ⟨g, cap, cur, rfl, _⟩
  · exact ⟨_, _, _, rfl⟩
  · exact ⟨_, _, _, rfl⟩
theorem OLinks.form2 {w : World} {lo : Nat} {v : Value} {L : List Lnk} (h : OLinks w lo v L) : ∃ a cap, v = .slice a L.length cap := by
  rcases h.2 with ⟨rfl, hn⟩ | ⟨g, cap, cur, rfl, _⟩
  · rw [hn]; exact ⟨_, _, rfl⟩
  · exact ⟨_, _, rfl⟩
theorem OLinks.r {w : World} {lo : Nat} {v : Value} {L : List Lnk} (h : OLinks w lo v L) : RLinks w v L := by
  have h2' := h
  rcases h.2 with ⟨rfl, hn⟩ | ⟨g, cap, cur, rfl, _, _, hnc, hcm, _⟩
  · have hL : L = [] := List.length_eq_zero_iff.1 hn
    subst hL
    exact ⟨none, 0, rfl, Nat.le_refl _, by unfold maxLen; omega, fun i hi => by simp at hi⟩
  · refine ⟨_, cap, rfl, hnc, hcm, fun i hi => ⟨g, 0, rfl, ?_, ?_, ?_⟩⟩
    · rw [Nat.zero_add, h2'.cellAt (i * 3) (by omega)]; exact (flatL_at L i hi).1
    · rw [Nat.zero_add, h2'.cellAt (i * 3 + 1) (by omega)]; exact (flatL_at L i hi).2.1
    · rw [Nat.zero_add, h2'.cellAt (i * 3 + 2) (by omega)]; exact (flatL_at L i hi).2.2

theorem run_append_links {w : World} {lo : Nat} {v : Value} {L : List Lnk} (ty : TypeId) (h : OLinks w lo v L) {g c : Nat} {x y z : Int}
    (h0 : w.cell? ⟨g, 0, none⟩ = some (.int .i64 x)) (h1 : w.cell? ⟨g, 1, none⟩ = some (.int .i64 y)) (h2 : w.cell? ⟨g, 2, none⟩ = some (.int .i64 z))
    (hlen : L.length + 1 ≤ 1048576) (hlo : lo ≤ w.heap.size) :
    ∃ v' w', (Builtin.append_ #[24, 24] ty #[v, .slice (some ⟨g, 0, none⟩) 1 c]).run Try.prog w = .ok v' w' ∧ OLinks w' lo v' (L ++ [⟨x, y, z⟩]) ∧ w.grownBy w' v.ownBlock := by
  obtain ⟨i0, hi0, hz0, hz1, hz2⟩ := info_parts Try.infoLink
  obtain ⟨v', w', hr, hown, hg, hn⟩ := run_append_own (P := Try.prog) w lo 24 ty 104 i0 (.agg #[.int .i64 0, .int .i64 0, .int .i64 0]) 3 24 Try.underlying24 hi0 hz0 hz1 hz2 rfl (by decide) v L.length (flatL L) h
    ⟨g, 0, none⟩ 1 c (flatL [⟨x, y, z⟩]) (flatL_len _) (fun j u hu => by
      rw [addr_add, Nat.zero_add]
      match j, hu with
      | 0, hu => cases hu; exact h0
      | 1, hu => cases hu; exact h1
      | 2, hu => cases hu; exact h2
      | j + 3, hu => simp [flatL] at hu) (fun u hu => by
      simp only [flatL, List.mem_cons, List.not_mem_nil, or_false] at hu
      rcases hu with rfl | rfl | rfl <;> rfl) (by unfold maxLen; omega) (by omega) hlo
  exact ⟨v', w', hr, by unfold OLinks; rw [List.length_append, flatL_append]; exact hown, hg⟩

theorem wpList_append_links {w : World} {ops : Array Oper} {rest : List Oper} {o : Oper} {a : Act} {Q : Exit → Act → World → Prop} (hgd : o.guard = none) (s x : Operand)
    (ho : o.op = .call { callee := .builtin .append, args := #[s, x], argTypes := #[24, 24] }) (lo : Nat) (v : Value) (L : List Lnk) (g c : Nat) (x1 x2 x3 : Int) (hs : a.eval s = v) (hx : a.eval x = .slice (some ⟨g, 0, none⟩) 1 c)
    (h : OLinks w lo v L) (h0 : w.cell? ⟨g, 0, none⟩ = some (.int .i64 x1)) (h1 : w.cell? ⟨g, 1, none⟩ = some (.int .i64 x2)) (h2 : w.cell? ⟨g, 2, none⟩ = some (.int .i64 x3))
    (hlen : L.length + 1 ≤ 1048576) (hlo : lo ≤ w.heap.size)
    (hh : ∀ v' w', OLinks w' lo v' (L ++ [⟨x1, x2, x3⟩]) → w.grownBy w' v.ownBlock → wpList Try.prog ops Q rest (a.put o.dst v') w') : wpList Try.prog ops Q (o :: rest) a w := by
  refine wpList_plain hgd fun K hK => ?_
  obtain ⟨v', w', hr', h2, h3⟩ := run_append_links (c := c) o.type h h0 h1 h2 hlen hlo
  unfold Oper.wp execOp
  simp only [ho, resolve, invoke, builtin, Sem.run_bind, Sem.run_pure, Result.andThen_ok, List.map_toArray, List.map_cons, List.map_nil, hs, hx, hr']
  exact hK _ _ (hh v' w' h2 h3)

theorem OLinks.below {w w' a : World} {lo B : Nat} {v : Value} {L : List Lnk} (h : OLinks w lo v L) (hb : Below B a w) (hg : w.grownBy w' v.ownBlock) (hlo : B ≤ lo) (hB : B ≤ w.heap.size) : Below B a w' :=
  hb.grown hg hB (fun k hk => Nat.le_trans hlo (h.lt k hk).1)
theorem OLinks.set {w : World} {lo : Nat} {a : Option Addr} {n cap : Nat} {L : List Lnk} (h : OLinks w lo (.slice a n cap) L) {i : Nat} (hi : i < L.length) :
    ∃ g, a = some ⟨g, 0, none⟩ ∧ n = L.length ∧ lo ≤ g ∧ g < w.heap.size ∧ (∃ q, w.cell? ⟨g, i * 3 + 2, none⟩ = some (.int .i64 q)) ∧ w.frozen? ⟨g, i * 3 + 2, none⟩ = false ∧
      ∀ q, OLinks (w.setCell ⟨g, i * 3 + 2, none⟩ (.int .i64 q)) lo (.slice (some ⟨g, 0, none⟩) n cap) (L.set i ⟨(L.getD i noLnk).a, (L.getD i noLnk).b, q⟩) := by
  have h2' := h
  rcases h.2 with ⟨hv, hn⟩ | ⟨g, cap', cur, hv, hlo, hg, hnc, hcm, _⟩
  · omega
  · simp only [Value.slice.injEq] at hv
    obtain ⟨rfl, rfl, rfl⟩ := hv
    refine ⟨g, rfl, rfl, hlo, (Array.getElem?_eq_some_iff.1 hg).1, ⟨(L.getD i noLnk).n, ?_⟩, frozen_of_row _ _ _ _ _ hg, fun q => ?_⟩
    · rw [h2'.cellAt (i * 3 + 2) (by omega)]; exact (flatL_at L i hi).2.2
    · unfold OLinks; rw [← flatL_set L i q hi, List.length_set]; exact (h2'.stored (i * 3 + 2) (.int .i64 q)).1

end Go.Proofs.Ytifdhapaonideaa

/- Drawn graphs: graph, anyGraph. -/
namespace Go.Proofs.Ytifdhapaonideaa
open Go.RowKit
open Go.Lib (hid)

/-- only the cursor's block and what is new from lo on is written -/
structure Dr (b lo : Nat) (w w' : World) : Prop where
  os : w'.os = w.os
  tape : w'.tape = w.tape
  output : w'.output = w.output
  size : w.heap.size ≤ w'.heap.size
  block : ∀ c, c < lo → c ≠ b → w'.heap[c]? = w.heap[c]?
theorem Dr.refl (b lo : Nat) (w : World) : Dr b lo w w := ⟨rfl, rfl, rfl, Nat.le_refl _, fun _ _ _ => rfl⟩
theorem Dr.trans {b lo : Nat} {w w1 w2 : World} (h : Dr b lo w w1) (k : Dr b lo w1 w2) : Dr b lo w w2 :=
  ⟨k.os.trans h.os, k.tape.trans h.tape, k.output.trans h.output, Nat.le_trans h.size k.size, fun c h1 h2 => (k.block c h1 h2).trans (h.block c h1 h2)⟩
theorem Dr.low {b lo lo' : Nat} {w w' : World} (h : Dr b lo w w') (hl : lo' ≤ lo) : Dr b lo' w w' := ⟨h.os, h.tape, h.output, h.size, fun c h1 h2 => h.block c (by omega) h2⟩
theorem Dr.touch {b lo : Nat} {a w w' : World} (h : Dr b lo a w) (hlo : lo ≤ a.heap.size) (k : Touch b (b + 1) w w') : Dr b lo a w' :=
  h.trans ⟨k.os, k.tape, k.output, k.size, fun c h1 h2 => k.block c (by have := h.size; omega) (by omega)⟩
theorem Dr.below {b lo : Nat} {a w w' : World} (h : Dr b lo a w) (k : Below lo w w') : Dr b lo a w' :=
  h.trans ⟨k.os, k.tape, k.output, k.size, fun c h1 _ => k.block c h1⟩
theorem Cur.low {w w' : World} {b k : Nat} (h : Cur w b k) (hb : Below (b + 1) w w') : Cur w' b k := by
  obtain ⟨a, n, cap, at_, sd, h1, h2, h3, h4, h5, h6, h7, h8, h9⟩ := h
  refine ⟨a, n, cap, at_, sd, (hb.block _ (by omega)).trans h1, h2, h3, h4, h5, h6, h7, h8, fun i hi => ?_⟩
  obtain ⟨g, o, x, ha, hg, hc, hx⟩ := h9 i hi
  exact ⟨g, o, x, ha, hg, (hb.cell (p := ⟨g, o + i, none⟩) (show g < b + 1 by omega)).trans hc, hx⟩

theorem wpList_push_link {W0 W : World} {ops : Array Oper} {rest : List Oper} {o : Oper} {a : Act} {Q : Exit → Act → World → Prop} (hgd : o.guard = none) (s x : Operand)
    (ho : o.op = .call { callee := .builtin .append, args := #[s, x], argTypes := #[24, 24] }) (b k lo : Nat) (v : Value) (L : List Lnk) (p q r : Int) (hs : a.eval s = v) (hx : a.eval x = .slice (some ⟨W.heap.size, 0, none⟩) 1 1)
    (hO : OLinks W lo v L) (hd : Dr b lo W0 W) (hC : Cur W b k) (hb : b < lo) (hlo : lo ≤ W.heap.size) (hl : L.length < 1048576)
    (h : ∀ v' w', OLinks w' lo v' (L ++ [⟨p, q, r⟩]) → Dr b lo W0 w' → Cur w' b k → lo ≤ w'.heap.size → wpList Try.prog ops Q rest (a.put o.dst v') w') :
    wpList Try.prog ops Q (o :: rest) a (W.alloc (.cells #[.int .i64 p, .int .i64 q, .int .i64 r] 104)) := by
  have hal : Below W.heap.size W (W.alloc (.cells #[.int .i64 p, .int .i64 q, .int .i64 r] 104)) := (Below.refl _ _).alloc (Nat.le_refl _) _
  have hrow := heap_alloc_new W (.cells #[.int .i64 p, .int .i64 q, .int .i64 r] 104)
  have hO1 := hO.keep hal
  refine wpList_append_links hgd s x ho lo v L W.heap.size 1 p q r hs hx hO1 (by rw [cell_of_row _ _ _ _ _ _ hrow]; rfl) (by rw [cell_of_row _ _ _ _ _ _ hrow]; rfl) (by rw [cell_of_row _ _ _ _ _ _ hrow]; rfl) (by omega) (by have := hal.size; omega) ?_
  intro v' w' h1 h2
  have hbl := hO1.below (hal.mono hlo) h2 (Nat.le_refl _) (by have := hal.size; omega)
  exact h v' w' h1 (hd.below hbl) (hC.low (hbl.mono (by omega))) (Nat.le_trans hlo hbl.size)

/-- a drawn graph -/
def RetGraph (b k : Nat) (w : World) (e : Ending) (w' : World) : Prop := ∃ (n : Int) (v : Value) (L : List Lnk), e = .returned (.tuple #[.int .i64 n, v]) ∧ -1 ≤ n ∧ n ≤ 9 ∧ L.length ≤ 101 ∧ OLinks w' w.heap.size v L ∧ Cur w' b k ∧ Dr b w.heap.size w w'
/-- a drawn graph, valid by its making -/
def RetGraph0 (b k : Nat) (w : World) (e : Ending) (w' : World) : Prop := ∃ (n : Int) (v : Value) (L : List Lnk), e = .returned (.tuple #[.int .i64 n, v]) ∧ 1 ≤ n ∧ n ≤ 8 ∧ L.length ≤ 100 ∧ OLinks w' w.heap.size v L ∧ Cur w' b k ∧ Dr b w.heap.size w w'

set_option maxRecDepth 100000 in
set_option maxHeartbeats 4000000 in
theorem graph_c (b k : Nat) (w : World) (h : Cur w b k) (hk : k ≤ 900000000000) :
    Calls Try.prog 106 #[.pointer (some ⟨b, 0, none⟩)] w (RetGraph0 b (k + 1000) w) := by
  have HH := hid h
  have hlt0 := h.lt
  obtain ⟨lo, hlo⟩ : ∃ lo, w.heap.size = lo := ⟨_, rfl⟩
  have HLO := hid hlo
  rw [hlo] at hlt0
  clear h hlo
  unfold RetGraph0
  rw [HLO.out]
  go_enter Try.func106, Try.ntmps106
  go_wp2_with fail
  refine (pick_c b k 5 _ HH.out (by omega) (by omega)).mono ?_
  rintro e w1 ⟨n0, rfl, ⟨hn1, hn2⟩, hc1, ht1⟩
  have HC1 := hid hc1
  have HT1 := hid ((Dr.refl b lo w).touch (Nat.le_of_eq HLO.out.symm) ht1)
  clear hc1 ht1
  have f1 : IntKind.i64.wrap (1 + n0) = 1 + n0 := IntWalk.i64_in _ (by omega)
  go_wp2_with fail
  refine (one_c b (k + 2) 16 _ HC1.out (by omega) (by omega)).mono ?_
  rintro e w2 ⟨x, rfl, hc2, ht2⟩
  have HC2 := hid hc2
  have HT2 := hid (HT1.out.touch (Nat.le_of_eq HLO.out.symm) ht2)
  clear hc2 ht2
  cases x
  case' false => obtain ⟨m, hm, hm1, hm8⟩ : ∃ m : Nat, 1 + n0 = m ∧ 1 ≤ m ∧ m ≤ 8 := ⟨(1 + n0).toNat, by omega, by omega, by omega⟩
  case' true => obtain ⟨m, hm, hm1, hm8⟩ : ∃ m : Nat, (8 : Int) = m ∧ 1 ≤ m ∧ m ≤ 8 := ⟨8, rfl, by omega, by omega⟩
  all_goals
    go_wp2_with fail
    refine (pick_c b (k + 4) 3 _ HC2.out (by omega) (by omega)).mono ?_
    rintro e w3 ⟨y, rfl, ⟨hy1, hy2⟩, hc3, ht3⟩
    have HC3 := hid hc3
    have HT3 := hid (HT2.out.touch (Nat.le_of_eq HLO.out.symm) ht3)
    have HS3 : Hid (lo ≤ w3.heap.size) := by have := HT3.out.size; have := HLO.out; show _ ≤ _; omega
    clear hc3 ht3
    have f2 : IntKind.i64.wrap (1 + y) = 1 + y := IntWalk.i64_in _ (by omega)
    have f3 : IntKind.i64.wrap (1 + y + 1) = 1 + y + 1 := IntWalk.i64_in _ (by omega)
    go_wp2
    clear hm
    go_loopg [6, 7] m (fun gk lv iv wr => ∃ (i : Nat) (L : List Lnk) (s : Nat), iv = .int .i64 i ∧ i ≤ m ∧ gk = m - i ∧ Cur wr b s ∧ s ≤ k + 10 + i * 80 ∧ OLinks wr lo lv L ∧ L.length ≤ i * 8 ∧ Dr b lo w wr ∧ lo ≤ wr.heap.size)
    case atStart => exact ⟨0, [], _, rfl, by omega, rfl, HC3.out, by omega, olinks_nil _ _, by simp, HT3.out, HS3.out⟩
    case round =>
      obtain ⟨i, L0, s, rfl, hi, rfl, hc, hs, hO, hl, hd, hsz⟩ := hrel
      have HC4 := hid hc
      have HO4 := hid hO
      have HT4 := hid hd
      have HS4 := hid hsz
      clear hc hO hd hsz
      by_cases hlt : i < m
      · have hltz : (i : Int) < (m : Int) := by omega
        have f4 : IntKind.i64.wrap ((i : Int) + 1) = (i : Int) + 1 := IntWalk.i64_in _ (by omega)
        go_wp2
        go_loopg [6, 8] (m - (i + 1)) (fun gk lv jv wr => ∃ (j : Nat) (L : List Lnk) (q : Nat), jv = .int .i64 j ∧ j ≤ m ∧ i < j ∧ gk = m - j ∧ Cur wr b q ∧ q ≤ k + 10 + i * 80 + j * 8 ∧ OLinks wr lo lv L ∧ L.length ≤ i * 8 + (j - i - 1) ∧ Dr b lo w wr ∧ lo ≤ wr.heap.size)
        case atStart => exact ⟨i + 1, L0, s, by go_num, by omega, by omega, by omega, HC4.out, by omega, HO4.out, by omega, HT4.out, HS4.out⟩
        case round =>
          obtain ⟨j, L, q, rfl, hj, hij, rfl, hc, hq, hO, hl5, hd, hsz⟩ := hrel
          have HC5 := hid hc
          have HO5 := hid hO
          have HT5 := hid hd
          have HS5 := hid hsz
          clear hc hO hd hsz
          by_cases hltj : j < m
          · have hltzj : (j : Int) < (m : Int) := by omega
            rcases Bool.eq_false_or_eq_true ((j : Int) == (i : Int) + 1) with tb | tb
            · go_wp2_with fail
              refine (one_c b (q) 12 _ HC5.out (by omega) (by omega)).mono ?_
              rintro e wz ⟨z1, rfl, hcz, htz⟩
              have HCZ := hid hcz
              have HTZ := hid (HT5.out.touch (Nat.le_of_eq HLO.out.symm) htz)
              have HOZ := hid (HO5.out.touch htz hlt0)
              have HSZ : Hid (lo ≤ wz.heap.size) := Nat.le_trans HS5.out htz.size
              clear hcz htz
              cases z1
              · have HLT := hid (ints_lit wz wz.heap.size (Nat.le_refl _) [1, 1, 1, 2, 5] (by simp)).r
                have HAL : Hid (Below wz.heap.size wz _) := (Below.refl wz.heap.size wz).alloc (Nat.le_refl _) (.cells ([1, 1, 1, 2, 5].map (.int .i64 ·)).toArray 3)
                go_wp2_with fail
                refine (among_c b (q + 2) _ [1, 1, 1, 2, 5] _ (HCZ.out.keep HAL.out) (by omega) HLT.out (by simp) (by simp) (fun p hp => by simp [Value.ownBlock] at hp; have := HSZ.out; omega)).mono ?_
                rintro e w8 ⟨x8, rfl, _, hc8, ht8⟩
                have HC8 := hid hc8
                have HT8 := hid ((HTZ.out.below (HAL.out.mono HSZ.out)).touch (Nat.le_of_eq HLO.out.symm) ht8)
                have HO8 := hid ((HOZ.out.keep HAL.out).touch ht8 hlt0)
                have HS8 : Hid (lo ≤ w8.heap.size) := Nat.le_trans (Nat.le_trans HSZ.out HAL.out.size) ht8.size
                clear hc8 ht8
                go_wp2_with (at_builtin; (refine wpList_push_link (W0 := w) rfl _ _ rfl b (k := q + 4) lo _ L (i : Int) (j : Int) x8 ?_ ?_ HO8.out HT8.out HC8.out hlt0 HS8.out ?_ ?_))
                · rfl
                · rfl
                · omega
                intro v9 w9 hO9 hd9 hc9 hs9
                have HO9 := hid hO9; have HT9 := hid hd9; have HC9 := hid hc9; have HS9 := hid hs9
                clear hO9 hd9 hc9 hs9
                go_wp2
                go_roundg (m - (j + 1))
                case rel => exact ⟨j + 1, _, _, by go_num, by omega, by omega, by omega, HC9.out, by omega, HO9.out, by rw [List.length_append]; simp; omega, HT9.out, HS9.out⟩
                case measure => omega
              · go_wp2_with fail
                refine (one_c b (q + 2) (1 + y + 1) _ HCZ.out (by omega) (by omega)).mono ?_
                rintro e wv ⟨z2, rfl, hcv, htv⟩
                have HCV := hid hcv
                have HTV := hid (HTZ.out.touch (Nat.le_of_eq HLO.out.symm) htv)
                have HOV := hid (HOZ.out.touch htv hlt0)
                have HSV : Hid (lo ≤ wv.heap.size) := Nat.le_trans HSZ.out htv.size
                clear hcv htv
                cases z2
                · go_wp2
                  go_roundg (m - (j + 1))
                  case rel => exact ⟨j + 1, L, _, by go_num, by omega, by omega, by omega, HCV.out, by omega, HOV.out, by omega, HTV.out, HSV.out⟩
                  case measure => omega
                · have HLT := hid (ints_lit wv wv.heap.size (Nat.le_refl _) [1, 1, 1, 2, 5] (by simp)).r
                  have HAL : Hid (Below wv.heap.size wv _) := (Below.refl wv.heap.size wv).alloc (Nat.le_refl _) (.cells ([1, 1, 1, 2, 5].map (.int .i64 ·)).toArray 3)
                  go_wp2_with fail
                  refine (among_c b (q + 2 + 2) _ [1, 1, 1, 2, 5] _ (HCV.out.keep HAL.out) (by omega) HLT.out (by simp) (by simp) (fun p hp => by simp [Value.ownBlock] at hp; have := HSV.out; omega)).mono ?_
                  rintro e w8 ⟨x8, rfl, _, hc8, ht8⟩
                  have HC8 := hid hc8
                  have HT8 := hid ((HTV.out.below (HAL.out.mono HSV.out)).touch (Nat.le_of_eq HLO.out.symm) ht8)
                  have HO8 := hid ((HOV.out.keep HAL.out).touch ht8 hlt0)
                  have HS8 : Hid (lo ≤ w8.heap.size) := Nat.le_trans (Nat.le_trans HSV.out HAL.out.size) ht8.size
                  clear hc8 ht8
                  go_wp2_with (at_builtin; (refine wpList_push_link (W0 := w) rfl _ _ rfl b (k := q + 6) lo _ L (i : Int) (j : Int) x8 ?_ ?_ HO8.out HT8.out HC8.out hlt0 HS8.out ?_ ?_))
                  · rfl
                  · rfl
                  · omega
                  intro v9 w9 hO9 hd9 hc9 hs9
                  have HO9 := hid hO9; have HT9 := hid hd9; have HC9 := hid hc9; have HS9 := hid hs9
                  clear hO9 hd9 hc9 hs9
                  go_wp2
                  go_roundg (m - (j + 1))
                  case rel => exact ⟨j + 1, _, _, by go_num, by omega, by omega, by omega, HC9.out, by omega, HO9.out, by rw [List.length_append]; simp; omega, HT9.out, HS9.out⟩
                  case measure => omega
            · go_wp2_with fail
              refine (one_c b (q) (1 + y + 1) _ HC5.out (by omega) (by omega)).mono ?_
              rintro e wz ⟨z2, rfl, hcz, htz⟩
              have HCZ := hid hcz
              have HTZ := hid (HT5.out.touch (Nat.le_of_eq HLO.out.symm) htz)
              have HOZ := hid (HO5.out.touch htz hlt0)
              have HSZ : Hid (lo ≤ wz.heap.size) := Nat.le_trans HS5.out htz.size
              clear hcz htz
              cases z2
              · go_wp2
                go_roundg (m - (j + 1))
                case rel => exact ⟨j + 1, L, _, by go_num, by omega, by omega, by omega, HCZ.out, by omega, HOZ.out, by omega, HTZ.out, HSZ.out⟩
                case measure => omega
              · have HLT := hid (ints_lit wz wz.heap.size (Nat.le_refl _) [1, 1, 1, 2, 5] (by simp)).r
                have HAL : Hid (Below wz.heap.size wz _) := (Below.refl wz.heap.size wz).alloc (Nat.le_refl _) (.cells ([1, 1, 1, 2, 5].map (.int .i64 ·)).toArray 3)
                go_wp2_with fail
                refine (among_c b (q + 2) _ [1, 1, 1, 2, 5] _ (HCZ.out.keep HAL.out) (by omega) HLT.out (by simp) (by simp) (fun p hp => by simp [Value.ownBlock] at hp; have := HSZ.out; omega)).mono ?_
                rintro e w8 ⟨x8, rfl, _, hc8, ht8⟩
                have HC8 := hid hc8
                have HT8 := hid ((HTZ.out.below (HAL.out.mono HSZ.out)).touch (Nat.le_of_eq HLO.out.symm) ht8)
                have HO8 := hid ((HOZ.out.keep HAL.out).touch ht8 hlt0)
                have HS8 : Hid (lo ≤ w8.heap.size) := Nat.le_trans (Nat.le_trans HSZ.out HAL.out.size) ht8.size
                clear hc8 ht8
                go_wp2_with (at_builtin; (refine wpList_push_link (W0 := w) rfl _ _ rfl b (k := q + 4) lo _ L (i : Int) (j : Int) x8 ?_ ?_ HO8.out HT8.out HC8.out hlt0 HS8.out ?_ ?_))
                · rfl
                · rfl
                · omega
                intro v9 w9 hO9 hd9 hc9 hs9
                have HO9 := hid hO9; have HT9 := hid hd9; have HC9 := hid hc9; have HS9 := hid hs9
                clear hO9 hd9 hc9 hs9
                go_wp2
                go_roundg (m - (j + 1))
                case rel => exact ⟨j + 1, _, _, by go_num, by omega, by omega, by omega, HC9.out, by omega, HO9.out, by rw [List.length_append]; simp; omega, HT9.out, HS9.out⟩
                case measure => omega
          · obtain rfl : j = m := by omega
            go_wp2
            go_roundg (j - (i + 1))
            case rel => exact ⟨i + 1, L, q, by go_num, by omega, rfl, HC5.out, by omega, HO5.out, by omega, HT5.out, HS5.out⟩
            case measure => omega
      · obtain rfl : i = m := by omega
        go_wp2
        go_ret2
        exact ⟨_, _, _, rfl, by omega, by omega, by omega, HO4.out, HC4.out.more (by omega), HT4.out⟩

end Go.Proofs.Ytifdhapaonideaa

/- Drawn graphs: anyGraph. -/
namespace Go.Proofs.Ytifdhapaonideaa
open Go.RowKit
open Go.Lib (hid)

theorem olinks_cell {w : World} {lo : Nat} {a : Option Addr} {n cap : Nat} {L : List Lnk} (h : OLinks w lo (.slice a n cap) L) (hl : 0 < L.length) : ∃ g, a = some ⟨g, 0, none⟩ ∧ n = L.length := by
  obtain ⟨g, h1, h2, _⟩ := h.set hl
  exact ⟨g, h1, h2⟩

set_option maxRecDepth 100000 in
set_option maxHeartbeats 4000000 in
theorem anyGraph_c (b k : Nat) (w : World) (h : Cur w b k) (hk : k ≤ 800000000000) :
    Calls Try.prog 97 #[.pointer (some ⟨b, 0, none⟩)] w (RetGraph b (k + 2000) w) := by
  have HH := hid h
  have hlt0 := h.lt
  obtain ⟨lo, hlo⟩ : ∃ lo, w.heap.size = lo := ⟨_, rfl⟩
  have HLO := hid hlo
  rw [hlo] at hlt0
  clear h hlo
  unfold RetGraph
  rw [HLO.out]
  go_enter Try.func97, Try.ntmps97
  go_wp2_with fail
  refine (graph_c b k _ HH.out (by omega)).mono ?_
  rintro e w1 ⟨n, v, L, rfl, hn1, hn8, hl, hO, hc, hd⟩
  rw [HLO.out] at hO hd
  have HS1 : Hid (lo ≤ w1.heap.size) := by have := hd.size; have := HLO.out; show _ ≤ _; omega
  have HO1 := hid hO
  have HC1 := hid hc
  have HT1 := hid hd
  obtain ⟨a1, c1, rfl⟩ := hO.form2
  clear hO hc hd
  go_wp2_with fail
  refine (pick_c b (k + 1000) 30 _ HC1.out (by omega) (by omega)).mono ?_
  rintro e w2 ⟨x, rfl, ⟨hx1, hx2⟩, hc2, ht2⟩
  have HC2 := hid hc2
  have HT2 := hid (HT1.out.touch (Nat.le_of_eq HLO.out.symm) ht2)
  have HO2 := hid (HO1.out.touch ht2 hlt0)
  have HS2 : Hid (lo ≤ w2.heap.size) := Nat.le_trans HS1.out ht2.size
  have f1 : IntKind.i64.wrap (n - 1) = n - 1 := IntWalk.i64_in _ (by omega)
  have f2 : IntKind.i64.wrap (n + 1) = n + 1 := IntWalk.i64_in _ (by omega)
  clear hc2 ht2
  rcases Bool.eq_false_or_eq_true (x == 0) with t0 | t0
  · have HLT := hid (ints_lit w2 w2.heap.size (Nat.le_refl _) [0, -1, 9, n - 1] (by simp)).r
    have HAL : Hid (Below w2.heap.size w2 _) := (Below.refl w2.heap.size w2).alloc (Nat.le_refl _) (.cells ([0, -1, 9, n - 1].map (.int .i64 ·)).toArray 3)
    go_wp2_with fail
    refine (among_c b (k + 1000 + 2) _ [0, -1, 9, n - 1] _ (HC2.out.keep HAL.out) (by omega) HLT.out (by simp) (by simp) (fun p hp => by simp [Value.ownBlock] at hp; have := HS2.out; omega)).mono ?_
    rintro e w8 ⟨x8, rfl, hx8, hc8, ht8⟩
    have HC8 := hid hc8
    have HT8 := hid ((HT2.out.below (HAL.out.mono HS2.out)).touch (Nat.le_of_eq HLO.out.symm) ht8)
    have HO8 := hid ((HO2.out.keep HAL.out).touch ht8 hlt0)
    have hx9 : -1 ≤ x8 ∧ x8 ≤ 9 := by simp at hx8; omega
    clear hc8 ht8 hx8
    go_wp2
    go_ret2
    exact ⟨_, _, _, rfl, hx9.1, hx9.2, by omega, HO8.out, HC8.out.more (by omega), HT8.out⟩
  · rcases Bool.eq_false_or_eq_true (x == 1) with t1 | t1
    · go_wp2_with fail
      refine (pick_c b (k + 1000 + 2) 3 _ HC2.out (by omega) (by omega)).mono ?_
      rintro e w3 ⟨y, rfl, _, hc3, ht3⟩
      have HC3 := hid hc3
      have HT3 := hid (HT2.out.touch (Nat.le_of_eq HLO.out.symm) ht3)
      have HO3 := hid (HO2.out.touch ht3 hlt0)
      have HS3 : Hid (lo ≤ w3.heap.size) := Nat.le_trans HS2.out ht3.size
      clear hc3 ht3
      go_wp2_with fail
      refine (pick_c b (k + 1000 + 4) (n + 1) _ HC3.out (by omega) (by omega)).mono ?_
      rintro e w4 ⟨z, rfl, _, hc4, ht4⟩
      have HC4 := hid hc4
      have HT4 := hid (HT3.out.touch (Nat.le_of_eq HLO.out.symm) ht4)
      have HO4 := hid (HO3.out.touch ht4 hlt0)
      have HS4 : Hid (lo ≤ w4.heap.size) := Nat.le_trans HS3.out ht4.size
      clear hc4 ht4
      go_wp2_with (at_builtin; (refine wpList_push_link (W0 := w) rfl _ _ rfl b (k := k + 1006) lo _ L y z 1 ?_ ?_ HO4.out HT4.out HC4.out hlt0 HS4.out ?_ ?_))
      · rfl
      · rfl
      · omega
      intro v9 w9 hO9 hd9 hc9 hs9
      have HO9 := hid hO9; have HT9 := hid hd9; have HC9 := hid hc9
      clear hO9 hd9 hc9 hs9
      go_wp2
      go_ret2
      exact ⟨_, _, _, rfl, by omega, by omega, by rw [List.length_append]; simp; omega, HO9.out, HC9.out.more (by omega), HT9.out⟩
    · rcases Bool.eq_false_or_eq_true (x == 2) with t2 | t2
      · by_cases hl0 : 0 < L.length
        · have hlz : (L.length : Int) > 0 := by omega
          go_wp2_with fail
          refine (pick_c b (k + 1000 + 2) L.length _ HC2.out (by omega) (by omega)).mono ?_
          rintro e w3 ⟨y, rfl, ⟨hy1, hy2⟩, hc3, ht3⟩
          have HC3 := hid hc3
          have HT3 := hid (HT2.out.touch (Nat.le_of_eq HLO.out.symm) ht3)
          have HO3 := hid (HO2.out.touch ht3 hlt0)
          have HS3 : Hid (lo ≤ w3.heap.size) := Nat.le_trans HS2.out ht3.size
          clear hc3 ht3
          obtain ⟨i, rfl⟩ : ∃ i : Nat, y = i := ⟨y.toNat, by omega⟩
          have hi : i < L.length := by omega
          have HLT := hid (ints_lit w3 w3.heap.size (Nat.le_refl _) [0, 6, -1] (by simp)).r
          have HAL : Hid (Below w3.heap.size w3 _) := (Below.refl w3.heap.size w3).alloc (Nat.le_refl _) (.cells ([0, 6, -1].map (.int .i64 ·)).toArray 3)
          go_wp2_with fail
          refine (among_c b (k + 1000 + 4) _ [0, 6, -1] _ (HC3.out.keep HAL.out) (by omega) HLT.out (by simp) (by simp) (fun p hp => by simp [Value.ownBlock] at hp; have := HS3.out; omega)).mono ?_
          rintro e w8 ⟨x8, rfl, hx8, hc8, ht8⟩
          have hO8 := (HO3.out.keep HAL.out).touch ht8 hlt0
          have hs8 : lo ≤ w8.heap.size := Nat.le_trans (Nat.le_trans HS3.out HAL.out.size) ht8.size
          obtain ⟨g, rfl, _, hg1, hg2, ⟨q, hq⟩, hfz, hset⟩ := hO8.set hi
          have hst := hset x8
          have HT8 := hid ((HT3.out.below (HAL.out.mono HS3.out)).touch (Nat.le_of_eq HLO.out.symm) ht8)
          have hbl : Below lo w8 (w8.setCell ⟨g, i * 3 + 2, none⟩ (.int .i64 x8)) := (Below.refl _ _).setCell hg1 _
          have HT9 := hid (HT8.out.below hbl)
          have HC9 := hid (hc8.low (hbl.mono hlt0))
          have HO9 := hid hst
          have HQ := hid (And.intro hq hfz)
          have hiz : (i : Int) < (L.length : Int) := by omega
          clear hO8 hs8 hq hfz hset hst hc8 ht8 hbl hx8
          obtain ⟨hq, hfz⟩ := HQ.out
          go_wp2
          go_ret2
          exact ⟨_, _, _, rfl, by omega, by omega, by rw [List.length_set]; omega, HO9.out, HC9.out.more (by omega), HT9.out⟩
        · have hlz : ¬ (L.length : Int) > 0 := by omega
          go_wp2
          go_ret2
          exact ⟨_, _, _, rfl, by omega, by omega, by omega, HO2.out, HC2.out.more (by omega), HT2.out⟩
      · go_wp2
        go_ret2
        exact ⟨_, _, _, rfl, by omega, by omega, by omega, HO2.out, HC2.out.more (by omega), HT2.out⟩

end Go.Proofs.Ytifdhapaonideaa

/- Drawn graphs: smallGraph (printed by wip/smallgen.py). -/
namespace Go.Proofs.Ytifdhapaonideaa
open Go.RowKit
open Go.Lib (hid)

theorem OLinks.mono {w : World} {lo lo' : Nat} {v : Value} {L : List Lnk} (h : OLinks w lo v L) (hl : lo' ≤ lo) : OLinks w lo' v L := by
  refine ⟨h.1, ?_⟩
  rcases h.2 with hn | ⟨g, cap, cur, rfl, hb1, rest⟩
  · exact .inl hn
  · exact .inr ⟨g, cap, cur, rfl, Nat.le_trans hl hb1, rest⟩

end Go.Proofs.Ytifdhapaonideaa

/- Drawn graphs with a sink: pileGraph (printed by wip/pilegen.py). -/
namespace Go.Proofs.Ytifdhapaonideaa
open Go.RowKit
open Go.Lib (hid)

def RetPG (b k : Nat) (w : World) (e : Ending) (w' : World) : Prop := ∃ (n : Int) (v : Value) (L : List Lnk) (q : Int), e = .returned (.tuple #[.int .i64 n, v, .int .i64 q]) ∧ -1 ≤ n ∧ n ≤ 9 ∧ L.length ≤ 101 ∧ OLinks w' w.heap.size v L ∧ Cur w' b k ∧ Dr b w.heap.size w w'

set_option maxRecDepth 100000 in
set_option maxHeartbeats 4000000 in
theorem pileGraph_c (b k : Nat) (w : World) (h : Cur w b k) (hk : k ≤ 700000000000) :
    Calls Try.prog 68 #[.pointer (some ⟨b, 0, none⟩)] w (RetPG b (k + 3000) w) := by
  have HH := hid h
  have hlt0 := h.lt
  obtain ⟨lo, hlo⟩ : ∃ lo, w.heap.size = lo := ⟨_, rfl⟩
  have HLO := hid hlo
  rw [hlo] at hlt0
  have HC0 := HH
  have HT0 : Hid (Dr b lo w w) := Dr.refl _ _ _
  have HO0 : Hid (OLinks w lo (.slice none 0 0) []) := olinks_nil _ _
  have HS0 : Hid (lo ≤ w.heap.size) := Nat.le_of_eq hlo.symm
  clear h hlo
  unfold RetPG
  rw [HLO.out]
  go_enter Try.func68, Try.ntmps68
  go_wp2_with fail
  refine (pick_c b k 4 _ HC0.out (by omega) (by omega)).mono ?_
  rintro e w2 ⟨n0, rfl, ⟨hn1, hn2⟩, hc2, ht2⟩
  have HC2 := hid hc2
  have HT2 := hid (HT0.out.touch (Nat.le_of_eq HLO.out.symm) ht2)
  have HO2 := hid (HO0.out.touch ht2 hlt0)
  have HS2 : Hid (lo ≤ w2.heap.size) := Nat.le_trans HS0.out ht2.size
  clear hc2 ht2
  have f1 : IntKind.i64.wrap (1 + n0) = 1 + n0 := IntWalk.i64_in _ (by omega)
  go_wp2_with fail
  refine (one_c b (k + 2) 12 _ HC2.out (by omega) (by omega)).mono ?_
  rintro e w3 ⟨x, rfl, hc3, ht3⟩
  have HC3 := hid hc3
  have HT3 := hid (HT2.out.touch (Nat.le_of_eq HLO.out.symm) ht3)
  have HO3 := hid (HO2.out.touch ht3 hlt0)
  have HS3 : Hid (lo ≤ w3.heap.size) := Nat.le_trans HS2.out ht3.size
  clear hc3 ht3
  cases x
  case' false => obtain ⟨m, hm, hm1, hm8⟩ : ∃ m : Nat, 1 + n0 = m ∧ 1 ≤ m ∧ m ≤ 8 := ⟨(1 + n0).toNat, by omega, by omega, by omega⟩
  case' true => obtain ⟨m, hm, hm1, hm8⟩ : ∃ m : Nat, (5 : Int) = m ∧ 1 ≤ m ∧ m ≤ 8 := ⟨5, rfl, by omega, by omega⟩
  all_goals
    go_wp2
    try rw [hm]
    clear hm
    go_loopg [6, 7] m (fun gk lv iv wr => ∃ (i : Nat) (L : List Lnk) (s : Nat), iv = .int .i64 i ∧ i ≤ m ∧ gk = m - i ∧ Cur wr b s ∧ s ≤ k + 10 + i * 80 ∧ OLinks wr lo lv L ∧ L.length ≤ i * 8 ∧ Dr b lo w wr ∧ lo ≤ wr.heap.size)
    case atStart => exact ⟨0, [], _, rfl, by omega, rfl, HC3.out, by omega, olinks_nil _ _, by simp, HT3.out, HS3.out⟩
    case round =>
      obtain ⟨i, L0, s, rfl, hi, rfl, hc, hs, hO, hl, hd, hsz⟩ := hrel
      have HC4 := hid hc
      have HO4 := hid hO
      have HT4 := hid hd
      have HS4 := hid hsz
      clear hc hO hd hsz
      by_cases hlt : i < m
      · have hltz : (i : Int) < (m : Int) := by omega
        have f4 : IntKind.i64.wrap ((i : Int) + 1) = (i : Int) + 1 := IntWalk.i64_in _ (by omega)
        go_wp2
        go_loopg [6, 8] (m - (i + 1)) (fun gk lv jv wr => ∃ (j : Nat) (L : List Lnk) (q : Nat), jv = .int .i64 j ∧ j ≤ m ∧ i < j ∧ gk = m - j ∧ Cur wr b q ∧ q ≤ k + 10 + i * 80 + j * 8 ∧ OLinks wr lo lv L ∧ L.length ≤ i * 8 + (j - i - 1) ∧ Dr b lo w wr ∧ lo ≤ wr.heap.size)
        case atStart => exact ⟨i + 1, L0, s, by go_num, by omega, by omega, by omega, HC4.out, by omega, HO4.out, by omega, HT4.out, HS4.out⟩
        case round =>
          obtain ⟨w5, rfl⟩ : ∃ w' : World, w' = wr := ⟨_, rfl⟩
          obtain ⟨j, L, q, rfl, hj, hij, rfl, hc, hq, hO, hl5, hd, hsz⟩ := hrel
          have HC5 := hid hc
          have HO5 := hid hO
          have HT5 := hid hd
          have HS5 := hid hsz
          clear hc hO hd hsz
          by_cases hltj : j < m
          · have hltzj : (j : Int) < (m : Int) := by omega
            rcases Bool.eq_false_or_eq_true ((j : Int) == (i : Int) + 1) with tb | tb
            · have HLT := hid (ints_lit w5 w5.heap.size (Nat.le_refl _) [1, 1, 1, 2] (by simp)).r
              have HAL : Hid (Below w5.heap.size w5 _) := (Below.refl w5.heap.size w5).alloc (Nat.le_refl _) (.cells ([1, 1, 1, 2].map (.int .i64 ·)).toArray 3)
              go_wp2_with fail
              refine (among_c b (q) _ [1, 1, 1, 2] _ (HC5.out.keep HAL.out) (by omega) HLT.out (by simp) (by simp) (fun p hp => by simp [Value.ownBlock] at hp; have := HS5.out; omega)).mono ?_
              rintro e w8 ⟨x8, rfl, _, hc8, ht8⟩
              have HC8 := hid hc8
              have HT8 := hid ((HT5.out.below (HAL.out.mono HS5.out)).touch (Nat.le_of_eq HLO.out.symm) ht8)
              have HO8 := hid ((HO5.out.keep HAL.out).touch ht8 hlt0)
              have HS8 : Hid (lo ≤ w8.heap.size) := Nat.le_trans (Nat.le_trans HS5.out HAL.out.size) ht8.size
              clear hc8 ht8
              go_wp2_with (at_builtin; (refine wpList_push_link (W0 := w) rfl _ _ rfl b (k := q + 2) lo _ L (i : Int) (j : Int) x8 ?_ ?_ HO8.out HT8.out HC8.out hlt0 HS8.out ?_ ?_))
              · rfl
              · rfl
              · omega
              intro v9 w9 hO9 hd9 hc9 hs9
              have HO9 := hid hO9; have HT9 := hid hd9; have HC9 := hid hc9; have HS9 := hid hs9
              clear hO9 hd9 hc9 hs9
              go_wp2
              go_roundg (m - (j + 1))
              case rel => exact ⟨j + 1, _, _, by go_num, by omega, by omega, by omega, HC9.out, by omega, HO9.out, by rw [List.length_append]; simp; omega, HT9.out, HS9.out⟩
              case measure => omega
            · go_wp2_with fail
              refine (one_c b (q) 3 _ HC5.out (by omega) (by omega)).mono ?_
              rintro e w6 ⟨z, rfl, hc6, ht6⟩
              have HC6 := hid hc6
              have HT6 := hid (HT5.out.touch (Nat.le_of_eq HLO.out.symm) ht6)
              have HO6 := hid (HO5.out.touch ht6 hlt0)
              have HS6 : Hid (lo ≤ w6.heap.size) := Nat.le_trans HS5.out ht6.size
              clear hc6 ht6
              cases z
              · go_wp2
                go_roundg (m - (j + 1))
                case rel => exact ⟨j + 1, L, _, by go_num, by omega, by omega, by omega, HC6.out, by omega, HO6.out, by omega, HT6.out, HS6.out⟩
                case measure => omega
              · have HLT := hid (ints_lit w6 w6.heap.size (Nat.le_refl _) [1, 1, 1, 2] (by simp)).r
                have HAL : Hid (Below w6.heap.size w6 _) := (Below.refl w6.heap.size w6).alloc (Nat.le_refl _) (.cells ([1, 1, 1, 2].map (.int .i64 ·)).toArray 3)
                go_wp2_with fail
                refine (among_c b (q + 2) _ [1, 1, 1, 2] _ (HC6.out.keep HAL.out) (by omega) HLT.out (by simp) (by simp) (fun p hp => by simp [Value.ownBlock] at hp; have := HS6.out; omega)).mono ?_
                rintro e w8 ⟨x8, rfl, _, hc8, ht8⟩
                have HC8 := hid hc8
                have HT8 := hid ((HT6.out.below (HAL.out.mono HS6.out)).touch (Nat.le_of_eq HLO.out.symm) ht8)
                have HO8 := hid ((HO6.out.keep HAL.out).touch ht8 hlt0)
                have HS8 : Hid (lo ≤ w8.heap.size) := Nat.le_trans (Nat.le_trans HS6.out HAL.out.size) ht8.size
                clear hc8 ht8
                go_wp2_with (at_builtin; (refine wpList_push_link (W0 := w) rfl _ _ rfl b (k := q + 4) lo _ L (i : Int) (j : Int) x8 ?_ ?_ HO8.out HT8.out HC8.out hlt0 HS8.out ?_ ?_))
                · rfl
                · rfl
                · omega
                intro v9 w9 hO9 hd9 hc9 hs9
                have HO9 := hid hO9; have HT9 := hid hd9; have HC9 := hid hc9; have HS9 := hid hs9
                clear hO9 hd9 hc9 hs9
                go_wp2
                go_roundg (m - (j + 1))
                case rel => exact ⟨j + 1, _, _, by go_num, by omega, by omega, by omega, HC9.out, by omega, HO9.out, by rw [List.length_append]; simp; omega, HT9.out, HS9.out⟩
                case measure => omega
          · obtain rfl : j = m := by omega
            go_wp2
            go_roundg (j - (i + 1))
            case rel => exact ⟨i + 1, L, q, by go_num, by omega, rfl, HC5.out, by omega, HO5.out, by omega, HT5.out, HS5.out⟩
            case measure => omega
      · obtain rfl : i = m := by omega
        obtain ⟨w4, rfl⟩ : ∃ w' : World, w' = wr := ⟨_, rfl⟩
        go_wp2_with fail
        refine (one_c b (s) 16 _ HC4.out (by omega) (by omega)).mono ?_
        rintro e w1 ⟨x1, rfl, hc1, ht1⟩
        have HC1 := hid hc1
        have HT1 := hid (HT4.out.touch (Nat.le_of_eq HLO.out.symm) ht1)
        have HO1 := hid (HO4.out.touch ht1 hlt0)
        have HS1 : Hid (lo ≤ w1.heap.size) := Nat.le_trans HS4.out ht1.size
        clear hc1 ht1
        cases x1
        · go_wp2_with fail
          refine (pick_c b (s + 2) i _ HC1.out (by omega) (by omega)).mono ?_
          rintro e w2 ⟨y, rfl, _, hc2, ht2⟩
          have HC2 := hid hc2
          have HT2 := hid (HT1.out.touch (Nat.le_of_eq HLO.out.symm) ht2)
          have HO2 := hid (HO1.out.touch ht2 hlt0)
          have HS2 : Hid (lo ≤ w2.heap.size) := Nat.le_trans HS1.out ht2.size
          clear hc2 ht2
          go_wp2_with fail
          refine (one_c b (s + 4) 30 _ HC2.out (by omega) (by omega)).mono ?_
          rintro e w3 ⟨x3, rfl, hc3, ht3⟩
          have HC3 := hid hc3
          have HT3 := hid (HT2.out.touch (Nat.le_of_eq HLO.out.symm) ht3)
          have HO3 := hid (HO2.out.touch ht3 hlt0)
          have HS3 : Hid (lo ≤ w3.heap.size) := Nat.le_trans HS2.out ht3.size
          clear hc3 ht3
          cases x3
          · go_wp2
            go_ret3
            exact ⟨_, _, _, _, rfl, by omega, by omega, by omega, HO3.out, HC3.out.more (by omega), HT3.out⟩
          · have HLT := hid (ints_lit w3 w3.heap.size (Nat.le_refl _) [(i : Int), -1] (by simp)).r
            have HAL : Hid (Below w3.heap.size w3 _) := (Below.refl w3.heap.size w3).alloc (Nat.le_refl _) (.cells ([(i : Int), -1].map (.int .i64 ·)).toArray 3)
            go_wp2_with fail
            refine (among_c b (s + 6) _ [(i : Int), -1] _ (HC3.out.keep HAL.out) (by omega) HLT.out (by simp) (by simp) (fun p hp => by simp [Value.ownBlock] at hp; have := HS3.out; omega)).mono ?_
            rintro e w8 ⟨x8, rfl, _, hc8, ht8⟩
            have HC8 := hid hc8
            have HT8 := hid ((HT3.out.below (HAL.out.mono HS3.out)).touch (Nat.le_of_eq HLO.out.symm) ht8)
            have HO8 := hid ((HO3.out.keep HAL.out).touch ht8 hlt0)
            clear hc8 ht8
            go_wp2
            go_ret3
            exact ⟨_, _, _, _, rfl, by omega, by omega, by omega, HO8.out, HC8.out.more (by omega), HT8.out⟩
        · go_wp2_with fail
          refine (anyGraph_c b (s + 2) _ HC1.out (by omega)).mono ?_
          rintro e w2 ⟨n, v, L, rfl, hn1, hn9, hl9, hO, hc, hd⟩
          have HO2 := hid (hO.mono HS1.out)
          have HT2 := hid (HT1.out.trans (hd.low HS1.out))
          have HC2 := hid hc
          clear hO hc hd
          go_wp2_with fail
          refine (pick_c b (s + 2 + 2000) 3 _ HC2.out (by omega) (by omega)).mono ?_
          rintro e w3 ⟨y, rfl, _, hc3, ht3⟩
          have HC3 := hid hc3
          have HT3 := hid (HT2.out.touch (Nat.le_of_eq HLO.out.symm) ht3)
          have HO3 := hid (HO2.out.touch ht3 hlt0)
          clear hc3 ht3
          go_wp2
          go_ret3
          exact ⟨_, _, _, _, rfl, hn1, hn9, hl9, HO3.out, HC3.out.more (by omega), HT3.out⟩

end Go.Proofs.Ytifdhapaonideaa

/- Drawn lists of numbers: vertices, chips. -/
namespace Go.Proofs.Ytifdhapaonideaa
open Go.RowKit
open Go.Lib (hid)

theorem wpList_push_dr {W0 W : World} {ops : Array Oper} {rest : List Oper} {o : Oper} {a : Act} {Q : Exit → Act → World → Prop} (hgd : o.guard = none) (s x : Operand)
    (ho : o.op = .call { callee := .builtin .append, args := #[s, x], argTypes := #[25, 25] }) (b k lo : Nat) (v : Value) (xs : List Int) (y : Int) (hs : a.eval s = v) (hx : a.eval x = .slice (some ⟨W.heap.size, 0, none⟩) 1 1)
    (hF : FInts W lo W.heap.size v xs) (hd : Dr b lo W0 W) (hC : Cur W b k) (hb : b < lo) (hlo : lo ≤ W.heap.size) (m : Nat) (hm : Hid (xs.length = m)) (hl : m ≤ 1048576)
    (h : ∀ g c w', FInts w' lo w'.heap.size (.slice (some ⟨g, 0, none⟩) (m + 1) c) (xs ++ [y]) → Dr b lo W0 w' → Cur w' b k → lo ≤ w'.heap.size → wpList Try.prog ops Q rest (a.put o.dst (.slice (some ⟨g, 0, none⟩) (m + 1) c)) w') :
    wpList Try.prog ops Q (o :: rest) a (W.alloc (.cells #[.int .i64 y] 3)) :=
  wpList_push_r (W0 := W) hgd s x ho lo v xs y hs hx hF (Below.refl _ _) hlo m hm hl (xs ++ [y]) (hid rfl) fun g c w' h1 h2 =>
    h g c w' h1 (hd.below h2) (hC.low (h2.mono hb)) (Nat.le_trans hlo h2.size)
theorem FInts.tch {w w' : World} {lo b : Nat} {v : Value} {xs : List Int} (h : FInts w lo w.heap.size v xs) (ht : Touch b (b + 1) w w') (hb : b < lo) : FInts w' lo w'.heap.size v xs :=
  (h.same (.of_touch ht (.inr hb))).mono (Nat.le_refl _) ht.size
theorem FInts.grw {w w' : World} {lo : Nat} {v : Value} {xs : List Int} (h : FInts w lo w.heap.size v xs) (hb : Below w.heap.size w w') : FInts w' lo w'.heap.size v xs :=
  (h.keep hb).mono (Nat.le_refl _) hb.size

/-- drawn numbers -/
def RetNumsL (b k lo : Nat) (w : World) (e : Ending) (w' : World) : Prop := ∃ (v : Value) (xs : List Int), e = .returned v ∧ xs.length ≤ 20 ∧ FInts w' lo w'.heap.size v xs ∧ Cur w' b k ∧ Dr b lo w w'
def RetNums (b k : Nat) (w : World) : Ending → World → Prop := RetNumsL b k w.heap.size w
theorem retNums_mk {b k lo : Nat} {w w' : World} {v : Value} (xs : List Int) (h1 : xs.length ≤ 20) (h2 : FInts w' lo w'.heap.size v xs) (h3 : Cur w' b k) (h4 : Dr b lo w w') : RetNumsL b k lo w (.returned v) w' := ⟨v, xs, rfl, h1, h2, h3, h4⟩

/-! more -/

end Go.Proofs.Ytifdhapaonideaa

/- Drawn piles (text printed by wip/chipsgen.py). -/
namespace Go.Proofs.Ytifdhapaonideaa
open Go.RowKit
open Go.Lib (hid)

set_option maxRecDepth 100000 in
set_option maxHeartbeats 4000000 in
theorem pile_c (b k : Nat) (n : Int) (q : Int) (w : World) (h : Cur w b k) (hk : k ≤ 800000000000) (hn : n ≤ 12) :
    Calls Try.prog 43 #[.pointer (some ⟨b, 0, none⟩), .int .i64 n, .int .i64 q] w (RetNums b (k + 100) w) := by
  have HH := hid h
  have hlt0 := h.lt
  obtain ⟨lo, hlo⟩ : ∃ lo, w.heap.size = lo := ⟨_, rfl⟩
  have HLO := hid hlo
  rw [hlo] at hlt0
  have HS0 : Hid (lo ≤ w.heap.size) := Nat.le_of_eq hlo.symm
  clear h hlo
  show Calls _ _ _ _ (RetNumsL b (k + 100) w.heap.size w)
  rw [HLO.out]
  have HC0 := HH
  have HD0 : Hid (Dr b lo w w) := Dr.refl _ _ _
  have HF0 : Hid (FInts w lo w.heap.size (.slice none 0 0) []) := ints_nil _ _ _
  go_enter Try.func43, Try.ntmps43
  have HLT := hid (ints_lit w w.heap.size (Nat.le_refl _) [2, 3, 6] (by simp)).r
  have HAL : Hid (Below w.heap.size w _) := (Below.refl w.heap.size w).alloc (Nat.le_refl _) (.cells ([2, 3, 6].map (.int .i64 ·)).toArray 3)
  go_wp2_with fail
  refine (among_c b (k) _ [2, 3, 6] _ (HC0.out.keep HAL.out) (by omega) HLT.out (by simp) (by simp) (fun p hp => by simp [Value.ownBlock] at hp; have := HS0.out; omega)).mono ?_
  rintro e w5 ⟨x5, rfl, hx5, hc5, ht5⟩
  have HC5 := hid hc5
  have HD5 := hid ((HD0.out.below (HAL.out.mono HS0.out)).touch HS0.out ht5)
  have HF5 := hid ((HF0.out.grw HAL.out).tch ht5 hlt0)
  have HS5 : Hid (lo ≤ w5.heap.size) := Nat.le_trans (Nat.le_trans HS0.out HAL.out.size) ht5.size
  clear hc5 ht5
  have hx6 : x5 ≤ 6 := by simp at hx5; omega
  clear hx5
  go_wp2
  go_loopg [7] 14 (fun gk out wr => ∃ (a : Option Addr) (p c : Nat) (xs : List Int) (s : Nat), out = .slice a p c ∧ p ≤ 13 ∧ gk = 14 - p ∧ xs.length = p ∧ s ≤ k + 10 + 4 * p ∧ FInts wr lo wr.heap.size (.slice a p c) xs ∧ Cur wr b s ∧ Dr b lo w wr ∧ lo ≤ wr.heap.size)
  case atStart => exact ⟨none, 0, 0, [], k + 2, rfl, by omega, rfl, rfl, by omega, ints_nil _ _ _, HC5.out, HD5.out, HS5.out⟩
  case round =>
    obtain ⟨w1, rfl⟩ : ∃ w' : World, w' = wr := ⟨_, rfl⟩
    obtain ⟨a3, p, c3, xs, s, rfl, hp, rfl, hlk, hs, hF, hc, hd, hsz⟩ := hrel
    have HF1 := hid hF
    have HC1 := hid hc
    have HD1 := hid hd
    have HS1 := hid hsz
    have HLK := hid hlk
    clear hF hc hd hsz hlk
    by_cases hlt : (p : Int) < n
    · go_wp2_with fail
      refine (pick_c b (s) x5 _ HC1.out (by omega) (by omega)).mono ?_
      rintro e w2 ⟨y, rfl, ⟨hy1, hy2⟩, hc2, ht2⟩
      have HC2 := hid hc2
      have HD2 := hid (HD1.out.touch HS0.out ht2)
      have HF2 := hid (HF1.out.tch ht2 hlt0)
      have HS2 : Hid (lo ≤ w2.heap.size) := Nat.le_trans HS1.out ht2.size
      clear hc2 ht2
      go_wp2_with (at_builtin; (refine wpList_push_dr (W0 := w) rfl _ _ rfl b (k := s + 2) lo (.slice a3 p c3) xs y rfl rfl HF2.out HD2.out HC2.out hlt0 HS2.out p HLK ?_ ?_))
      · omega
      intro g7 c7 w7 hF7 hd7 hc7 hs7
      have HF7 := hid hF7; have HD7 := hid hd7; have HC7 := hid hc7; have HS7 := hid hs7
      clear hF7 hd7 hc7 hs7
      go_wp2
      go_roundg (14 - (p + 1))
      case rel => exact ⟨_, p + 1, _, xs ++ [y], _, rfl, by omega, by omega, by rw [List.length_append, HLK.out]; rfl, by omega, HF7.out, HC7.out, HD7.out, HS7.out⟩
      case measure => omega
    · have f1 : IntKind.i64.wrap ((p : Int) - 1) = (p : Int) - 1 := IntWalk.i64_in _ (by omega)
      go_wp2_with fail
      refine (l1In_c _ _ _ _).mono ?_
      rintro e w2 ⟨rfl, rfl⟩
      rcases Bool.eq_false_or_eq_true (inB q 0 ((p : Int) - 1)) with tq | tq
      · obtain ⟨j, rfl⟩ : ∃ j : Nat, q = j := ⟨q.toNat, by have := inB_iff.1 tq; omega⟩
        have hj : j < p := by have := inB_iff.1 tq; omega
        have hjz : (j : Int) < (p : Int) := by omega
        rw [tq]
        obtain ⟨g, z, rfl, hg1, hg2, hcl, hfr, _⟩ := HF1.out.at (i := j) (by have := HLK.out; omega)
        have hst := HF1.out.set j 0
        have hbl : Below lo w1 (w1.setCell ⟨g, j, none⟩ (.int .i64 0)) := (Below.refl _ _).setCell hg1 _
        have HD2 := hid (HD1.out.below hbl)
        have HC2 := hid (HC1.out.low (hbl.mono hlt0))
        have HF2 := hid (hst.1.mono (Nat.le_refl _) (Nat.le_of_eq hst.2.2.symm))
        have HS2 : Hid (lo ≤ (w1.setCell ⟨g, j, none⟩ (.int .i64 0)).heap.size) := Nat.le_trans HS1.out hbl.size
        clear hst hbl
        have HLX : Hid ((xs.set j 0).length = p) := by show _ = _; rw [List.length_set, HLK.out]
        go_wp2_with fail
        refine (pick_c b (s) 30 _ HC2.out (by omega) (by omega)).mono ?_
        rintro e w4 ⟨x, rfl, ⟨hx1, hx2⟩, hc4, ht4⟩
        have HC4 := hid hc4
        have HD4 := hid (HD2.out.touch HS0.out ht4)
        have HF4 := hid (HF2.out.tch ht4 hlt0)
        have HS4 : Hid (lo ≤ w4.heap.size) := Nat.le_trans HS2.out ht4.size
        clear hc4 ht4
        rcases Bool.eq_false_or_eq_true (x == 0) with t0 | t0
        · go_wp2_with (at_builtin; (refine wpList_push_dr (W0 := w) rfl _ _ rfl b (k := s + 2) lo (.slice (some ⟨g, 0, none⟩) p c3) (xs.set j 0) 0 rfl rfl HF4.out HD4.out HC4.out hlt0 HS4.out p HLX ?_ ?_))
          · omega
          intro g6 c6 w6 hF6 hd6 hc6 hs6
          have HF6 := hid hF6; have HD6 := hid hd6; have HC6 := hid hc6; have HS6 := hid hs6
          clear hF6 hd6 hc6 hs6
          go_wp2
          go_ret
          exact retNums_mk ((xs.set j 0) ++ [0]) (by rw [List.length_append, HLX.out]; simp; omega) HF6.out (HC6.out.more (by omega)) HD6.out
        · rcases Bool.eq_false_or_eq_true (x == 1) with t1 | t1
          · by_cases hp0 : (p : Int) > 0
            · go_wp2_with fail
              refine (pick_c b (s + 2) p _ HC4.out (by omega) (by omega)).mono ?_
              rintro e w3 ⟨y, rfl, ⟨hy1, hy2⟩, hc3, ht3⟩
              have HC3 := hid hc3
              have HD3 := hid (HD4.out.touch HS0.out ht3)
              have HF3 := hid (HF4.out.tch ht3 hlt0)
              have HS3 : Hid (lo ≤ w3.heap.size) := Nat.le_trans HS4.out ht3.size
              clear hc3 ht3
              obtain ⟨i, rfl⟩ : ∃ i : Nat, y = i := ⟨y.toNat, by omega⟩
              have hi : i < p := by omega
              have hiz : (i : Int) < (p : Int) := by omega
              have HLT := hid (ints_lit w3 w3.heap.size (Nat.le_refl _) [50, 51, -1, 1] (by simp)).r
              have HAL : Hid (Below w3.heap.size w3 _) := (Below.refl w3.heap.size w3).alloc (Nat.le_refl _) (.cells ([50, 51, -1, 1].map (.int .i64 ·)).toArray 3)
              go_wp2_with fail
              refine (among_c b (s + 4) _ [50, 51, -1, 1] _ (HC3.out.keep HAL.out) (by omega) HLT.out (by simp) (by simp) (fun p hp => by simp [Value.ownBlock] at hp; have := HS3.out; omega)).mono ?_
              rintro e w8 ⟨x8, rfl, _, hc8, ht8⟩
              have HC8 := hid hc8
              have HD8 := hid ((HD3.out.below (HAL.out.mono HS3.out)).touch HS0.out ht8)
              have HF8 := hid ((HF3.out.grw HAL.out).tch ht8 hlt0)
              have HS8 : Hid (lo ≤ w8.heap.size) := Nat.le_trans (Nat.le_trans HS3.out HAL.out.size) ht8.size
              clear hc8 ht8
              obtain ⟨g8, z8, he8, hg81, hg82, hcl8, hfr8, _⟩ := HF8.out.at (i := i) (by have := HLX.out; omega)
              have hgg : g8 = g := (by simpa using he8.symm); rw [hgg] at hcl8 hfr8; clear hgg he8; have hst := HF8.out.set i x8
              have hbl : Below lo w8 (w8.setCell ⟨g, i, none⟩ (.int .i64 x8)) := (Below.refl _ _).setCell hg1 _
              have HD9 := hid (HD8.out.below hbl)
              have HC9 := hid (HC8.out.low (hbl.mono hlt0))
              have HF9 := hid (hst.1.mono (Nat.le_refl _) (Nat.le_of_eq hst.2.2.symm))
              have HS9 : Hid (lo ≤ (w8.setCell ⟨g, i, none⟩ (.int .i64 x8)).heap.size) := Nat.le_trans HS8.out hbl.size
              clear hst hbl
              go_wp2
              go_ret
              exact retNums_mk (((xs.set j 0)).set i x8) (by rw [List.length_set, HLX.out]; omega) HF9.out (HC9.out.more (by omega)) HD9.out
            · exfalso; omega
          · go_wp2
            go_ret
            exact retNums_mk ((xs.set j 0)) (by rw [HLX.out]; omega) HF4.out (HC4.out.more (by omega)) HD4.out
      · rw [tq]
        have HLX := HLK
        go_wp2_with fail
        refine (pick_c b (s) 30 _ HC1.out (by omega) (by omega)).mono ?_
        rintro e w4 ⟨x, rfl, ⟨hx1, hx2⟩, hc4, ht4⟩
        have HC4 := hid hc4
        have HD4 := hid (HD1.out.touch HS0.out ht4)
        have HF4 := hid (HF1.out.tch ht4 hlt0)
        have HS4 : Hid (lo ≤ w4.heap.size) := Nat.le_trans HS1.out ht4.size
        clear hc4 ht4
        rcases Bool.eq_false_or_eq_true (x == 0) with t0 | t0
        · go_wp2_with (at_builtin; (refine wpList_push_dr (W0 := w) rfl _ _ rfl b (k := s + 2) lo (.slice a3 p c3) xs 0 rfl rfl HF4.out HD4.out HC4.out hlt0 HS4.out p HLX ?_ ?_))
          · omega
          intro g6 c6 w6 hF6 hd6 hc6 hs6
          have HF6 := hid hF6; have HD6 := hid hd6; have HC6 := hid hc6; have HS6 := hid hs6
          clear hF6 hd6 hc6 hs6
          go_wp2
          go_ret
          exact retNums_mk (xs ++ [0]) (by rw [List.length_append, HLX.out]; simp; omega) HF6.out (HC6.out.more (by omega)) HD6.out
        · rcases Bool.eq_false_or_eq_true (x == 1) with t1 | t1
          · by_cases hp0 : (p : Int) > 0
            · go_wp2_with fail
              refine (pick_c b (s + 2) p _ HC4.out (by omega) (by omega)).mono ?_
              rintro e w3 ⟨y, rfl, ⟨hy1, hy2⟩, hc3, ht3⟩
              have HC3 := hid hc3
              have HD3 := hid (HD4.out.touch HS0.out ht3)
              have HF3 := hid (HF4.out.tch ht3 hlt0)
              have HS3 : Hid (lo ≤ w3.heap.size) := Nat.le_trans HS4.out ht3.size
              clear hc3 ht3
              obtain ⟨i, rfl⟩ : ∃ i : Nat, y = i := ⟨y.toNat, by omega⟩
              have hi : i < p := by omega
              have hiz : (i : Int) < (p : Int) := by omega
              have HLT := hid (ints_lit w3 w3.heap.size (Nat.le_refl _) [50, 51, -1, 1] (by simp)).r
              have HAL : Hid (Below w3.heap.size w3 _) := (Below.refl w3.heap.size w3).alloc (Nat.le_refl _) (.cells ([50, 51, -1, 1].map (.int .i64 ·)).toArray 3)
              go_wp2_with fail
              refine (among_c b (s + 4) _ [50, 51, -1, 1] _ (HC3.out.keep HAL.out) (by omega) HLT.out (by simp) (by simp) (fun p hp => by simp [Value.ownBlock] at hp; have := HS3.out; omega)).mono ?_
              rintro e w8 ⟨x8, rfl, _, hc8, ht8⟩
              have HC8 := hid hc8
              have HD8 := hid ((HD3.out.below (HAL.out.mono HS3.out)).touch HS0.out ht8)
              have HF8 := hid ((HF3.out.grw HAL.out).tch ht8 hlt0)
              have HS8 : Hid (lo ≤ w8.heap.size) := Nat.le_trans (Nat.le_trans HS3.out HAL.out.size) ht8.size
              clear hc8 ht8
              obtain ⟨g, z, rfl, hg1, hg2, hcl, hfr, _⟩ := HF8.out.at (i := i) (by have := HLX.out; omega)
              have hst := HF8.out.set i x8
              have hbl : Below lo w8 (w8.setCell ⟨g, i, none⟩ (.int .i64 x8)) := (Below.refl _ _).setCell hg1 _
              have HD9 := hid (HD8.out.below hbl)
              have HC9 := hid (HC8.out.low (hbl.mono hlt0))
              have HF9 := hid (hst.1.mono (Nat.le_refl _) (Nat.le_of_eq hst.2.2.symm))
              have HS9 : Hid (lo ≤ (w8.setCell ⟨g, i, none⟩ (.int .i64 x8)).heap.size) := Nat.le_trans HS8.out hbl.size
              clear hst hbl
              go_wp2
              go_ret
              exact retNums_mk ((xs).set i x8) (by rw [List.length_set, HLX.out]; omega) HF9.out (HC9.out.more (by omega)) HD9.out
            · go_wp2
              go_ret
              exact retNums_mk (xs) (by rw [HLX.out]; omega) HF4.out (HC4.out.more (by omega)) HD4.out
          · go_wp2
            go_ret
            exact retNums_mk (xs) (by rw [HLX.out]; omega) HF4.out (HC4.out.more (by omega)) HD4.out

end Go.Proofs.Ytifdhapaonideaa

/- The drawing functions of graphs and divisors. -/
namespace Go.Proofs.Ytifdhapaonideaa
open Go.RowKit
open Go.Lib (hid)

/-- a new cursor -/
theorem cur_new {w : World} {v : Value} {n : Nat} (h : RBytes w v n) : Cur (w.alloc (.cells #[v, .int .i64 0, .int .u64 0] 65)) w.heap.size 0 := by
  obtain ⟨a, cap, rfl, h1, h2, hc⟩ := h
  refine ⟨a, n, cap, 0, 0, heap_alloc_new w _, Int.le_refl _, Int.le_refl _, h1, h1, h2, Int.le_refl _, by decide, fun i hi => ?_⟩
  obtain ⟨g, o, x, rfl, hcell, hx⟩ := hc i hi
  have hlt := cell_lt hcell
  refine ⟨g, o, x, rfl, hlt, ?_, hx⟩
  rw [((Below.refl w.heap.size w).alloc (Nat.le_refl _) _).cell (p := ⟨g, o + i, none⟩) hlt]; exact hcell
theorem RBytes.keep {w w' : World} {v : Value} {n : Nat} (h : RBytes w v n) (hb : Below w.heap.size w w') : RBytes w' v n := by
  obtain ⟨a, cap, rfl, h1, h2, hc⟩ := h
  refine ⟨a, cap, rfl, h1, h2, fun i hi => ?_⟩
  obtain ⟨g, o, x, ha, hcell, hx⟩ := hc i hi
  exact ⟨g, o, x, ha, by rw [hb.cell (p := ⟨g, o + i, none⟩) (cell_lt hcell)]; exact hcell, hx⟩
theorem RBytes.form {w : World} {v : Value} {n : Nat} (h : RBytes w v n) : ∃ a cap, v = .slice a n cap ∧ n ≤ cap ∧ cap ≤ maxLen := by
  obtain ⟨a, cap, rfl, h1, h2, _⟩ := h; exact ⟨a, cap, rfl, h1, h2⟩
/-- what is drawn with a new cursor touches nothing that was there -/
theorem Dr.fresh {w w' : World} {o : Obj} (h : Dr w.heap.size (w.alloc o).heap.size (w.alloc o) w') : Below w.heap.size w w' := by
  have ha := (Below.refl w.heap.size w).alloc (Nat.le_refl _) o
  have hs := ha.size
  exact ha.trans ⟨h.os, h.tape, h.output, h.size, fun c hc => h.block c (by omega) (by omega)⟩
theorem OLinks.dr {w w' : World} {lo b : Nat} {v : Value} {L : List Lnk} (h : OLinks w lo v L) (hd : Dr b w.heap.size w w') (hb : b < lo) : OLinks w' lo v L := by
  refine ⟨h.1, ?_⟩
  rcases h.2 with hn | ⟨g, cap, cur, rfl, hb1, hg, rest⟩
  · exact .inl hn
  · exact .inr ⟨g, cap, cur, rfl, hb1, by rw [hd.block g (Array.getElem?_eq_some_iff.1 hg).1 (by omega)]; exact hg, rest⟩
theorem FInts.dr {w w' : World} {lo b : Nat} {v : Value} {xs : List Int} (h : FInts w lo w.heap.size v xs) (hd : Dr b w.heap.size w w') (hb : b < lo) : FInts w' lo w'.heap.size v xs :=
  (h.same (fun k h1 h2 _ => hd.block k h2 (by omega))).mono (Nat.le_refl _) hd.size

/-- a drawn graph -/
def RetGr (w : World) (e : Ending) (w' : World) : Prop := ∃ (n : Int) (v : Value) (L : List Lnk), e = .returned (.tuple #[.int .i64 n, v]) ∧ -1 ≤ n ∧ n ≤ 9 ∧ L.length ≤ 101 ∧ RLinks w' v L ∧ Below w.heap.size w w'
/-- a drawn graph and drawn numbers -/
def RetGrN (w : World) (e : Ending) (w' : World) : Prop := ∃ (n : Int) (v : Value) (L : List Lnk) (u : Value) (d : List Int), e = .returned (.tuple #[.int .i64 n, v, u]) ∧ -1 ≤ n ∧ n ≤ 9 ∧ L.length ≤ 101 ∧ d.length ≤ 20 ∧ RLinks w' v L ∧ RInts w' u d ∧ Below w.heap.size w w'


end Go.Proofs.Ytifdhapaonideaa

/- The drawing functions of piles (printed by wip/pildraw.py). -/
namespace Go.Proofs.Ytifdhapaonideaa
open Go.RowKit
open Go.Lib (hid)

theorem OLinks.grw {w w' : World} {lo : Nat} {v : Value} {L : List Lnk} (h : OLinks w lo v L) (hb : Below w.heap.size w w') : OLinks w' lo v L := h.keep hb
theorem OLinks.tch {w w' : World} {lo b : Nat} {v : Value} {L : List Lnk} (h : OLinks w lo v L) (ht : Touch b (b + 1) w w') (hb : b < lo) : OLinks w' lo v L := h.touch ht hb
theorem results_tmp4p {fn : Func} {t u v x : Tmp} (h : fn.results = #[.tmp t, .tmp u, .tmp v, .tmp x]) (tmps : Array Value) (P : Program) (w : World) :
    (results fn tmps).run P w = .ok (.tuple #[tmps.getD t undef, tmps.getD u undef, tmps.getD v undef, tmps.getD x undef]) w := by
  simp [results, h]
theorem results_tmp5p {fn : Func} {t u v x y : Tmp} (h : fn.results = #[.tmp t, .tmp u, .tmp v, .tmp x, .tmp y]) (tmps : Array Value) (P : Program) (w : World) :
    (results fn tmps).run P w = .ok (.tuple #[tmps.getD t undef, tmps.getD u undef, tmps.getD v undef, tmps.getD x undef, tmps.getD y undef]) w := by
  simp [results, h]
/-- a drawn graph with a sink; with numbers; with numbers twice -/
def RetGS (w : World) (e : Ending) (w' : World) : Prop := ∃ (n : Int) (v : Value) (L : List Lnk) (q : Int), e = .returned (.tuple #[.int .i64 n, v, .int .i64 q]) ∧ -1 ≤ n ∧ n ≤ 9 ∧ L.length ≤ 101 ∧ RLinks w' v L ∧ Below w.heap.size w w'
def RetGSN (w : World) (e : Ending) (w' : World) : Prop := ∃ (n : Int) (v : Value) (L : List Lnk) (q : Int) (u : Value) (d : List Int), e = .returned (.tuple #[.int .i64 n, v, .int .i64 q, u]) ∧ -1 ≤ n ∧ n ≤ 9 ∧ L.length ≤ 101 ∧ d.length ≤ 20 ∧ RLinks w' v L ∧ RInts w' u d ∧ Below w.heap.size w w'
def RetGSNN (w : World) (e : Ending) (w' : World) : Prop := ∃ (n : Int) (v : Value) (L : List Lnk) (q : Int) (u : Value) (d : List Int) (x : Value) (s : List Int), e = .returned (.tuple #[.int .i64 n, v, .int .i64 q, u, x]) ∧ -1 ≤ n ∧ n ≤ 9 ∧ L.length ≤ 101 ∧ d.length ≤ 20 ∧ s.length ≤ 20 ∧ RLinks w' v L ∧ RInts w' u d ∧ RInts w' x s ∧ Below w.heap.size w w'
def RetPGN (b k : Nat) (w : World) (lo : Nat) (e : Ending) (w' : World) : Prop := ∃ (n : Int) (v : Value) (L : List Lnk) (q : Int) (u : Value) (d : List Int), e = .returned (.tuple #[.int .i64 n, v, .int .i64 q, u]) ∧ -1 ≤ n ∧ n ≤ 9 ∧ L.length ≤ 101 ∧ d.length ≤ 20 ∧ OLinks w' lo v L ∧ FInts w' lo w'.heap.size u d ∧ Cur w' b k ∧ Dr b lo w w'

set_option maxRecDepth 100000 in
set_option maxHeartbeats 4000000 in
theorem recurrentD_c (b k : Nat) (w : World) (h : Cur w b k) (hk : k ≤ 700000000000) :
    Calls Try.prog 42 #[.pointer (some ⟨b, 0, none⟩)] w (RetPGN b (k + 4000) w w.heap.size) := by
  have HC0 := hid h
  have hlt0 := h.lt
  obtain ⟨lo, hlo⟩ : ∃ lo, w.heap.size = lo := ⟨_, rfl⟩
  rw [hlo] at hlt0
  have HS0 : Hid (lo ≤ w.heap.size) := Nat.le_of_eq hlo.symm
  have HD0 : Hid (Dr b lo w w) := Dr.refl _ _ _
  have HLO := hid hlo
  clear h hlo
  rw [HLO.out]
  go_enter Try.func42, Try.ntmps42
  go_wp2_with fail
  refine (pileGraph_c b k _ HC0.out (by omega)).mono ?_
  rintro e w1 ⟨n1, v1, L, q, rfl, hn1, hn2, hl, hO1, hc1, hd1⟩
  have HC1 := hid (hc1.more (show _ ≤ (k + 3000) by omega))
  have HD1 := hid (HD0.out.trans (hd1.low HS0.out))
  have HS1 : Hid (lo ≤ w1.heap.size) := Nat.le_trans HS0.out hd1.size
  have L_1 := hid ((hO1.mono HS0.out))
  obtain ⟨al, nl, cl, rfl⟩ := hO1.form
  clear hO1
  clear hc1 hd1
  go_wp2_with fail
  refine (pile_c b (k + 3000) n1 q _ HC1.out (by omega) (by omega)).mono ?_
  rintro e w2 ⟨u2, xs, rfl, hxl, hF2, hc2, hd2⟩
  have HC2 := hid (hc2.more (show _ ≤ (k + 3100) by omega))
  have HD2 := hid (HD1.out.trans (hd2.low HS1.out))
  have L_2 := hid (L_1.out.dr hd2 hlt0)
  have HS2 : Hid (lo ≤ w2.heap.size) := Nat.le_trans HS1.out hd2.size
  have F_2 := hid ((hF2.mono HS1.out (Nat.le_refl _)))
  obtain ⟨a5, n5, c5, rfl⟩ := hF2.form3
  clear hF2
  clear hc2 hd2
  rcases Bool.eq_false_or_eq_true (piAB n1 L q xs) with tb | tb
  · go_wp2_with fail
    refine (piAsked_c n1 q _ _ L xs _ L_2.out.r F_2.out.r).mono ?_
    rintro e w3 ⟨rfl, hb3⟩
    have HC3 := hid (HC2.out.keep hb3)
    have HD3 := hid (HD2.out.below (hb3.mono HS2.out))
    have L_3 := hid (L_2.out.grw hb3)
    have F_3 := hid (F_2.out.grw hb3)
    have HS3 : Hid (lo ≤ w3.heap.size) := Nat.le_trans HS2.out hb3.size
    rw [tb]
    clear hb3
    go_wp2_with fail
    refine (one_c b (k + 3100) 4 _ HC3.out (by omega) (by omega)).mono ?_
    rintro e w4 ⟨x, rfl, hc4, ht4⟩
    have HC4 := hid (hc4.more (show _ ≤ (k + 3102) by omega))
    have HD4 := hid (HD3.out.touch HS0.out ht4)
    have L_4 := hid (L_3.out.tch ht4 hlt0)
    have F_4 := hid (F_3.out.tch ht4 hlt0)
    have HS4 : Hid (lo ≤ w4.heap.size) := Nat.le_trans HS3.out ht4.size
    clear hc4 ht4
    cases x
    · obtain ⟨m, j, hm, hj, _, _, hP, hxm, hxz, _⟩ := piAB_parts tb
      subst hm
      subst hj
      have HP := hid hP
      have HXM := hid hxm
      have HXZ := hid hxz
      clear tb hxm hxz
      go_wp2_with fail
      refine (piGreatest_c m j _ L _ L_4.out.r HP.out.good).mono ?_
      rintro e w5 ⟨u5, rfl, hF5, hb5⟩
      have HC5 := hid (HC4.out.keep hb5)
      have HD5 := hid (HD4.out.below (hb5.mono HS4.out))
      have L_5 := hid (L_4.out.grw hb5)
      have F_5 := hid (F_4.out.grw hb5)
      have HS5 : Hid (lo ≤ w5.heap.size) := Nat.le_trans HS4.out hb5.size
      have G_5 := hid ((hF5.mono HS4.out (Nat.le_refl _)))
      obtain ⟨a6, n6, c6, rfl⟩ := hF5.form3
      clear hF5
      clear hb5
      go_wp2_with fail
      refine (piSum_c m j _ _ _ L _ _ _ L_5.out.r HP.out (rints_lst F_5.out.r HXM.out) G_5.out.r (HXZ.out.mono (by decide)) ((grt_pil HP.out).mono (by decide))).mono ?_
      rintro e w6 ⟨u6, rfl, hF6, hb6⟩
      have HC6 := hid (HC5.out.keep hb6)
      have HD6 := hid (HD5.out.below (hb6.mono HS5.out))
      have L_6 := hid (L_5.out.grw hb6)
      have F_6 := hid (F_5.out.grw hb6)
      have G_6 := hid (G_5.out.grw hb6)
      have HS6 : Hid (lo ≤ w6.heap.size) := Nat.le_trans HS5.out hb6.size
      have Q_6 := hid ((hF6.mono HS5.out (Nat.le_refl _)))
      obtain ⟨a7, n7, c7, rfl⟩ := hF6.form3
      clear hF6
      clear hb6
      go_wp2
      (try simp only [Exit.inBlock, Exit.then]); refine bodyPost_ret (results_tmp4p rfl _ _ _) rfl ?_
      exact ⟨(m : Int), _, L, (j : Int), _, _, rfl, hn1, hn2, hl, (by rw [lst_len]; omega), L_6.out, Q_6.out, HC6.out.more (by omega), HD6.out⟩
    · go_wp2
      (try simp only [Exit.inBlock, Exit.then]); refine bodyPost_ret (results_tmp4p rfl _ _ _) rfl ?_
      exact ⟨n1, _, L, q, _, xs, rfl, hn1, hn2, hl, hxl, L_4.out, F_4.out, HC4.out.more (by omega), HD4.out⟩
  · go_wp2_with fail
    refine (piAsked_c n1 q _ _ L xs _ L_2.out.r F_2.out.r).mono ?_
    rintro e w3 ⟨rfl, hb3⟩
    have HC3 := hid (HC2.out.keep hb3)
    have HD3 := hid (HD2.out.below (hb3.mono HS2.out))
    have L_3 := hid (L_2.out.grw hb3)
    have F_3 := hid (F_2.out.grw hb3)
    have HS3 : Hid (lo ≤ w3.heap.size) := Nat.le_trans HS2.out hb3.size
    rw [tb]
    clear hb3
    go_wp2
    (try simp only [Exit.inBlock, Exit.then]); refine bodyPost_ret (results_tmp4p rfl _ _ _) rfl ?_
    exact ⟨n1, _, L, q, _, xs, rfl, hn1, hn2, hl, hxl, L_3.out, F_3.out, HC3.out.more (by omega), HD3.out⟩

set_option maxRecDepth 100000 in
set_option maxHeartbeats 4000000 in
theorem DrawIsPile_c (v : Value) (n : Nat) (w : World) (h : RBytes w v n) :
    Calls Try.prog 35 #[v] w (RetGSN w) := by
  have HC := hid (cur_new h)
  obtain ⟨a, cap, rfl, _, _⟩ := h.form
  clear h
  obtain ⟨b, hb⟩ : ∃ b, w.heap.size = b := ⟨_, rfl⟩
  obtain ⟨w0, hw0⟩ : ∃ w0, w.alloc (.cells #[.slice a n cap, .int .i64 0, .int .u64 0] 65) = w0 := ⟨_, rfl⟩
  have HW0 := hid hw0
  have HC0 : Hid (Cur w0 b 0) := by show Cur _ _ _; rw [← hw0, ← hb]; exact HC.out
  have HB := hid hb
  obtain ⟨lo, hlo⟩ : ∃ lo, w0.heap.size = lo := ⟨_, rfl⟩
  have hlt0 := HC0.out.lt
  rw [hlo] at hlt0
  have HS0 : Hid (lo ≤ w0.heap.size) := Nat.le_of_eq hlo.symm
  have HD0 : Hid (Dr b lo w0 w0) := Dr.refl _ _ _
  have HFRESH : Hid (∀ w', Dr b lo w0 w' → Below w.heap.size w w') := fun w' hd => by
    rw [← hlo, ← hw0, ← hb] at hd; exact Dr.fresh hd
  clear hb hw0 HC hlo
  go_enter Try.func35, Try.ntmps35
  go_wp2_with fail
  rw [HB.out, HW0.out]
  refine (pileGraph_c b 0 _ HC0.out (by omega)).mono ?_
  rintro e w1 ⟨n1, v1, L, q, rfl, hn1, hn2, hl, hO1, hc1, hd1⟩
  have HC1 := hid (hc1.more (show _ ≤ (0 + 3000) by omega))
  have HD1 := hid (HD0.out.trans (hd1.low HS0.out))
  have HS1 : Hid (lo ≤ w1.heap.size) := Nat.le_trans HS0.out hd1.size
  have L_1 := hid ((hO1.mono HS0.out))
  obtain ⟨al, nl, cl, rfl⟩ := hO1.form
  clear hO1
  clear hc1 hd1
  go_wp2_with fail
  refine (pile_c b (0 + 3000) n1 q _ HC1.out (by omega) (by omega)).mono ?_
  rintro e w2 ⟨u2, xs, rfl, hxl, hF2, hc2, hd2⟩
  have HC2 := hid (hc2.more (show _ ≤ (0 + 3100) by omega))
  have HD2 := hid (HD1.out.trans (hd2.low HS1.out))
  have L_2 := hid (L_1.out.dr hd2 hlt0)
  have HS2 : Hid (lo ≤ w2.heap.size) := Nat.le_trans HS1.out hd2.size
  have F_2 := hid ((hF2.mono HS1.out (Nat.le_refl _)))
  obtain ⟨a5, n5, c5, rfl⟩ := hF2.form3
  clear hF2
  clear hc2 hd2
  go_wp2
  (try simp only [Exit.inBlock, Exit.then]); refine bodyPost_ret (results_tmp4p rfl _ _ _) rfl ?_
  exact ⟨n1, _, L, q, _, xs, rfl, hn1, hn2, hl, hxl, L_2.out.r, F_2.out.r, HFRESH.out _ HD2.out⟩

set_option maxRecDepth 100000 in
set_option maxHeartbeats 4000000 in
theorem DrawGreatestStable_c (v : Value) (n : Nat) (w : World) (h : RBytes w v n) :
    Calls Try.prog 62 #[v] w (RetGS w) := by
  have HC := hid (cur_new h)
  obtain ⟨a, cap, rfl, _, _⟩ := h.form
  clear h
  obtain ⟨b, hb⟩ : ∃ b, w.heap.size = b := ⟨_, rfl⟩
  obtain ⟨w0, hw0⟩ : ∃ w0, w.alloc (.cells #[.slice a n cap, .int .i64 0, .int .u64 0] 65) = w0 := ⟨_, rfl⟩
  have HW0 := hid hw0
  have HC0 : Hid (Cur w0 b 0) := by show Cur _ _ _; rw [← hw0, ← hb]; exact HC.out
  have HB := hid hb
  obtain ⟨lo, hlo⟩ : ∃ lo, w0.heap.size = lo := ⟨_, rfl⟩
  have hlt0 := HC0.out.lt
  rw [hlo] at hlt0
  have HS0 : Hid (lo ≤ w0.heap.size) := Nat.le_of_eq hlo.symm
  have HD0 : Hid (Dr b lo w0 w0) := Dr.refl _ _ _
  have HFRESH : Hid (∀ w', Dr b lo w0 w' → Below w.heap.size w w') := fun w' hd => by
    rw [← hlo, ← hw0, ← hb] at hd; exact Dr.fresh hd
  clear hb hw0 HC hlo
  go_enter Try.func62, Try.ntmps62
  go_wp2_with fail
  rw [HB.out, HW0.out]
  refine (pileGraph_c b 0 _ HC0.out (by omega)).mono ?_
  rintro e w1 ⟨n1, v1, L, q, rfl, hn1, hn2, hl, hO1, hc1, hd1⟩
  have HC1 := hid (hc1.more (show _ ≤ (0 + 3000) by omega))
  have HD1 := hid (HD0.out.trans (hd1.low HS0.out))
  have HS1 : Hid (lo ≤ w1.heap.size) := Nat.le_trans HS0.out hd1.size
  have L_1 := hid ((hO1.mono HS0.out))
  obtain ⟨al, nl, cl, rfl⟩ := hO1.form
  clear hO1
  clear hc1 hd1
  go_wp2
  go_ret3
  exact ⟨n1, _, L, q, rfl, hn1, hn2, hl, L_1.out.r, HFRESH.out _ HD1.out⟩

set_option maxRecDepth 100000 in
set_option maxHeartbeats 4000000 in
theorem DrawTreesOf_c (v : Value) (n : Nat) (w : World) (h : RBytes w v n) :
    Calls Try.prog 33 #[v] w (RetGr w) := by
  have HC := hid (cur_new h)
  obtain ⟨a, cap, rfl, _, _⟩ := h.form
  clear h
  obtain ⟨b, hb⟩ : ∃ b, w.heap.size = b := ⟨_, rfl⟩
  obtain ⟨w0, hw0⟩ : ∃ w0, w.alloc (.cells #[.slice a n cap, .int .i64 0, .int .u64 0] 65) = w0 := ⟨_, rfl⟩
  have HW0 := hid hw0
  have HC0 : Hid (Cur w0 b 0) := by show Cur _ _ _; rw [← hw0, ← hb]; exact HC.out
  have HB := hid hb
  obtain ⟨lo, hlo⟩ : ∃ lo, w0.heap.size = lo := ⟨_, rfl⟩
  have hlt0 := HC0.out.lt
  rw [hlo] at hlt0
  have HS0 : Hid (lo ≤ w0.heap.size) := Nat.le_of_eq hlo.symm
  have HD0 : Hid (Dr b lo w0 w0) := Dr.refl _ _ _
  have HFRESH : Hid (∀ w', Dr b lo w0 w' → Below w.heap.size w w') := fun w' hd => by
    rw [← hlo, ← hw0, ← hb] at hd; exact Dr.fresh hd
  clear hb hw0 HC hlo
  go_enter Try.func33, Try.ntmps33
  go_wp2_with fail
  rw [HB.out, HW0.out]
  refine (pileGraph_c b 0 _ HC0.out (by omega)).mono ?_
  rintro e w1 ⟨n1, v1, L, q, rfl, hn1, hn2, hl, hO1, hc1, hd1⟩
  have HC1 := hid (hc1.more (show _ ≤ (0 + 3000) by omega))
  have HD1 := hid (HD0.out.trans (hd1.low HS0.out))
  have HS1 : Hid (lo ≤ w1.heap.size) := Nat.le_trans HS0.out hd1.size
  have L_1 := hid ((hO1.mono HS0.out))
  obtain ⟨al, nl, cl, rfl⟩ := hO1.form
  clear hO1
  clear hc1 hd1
  go_wp2
  go_ret2
  exact ⟨n1, _, L, rfl, hn1, hn2, hl, L_1.out.r, HFRESH.out _ HD1.out⟩

set_option maxRecDepth 100000 in
set_option maxHeartbeats 4000000 in
theorem DrawIsRecurrent_c (v : Value) (n : Nat) (w : World) (h : RBytes w v n) :
    Calls Try.prog 47 #[v] w (RetGSN w) := by
  have HC := hid (cur_new h)
  obtain ⟨a, cap, rfl, _, _⟩ := h.form
  clear h
  obtain ⟨b, hb⟩ : ∃ b, w.heap.size = b := ⟨_, rfl⟩
  obtain ⟨w0, hw0⟩ : ∃ w0, w.alloc (.cells #[.slice a n cap, .int .i64 0, .int .u64 0] 65) = w0 := ⟨_, rfl⟩
  have HW0 := hid hw0
  have HC0 : Hid (Cur w0 b 0) := by show Cur _ _ _; rw [← hw0, ← hb]; exact HC.out
  have HB := hid hb
  obtain ⟨lo, hlo⟩ : ∃ lo, w0.heap.size = lo := ⟨_, rfl⟩
  have hlt0 := HC0.out.lt
  rw [hlo] at hlt0
  have HS0 : Hid (lo ≤ w0.heap.size) := Nat.le_of_eq hlo.symm
  have HD0 : Hid (Dr b lo w0 w0) := Dr.refl _ _ _
  have HFRESH : Hid (∀ w', Dr b lo w0 w' → Below w.heap.size w w') := fun w' hd => by
    rw [← hlo, ← hw0, ← hb] at hd; exact Dr.fresh hd
  clear hb hw0 HC hlo
  go_enter Try.func47, Try.ntmps47
  go_wp2_with fail
  rw [HB.out, HW0.out]
  refine (recurrentD_c b 0 _ HC0.out (by omega)).mono ?_
  rintro e w1 ⟨n1, v1, L, q, u1, xs, rfl, hn1, hn2, hl, hxl, hO1, hF1, hc1, hd1⟩
  have HC1 := hid (hc1.more (show _ ≤ (0 + 4000) by omega))
  have HD1 := hid (HD0.out.trans (hd1.low HS0.out))
  have HS1 : Hid (lo ≤ w1.heap.size) := Nat.le_trans HS0.out hd1.size
  have L_1 := hid ((hO1.mono HS0.out))
  have F_1 := hid ((hF1.mono HS0.out (Nat.le_refl _)))
  obtain ⟨al, nl, cl, rfl⟩ := hO1.form
  obtain ⟨a5, n5, c5, rfl⟩ := hF1.form3
  clear hO1 hF1
  clear hc1 hd1
  go_wp2
  (try simp only [Exit.inBlock, Exit.then]); refine bodyPost_ret (results_tmp4p rfl _ _ _) rfl ?_
  exact ⟨n1, _, L, q, _, xs, rfl, hn1, hn2, hl, hxl, L_1.out.r, F_1.out.r, HFRESH.out _ HD1.out⟩

set_option maxRecDepth 100000 in
set_option maxHeartbeats 4000000 in
theorem DrawAddPiles_c (v : Value) (n : Nat) (w : World) (h : RBytes w v n) :
    Calls Try.prog 12 #[v] w (RetGSNN w) := by
  have HC := hid (cur_new h)
  obtain ⟨a, cap, rfl, _, _⟩ := h.form
  clear h
  obtain ⟨b, hb⟩ : ∃ b, w.heap.size = b := ⟨_, rfl⟩
  obtain ⟨w0, hw0⟩ : ∃ w0, w.alloc (.cells #[.slice a n cap, .int .i64 0, .int .u64 0] 65) = w0 := ⟨_, rfl⟩
  have HW0 := hid hw0
  have HC0 : Hid (Cur w0 b 0) := by show Cur _ _ _; rw [← hw0, ← hb]; exact HC.out
  have HB := hid hb
  obtain ⟨lo, hlo⟩ : ∃ lo, w0.heap.size = lo := ⟨_, rfl⟩
  have hlt0 := HC0.out.lt
  rw [hlo] at hlt0
  have HS0 : Hid (lo ≤ w0.heap.size) := Nat.le_of_eq hlo.symm
  have HD0 : Hid (Dr b lo w0 w0) := Dr.refl _ _ _
  have HFRESH : Hid (∀ w', Dr b lo w0 w' → Below w.heap.size w w') := fun w' hd => by
    rw [← hlo, ← hw0, ← hb] at hd; exact Dr.fresh hd
  clear hb hw0 HC hlo
  go_enter Try.func12, Try.ntmps12
  go_wp2_with fail
  rw [HB.out, HW0.out]
  refine (recurrentD_c b 0 _ HC0.out (by omega)).mono ?_
  rintro e w1 ⟨n1, v1, L, q, u1, xs, rfl, hn1, hn2, hl, hxl, hO1, hF1, hc1, hd1⟩
  have HC1 := hid (hc1.more (show _ ≤ (0 + 4000) by omega))
  have HD1 := hid (HD0.out.trans (hd1.low HS0.out))
  have HS1 : Hid (lo ≤ w1.heap.size) := Nat.le_trans HS0.out hd1.size
  have L_1 := hid ((hO1.mono HS0.out))
  have F_1 := hid ((hF1.mono HS0.out (Nat.le_refl _)))
  obtain ⟨al, nl, cl, rfl⟩ := hO1.form
  obtain ⟨a5, n5, c5, rfl⟩ := hF1.form3
  clear hO1 hF1
  clear hc1 hd1
  go_wp2_with fail
  refine (pile_c b (0 + 4000) n1 q _ HC1.out (by omega) (by omega)).mono ?_
  rintro e w2 ⟨u2, ys, rfl, hyl, hF2, hc2, hd2⟩
  have HC2 := hid (hc2.more (show _ ≤ (0 + 4100) by omega))
  have HD2 := hid (HD1.out.trans (hd2.low HS1.out))
  have L_2 := hid (L_1.out.dr hd2 hlt0)
  have F_2 := hid (F_1.out.dr hd2 hlt0)
  have HS2 : Hid (lo ≤ w2.heap.size) := Nat.le_trans HS1.out hd2.size
  have G_2 := hid ((hF2.mono HS1.out (Nat.le_refl _)))
  obtain ⟨a6, n6, c6, rfl⟩ := hF2.form3
  clear hF2
  clear hc2 hd2
  go_wp2
  (try simp only [Exit.inBlock, Exit.then]); refine bodyPost_ret (results_tmp5p rfl _ _ _) rfl ?_
  exact ⟨n1, _, L, q, _, xs, _, ys, rfl, hn1, hn2, hl, hxl, hyl, L_2.out.r, F_2.out.r, G_2.out.r, HFRESH.out _ HD2.out⟩

set_option maxRecDepth 100000 in
set_option maxHeartbeats 1000000 in
theorem DrawToppleAll_c (v : Value) (n : Nat) (w : World) (h : RBytes w v n) :
    Calls Try.prog 6 #[v] w (RetGSN w) := by
  have HH := hid h
  obtain ⟨a, cap, rfl, _, _⟩ := h.form
  clear h
  go_enter Try.func6, Try.ntmps6
  go_wp2_with fail
  refine (DrawIsPile_c _ n _ HH.out).mono ?_
  rintro e w1 ⟨n1, u, L, q, u2, xs, rfl, hn1, hn2, hl, hxl, hL, hF, hb⟩
  have HF := hid (And.intro hL (And.intro hF hb))
  obtain ⟨a3, c3, rfl⟩ := hL.form
  obtain ⟨a4, c4, rfl, _, _, _⟩ := hF
  clear hL hb
  go_wp2
  (try simp only [Exit.inBlock, Exit.then]); refine bodyPost_ret (results_tmp4p rfl _ _ _) rfl ?_
  exact ⟨_, _, _, _, _, _, rfl, hn1, hn2, hl, hxl, HF.out.1, HF.out.2.1, HF.out.2.2⟩

set_option maxRecDepth 100000 in
set_option maxHeartbeats 1000000 in
theorem DrawOppositePile_c (v : Value) (n : Nat) (w : World) (h : RBytes w v n) :
    Calls Try.prog 15 #[v] w (RetGSN w) := by
  have HH := hid h
  obtain ⟨a, cap, rfl, _, _⟩ := h.form
  clear h
  go_enter Try.func15, Try.ntmps15
  go_wp2_with fail
  refine (DrawIsRecurrent_c _ n _ HH.out).mono ?_
  rintro e w1 ⟨n1, u, L, q, u2, xs, rfl, hn1, hn2, hl, hxl, hL, hF, hb⟩
  have HF := hid (And.intro hL (And.intro hF hb))
  obtain ⟨a3, c3, rfl⟩ := hL.form
  obtain ⟨a4, c4, rfl, _, _, _⟩ := hF
  clear hL hb
  go_wp2
  (try simp only [Exit.inBlock, Exit.then]); refine bodyPost_ret (results_tmp4p rfl _ _ _) rfl ?_
  exact ⟨_, _, _, _, _, _, rfl, hn1, hn2, hl, hxl, HF.out.1, HF.out.2.1, HF.out.2.2⟩

set_option maxRecDepth 100000 in
set_option maxHeartbeats 1000000 in
theorem DrawRecurrentPiles_c (v : Value) (n : Nat) (w : World) (h : RBytes w v n) :
    Calls Try.prog 24 #[v] w (RetGS w) := by
  have HH := hid h
  obtain ⟨a, cap, rfl, _, _⟩ := h.form
  clear h
  go_enter Try.func24, Try.ntmps24
  go_wp2_with fail
  refine (DrawGreatestStable_c _ n _ HH.out).mono ?_
  rintro e w1 ⟨n1, u, L, q, rfl, hn1, hn2, hl, hL, hb⟩
  have HF := hid (And.intro hL hb)
  obtain ⟨a3, c3, rfl⟩ := hL.form
  clear hL hb
  go_wp2
  go_ret3
  exact ⟨_, _, _, _, rfl, hn1, hn2, hl, HF.out.1, HF.out.2⟩

end Go.Proofs.Ytifdhapaonideaa

/- The laws' own small functions: equal lists, sums, membership. -/
namespace Go.Proofs.Ytifdhapaonideaa
open Go.RowKit
open Go.Lib (hid)

theorem RInts.form3 {w : World} {v : Value} {xs : List Int} (h : RInts w v xs) : ∃ a n c, v = .slice a n c := by
  obtain ⟨a, cap, rfl, _⟩ := h; exact ⟨_, _, _, rfl⟩
theorem RInts.form {w : World} {v : Value} {xs : List Int} (h : RInts w v xs) : ∃ a c, v = .slice a xs.length c := by
  obtain ⟨a, cap, rfl, _⟩ := h; exact ⟨_, _, rfl⟩
set_option maxHeartbeats 400000 in
theorem sameInts_c (v u : Value) (l m : List Int) (w : World) (h : RInts w v l) (h' : RInts w u m) :
    Calls Try.prog 9 #[v, u] w fun e w' => e = .returned (.bool (decide (l = m))) ∧ ∃ n, w' = w.drewN n := by
  obtain ⟨a, cap, rfl, h1, h2, hc⟩ := h
  obtain ⟨a', cap', rfl, h1', h2', hc'⟩ := h'
  unfold maxLen at h2 h2'
  by_cases hlen : l.length = m.length
  · have HL := hid hlen
    go_enter Try.func9, Try.ntmps9
    go_wp2
    go_loopw [13] (fun i wr => ∃ k : Nat, ∃ n : Nat, k ≤ l.length ∧ wr = w.drewN n ∧ i = .int .i64 k ∧ eqB l m = eqB (l.drop k) (m.drop k)) (fun i _ => l.length - (intOf i).toNat)
    case atStart => exact ⟨0, 0, Nat.zero_le _, rfl, rfl, rfl⟩
    case round =>
      obtain ⟨k, n, hk, rfl, rfl, hr⟩ := hrel
      have HR := hid hr; clear hr
      by_cases hlt : k < l.length
      · obtain ⟨g, o, x, rfl, hk, HD, HX⟩ := ints_at hc hlt
        obtain ⟨g', o', y, rfl, hk', HD', HY⟩ := ints_at hc' (show k < m.length by omega)
        clear hc hc'
        go_wp2
        go_quiet (fail)
        go_wp2
        · have hx : (x == y) = false := bne_iff_beq_false (by assumption)
          go_ret
          exact ⟨ret_bool (by rw [← eqB_same l m HL.out, HR.out, HD.out, HD'.out, eqB_cons, hx, Bool.false_and]), _, by first | exact World.drewN_drewN _ _ _ | rfl⟩
        · have hx : (x == y) = true := bne_false_beq (by assumption)
          go_roundw
          case rel => exact ⟨k + 1, _, by omega, by first | exact World.drewN_drewN _ _ _ | rfl, by go_num, by rw [HR.out, HD.out, HD'.out, eqB_cons, hx, Bool.true_and]⟩
          case measure => simp [intOf]; omega
      · clear hc hc'
        go_wp2
        go_ret
        exact ⟨ret_bool (by rw [← eqB_same l m HL.out, HR.out, List.drop_eq_nil_of_le (by omega), eqB_nil]), _, rfl⟩
  · have hne : l ≠ m := fun e => hlen (by rw [e])
    have HN := hid hne
    clear hne hc hc'
    go_enter Try.func9, Try.ntmps9
    go_wp2
    go_ret
    exact ⟨ret_bool (by simp [HN.out]), 0, rfl⟩
theorem sameInts_b (v u : Value) (l m : List Int) (w : World) (h : RInts w v l) (h' : RInts w u m) :
    Calls Try.prog 9 #[v, u] w fun e w' => e = .returned (.bool (decide (l = m))) ∧ Below w.heap.size w w' :=
  (sameInts_c v u l m w h h').mono fun e w' ⟨h1, n, h2⟩ => ⟨h1, by rw [h2]; exact below_drewN (Below.refl _ _) n⟩
/-- lists that are known to be the same -/
theorem sameInts_y (v u : Value) (l : List Int) (w : World) (h : RInts w v l) (h' : RInts w u l) :
    Calls Try.prog 9 #[v, u] w fun e w' => e = .returned (.bool true) ∧ Below w.heap.size w w' :=
  (sameInts_b v u l l w h h').mono fun e w' ⟨h1, h2⟩ => ⟨by rw [h1]; simp, h2⟩

/-- numbers whose sum fits -/
def smallQ (l : List Int) : Prop := l.length ≤ 1048576 ∧ ∀ x ∈ l, -1000000000000 ≤ x ∧ x ≤ 1000000000000
theorem sumQ_bound {l : List Int} (h : ∀ x ∈ l, -1000000000000 ≤ x ∧ x ≤ 1000000000000) : -1000000000000 * (l.length : Int) ≤ l.sum ∧ l.sum ≤ 1000000000000 * (l.length : Int) := by
  induction l with
  | nil => simp
  | cons x xs ih =>
    have h1 := h x (by simp)
    have h2 := ih (fun y hy => h y (by simp [hy]))
    rw [List.sum_cons, List.length_cons]; omega
theorem sumQ_succ (l : List Int) {k : Nat} (h : k < l.length) : (l.take (k + 1)).sum = (l.take k).sum + l.getD k 0 := by
  rw [List.take_succ_eq_append_getElem h, List.sum_append]; simp [List.getD, h]
set_option maxHeartbeats 1000000 in
theorem pSum_c (v : Value) (l : List Int) (w : World) (h : RInts w v l) (hs : smallQ l) :
    Calls Try.prog 11 #[v] w fun e w' => e = .returned (.int .i64 l.sum) ∧ w = w' := by
  obtain ⟨a, cap, rfl, h1, h2, hc⟩ := h
  unfold maxLen at h2
  have HS := hid hs
  have hl := hs.1
  clear hs
  go_enter Try.func11, Try.ntmps11
  go_wp2
  go_loop [3, 8] (fun s i => ∃ k : Nat, k ≤ l.length ∧ i = .int .i64 k ∧ s = .int .i64 (l.take k).sum) (fun _ i => l.length - (intOf i).toNat)
  case atStart => exact ⟨0, Nat.zero_le _, rfl, rfl⟩
  case round =>
    obtain ⟨k, hk, rfl, rfl⟩ := hrel
    by_cases hlt : k < l.length
    · obtain ⟨g, o, x, rfl, hk, HD, HX⟩ := ints_at hc hlt
      have h3 := sumQ_succ l hlt
      rw [HX.out] at h3
      have h4 := sumQ_bound (l := l.take k) (fun x hx => HS.out.2 x (List.mem_of_mem_take hx))
      have h5 := HS.out.2 x (by rw [← HX.out]; simp [List.getD, hlt])
      have h6 : (l.take k).length ≤ 1048576 := by rw [List.length_take]; omega
      obtain ⟨q, hq⟩ : ∃ q, (l.take k).sum = q := ⟨_, rfl⟩
      rw [hq] at h3 h4 ⊢
      have h7 : -1048576000000000000 ≤ q ∧ q ≤ 1048576000000000000 := by omega
      have HE := hid h3
      clear hc h3 h4 h6 hq
      go_wp2
      go_round
      case rel => exact ⟨k + 1, by omega, by go_num, by rw [HE.out]⟩
      case measure => simp [intOf]; omega
    · obtain rfl : k = l.length := by omega
      rw [List.take_length]
      clear hc
      go_wp2
      go_ret
      exact ⟨rfl, rfl⟩

end Go.Proofs.Ytifdhapaonideaa

/- Results of the functions of piles, with names for what is known. -/
namespace Go.Proofs.Ytifdhapaonideaa
open Go.RowKit
open Go.Lib (hid)

theorem RetIB.lp {w : World} {p : List Int × Bool} {e : Ending} {w' : World} (h : RetIB w p e w') {X : List Int} {b : Bool} (hp : p = (X, b)) : ∃ a n c, e = .returned (.tuple #[.slice a n c, .bool b]) ∧ RInts w' (.slice a n c) X ∧ Below w.heap.size w w' := by
  subst hp
  obtain ⟨v, rfl, hF, hb⟩ := h
  obtain ⟨a, n, c, rfl⟩ := hF.form3
  exact ⟨a, n, c, rfl, hF.r, hb⟩
theorem RetTB.lp {w : World} {p : List Int × List Int × Bool} {e : Ending} {w' : World} (h : RetTB w p e w') {X Y : List Int} {b : Bool} (hp : p = (X, Y, b)) : ∃ a n c a' n' c', e = .returned (.tuple #[.slice a n c, .slice a' n' c', .bool b]) ∧ RInts w' (.slice a n c) X ∧ RInts w' (.slice a' n' c') Y ∧ Below w.heap.size w w' := by
  subst hp
  obtain ⟨v, s, rfl, hF, hS, hb⟩ := h
  obtain ⟨a, n, c, rfl⟩ := hF.form3
  obtain ⟨a', n', c', rfl⟩ := hS.form3
  exact ⟨a, n, c, a', n', c', rfl, hF.r, hS.r, hb⟩
theorem RetBC.lp {w : World} {p : Bool × Bool} {e : Ending} {w' : World} (h : RetBC w p e w') {x b : Bool} (hp : p = (x, b)) : e = .returned (.tuple #[.bool x, .bool b]) ∧ Below w.heap.size w w' := by
  subst hp; exact h
theorem RetZC.lp {w : World} {p : Int × Bool} {e : Ending} {w' : World} (h : RetZC w p e w') {x : Int} {b : Bool} (hp : p = (x, b)) : e = .returned (.tuple #[.int .i64 x, .bool b]) ∧ Below w.heap.size w w' := by
  subst hp; exact h

/-- a sum of few great numbers -/
theorem sumP_bound {l : List Int} (h : ∀ x ∈ l, 0 ≤ x ∧ x ≤ 100000000000000000) : 0 ≤ l.sum ∧ l.sum ≤ 100000000000000000 * (l.length : Int) := by
  induction l with
  | nil => simp
  | cons x xs ih =>
    have h1 := h x (by simp)
    have h2 := ih (fun y hy => h y (by simp [hy]))
    rw [List.sum_cons, List.length_cons]; omega
set_option maxHeartbeats 1000000 in
theorem pSumB_c (v : Value) (l : List Int) (w : World) (h : RInts w v l) (hs : l.length ≤ 5 ∧ ∀ x ∈ l, 0 ≤ x ∧ x ≤ 100000000000000000) :
    Calls Try.prog 11 #[v] w fun e w' => e = .returned (.int .i64 l.sum) ∧ w = w' := by
  obtain ⟨a, cap, rfl, h1, h2, hc⟩ := h
  unfold maxLen at h2
  have HS := hid hs
  have hl := hs.1
  clear hs
  go_enter Try.func11, Try.ntmps11
  go_wp2
  go_loop [3, 8] (fun s i => ∃ k : Nat, k ≤ l.length ∧ i = .int .i64 k ∧ s = .int .i64 (l.take k).sum) (fun _ i => l.length - (intOf i).toNat)
  case atStart => exact ⟨0, Nat.zero_le _, rfl, rfl⟩
  case round =>
    obtain ⟨k, hk, rfl, rfl⟩ := hrel
    by_cases hlt : k < l.length
    · obtain ⟨g, o, x, rfl, hk, HD, HX⟩ := ints_at hc hlt
      have h3 := sumQ_succ l hlt
      rw [HX.out] at h3
      have h4 := sumP_bound (l := l.take k) (fun x hx => HS.out.2 x (List.mem_of_mem_take hx))
      have h5 := HS.out.2 x (by rw [← HX.out]; simp [List.getD, hlt])
      have h6 : (l.take k).length ≤ 5 := by rw [List.length_take]; omega
      obtain ⟨q, hq⟩ : ∃ q, (l.take k).sum = q := ⟨_, rfl⟩
      rw [hq] at h3 h4 ⊢
      have h7 : 0 ≤ q ∧ q ≤ 500000000000000000 := by omega
      have HE := hid h3
      clear hc h3 h4 h6 hq
      go_wp2
      go_round
      case rel => exact ⟨k + 1, by omega, by go_num, by rw [HE.out]⟩
      case measure => simp [intOf]; omega
    · obtain rfl : k = l.length := by omega
      rw [List.take_length]
      clear hc
      go_wp2
      go_ret
      exact ⟨rfl, rfl⟩

/-- more bytes than a million and a bit -/
def bigB (n m : Nat) : Bool := decide (1048576 < n) || decide (1048576 - (n : Int) < m)
set_option maxHeartbeats 1000000 in
theorem big_c (v u : Value) (n m : Nat) (w : World) (h : RBytes w v n) (h' : RBytes w u m) :
    Calls Try.prog 5 #[v, u] w fun e w' => e = .returned (.bool (bigB n m)) ∧ ∃ q, w' = w.drewN q := by
  obtain ⟨a, cap, rfl, h1, h2⟩ := h.form
  obtain ⟨a', cap', rfl, h3, h4⟩ := h'.form
  unfold maxLen at h2 h4
  clear h h'
  by_cases t1 : (1048576 : Int) < (n : Int)
  · go_enter Try.func5, Try.ntmps5
    go_wp2
    go_ret
    exact ⟨ret_bool (by unfold bigB; simp; omega), 0, rfl⟩
  · have f1 : IntKind.i64.wrap (1048576 - (n : Int)) = 1048576 - (n : Int) := IntWalk.i64_in _ (by omega)
    by_cases t2 : 1048576 - (n : Int) < (m : Int)
    all_goals
      go_enter Try.func5, Try.ntmps5
      go_wp2
      go_ret
      exact ⟨ret_bool (by unfold bigB; simp; omega), 0, rfl⟩
end Go.Proofs.Ytifdhapaonideaa

/- From a law's row to its walk: arguments opened as lists of ints and lists of lists of ints. -/
namespace Go.Proofs.Ytifdhapaonideaa
open Go.ChangeShapes Go.WideShapes Go.ChangeAt Go.RowKit Go.Deep
open Go.ChangeMaps (open_string shut_string)

theorem Try.own' : ownKnob Try.prog.godebug = none := by kernel_rfl
theorem Try.laidOut' : laidOutB Try.prog = true := by kernel_rfl
theorem Try.cellsInt : Try.prog.cellsOf 3 = 1 := by kernel_rfl
theorem Try.cellsInts : Try.prog.cellsOf 25 = 1 := by kernel_rfl

/-- fits Go's int -/
def I64 (x : Int) : Prop := -9223372036854775808 ≤ x ∧ x ≤ 9223372036854775807
theorem I64_of {x : Int} (h : (Lit.int .i64 x).wf = true) : I64 x := by
  simp [Lit.wf, IntKind.min, IntKind.max, IntKind.signed, IntKind.bits] at h
  exact ⟨by omega, by omega⟩

theorem rints_row {W : World} {a : Option Addr} {len cap : Nat} {zs : List Int} (hl : len ≤ cap) (hm : cap ≤ maxLen) (hz : zs.length = cap)
    (hc : ∀ a', a = some a' → ∀ c, c < cap → W.cell? (a'.add c) = some (.int .i64 (zs.getD c 0))) (hn : a = none → cap = 0) : RInts W (.slice a len cap) (zs.take len) := by
  have hlen : (zs.take len).length = len := by rw [List.length_take]; omega
  refine ⟨a, cap, by rw [hlen], by rw [hlen]; exact hl, hm, fun i hi => ?_⟩
  rw [hlen] at hi
  cases a with
  | none => have := hn rfl; omega
  | some ad =>
    obtain ⟨b, off, rfl, hcell⟩ := _root_.Go.ints_at (zs := zs) (a := ad) (w := W) (k := .i64) (fun j hj => hc ad rfl j (by omega)) (by omega)
    refine ⟨b, off, rfl, ?_⟩
    rw [hcell i (by omega)]
    simp [List.getD, hi]

section
variable {H : Type} {enc : TypeId × Value → H} {W : World} {base : Nat}

set_option maxRecDepth 100000 in
theorem open_rints {v : Value} {d : DataW H} {p : List MemPlace} (hv : Value.okWide Try.prog W .any base 25 v) (h : DataW.Trod enc Try.prog W 0 (fun _ => true) true 25 v d p) :
    ∃ xs, RInts W v xs ∧ ∀ x ∈ xs, I64 x := by
  obtain ⟨a, len, cap, rfl⟩ := okWide_slice Try.underlying25 hv
  obtain ⟨fuel, hf⟩ := h
  rcases open_ints Try.underlying25 Try.underlying3 Try.cellsInt hf with ⟨hcs, _⟩ | ⟨x, l, c, zs, hcs, _, hl, hm, hz, _, hcell, hwz⟩
  · simp [Value.cells] at hcs
    obtain ⟨rfl, rfl, rfl⟩ := hcs
    exact ⟨[], ⟨none, 0, rfl, Nat.le_refl _, by unfold maxLen; omega, fun i hi => by simp at hi⟩, by simp⟩
  · simp [Value.cells] at hcs
    obtain ⟨rfl, rfl, rfl⟩ := hcs
    simp only [if_true] at hz
    exact ⟨zs.take len, rints_row hl hm hz (fun a' ha c hc => by cases ha; exact hcell c (by omega)) (fun e => by cases e), fun x hx => I64_of (hwz x (List.mem_of_mem_take hx))⟩

set_option maxRecDepth 100000 in
theorem open_rmat {v : Value} {d : DataW H} {p : List MemPlace} (hv : Value.okWide Try.prog W .any base 44 v) (h : DataW.Trod enc Try.prog W 0 (fun _ => true) true 44 v d p) :
    ∃ M, RMat W v M ∧ ∀ r ∈ M, ∀ x ∈ r, I64 x := by
  obtain ⟨a, len, cap, rfl⟩ := okWide_slice Try.underlying44 hv
  obtain ⟨fuel, hf⟩ := h
  rcases open_int_rows Try.underlying44 Try.underlying25 Try.underlying3 Try.cellsInts Try.cellsInt hf with ⟨hcs, _⟩ | ⟨ad, l, c, A, L, C, Z, hcs, _, hl, hm, _, hr⟩
  · simp [Value.cells] at hcs
    obtain ⟨rfl, rfl, rfl⟩ := hcs
    exact ⟨[], ⟨none, 0, rfl, Nat.le_refl _, by unfold maxLen; omega, fun i hi => by simp at hi⟩, by simp⟩
  · simp [Value.cells] at hcs
    obtain ⟨rfl, rfl, rfl⟩ := hcs
    refine ⟨(List.range len).map fun r => (Z r).take (L r), ⟨some ad, cap, by simp, by simpa using hl, hm, fun i hi => ?_⟩, fun r hr' x hx => ?_⟩
    · simp only [List.length_map, List.length_range] at hi
      obtain ⟨hc, h1, h2, h3, h4, h5, h6⟩ := hr i (by omega)
      obtain ⟨b, off, spot⟩ := ad
      have hspot : spot = none := by
        have h0 := (hr 0 (by omega)).1
        simpa [Addr.add] using World.cell?_spot h0
      subst hspot
      have e : ((⟨b, off, none⟩ : Addr).add i) = ⟨b, off + i, none⟩ := by unfold Addr.add; split <;> simp_all
      rw [e] at hc
      refine ⟨b, off, _, rfl, hc, ?_⟩
      have hg : ((List.range len).map fun r => (Z r).take (L r)).getD i [] = (Z i).take (L i) := by simp [List.getD, hi]
      rw [hg]
      exact rints_row h1 h2 h3 (fun a' ha c hcc => (h6 a' ha).2 c hcc) h5
    · obtain ⟨i, hi, rfl⟩ := List.mem_map.1 hr'
      exact I64_of ((hr i (by have := List.mem_range.1 hi; omega)).2.2.2.2.1 x (List.mem_of_mem_take hx))

theorem trod_blocks {t : TypeId} {v : Value} {d : DataW H} {p : List MemPlace} (h : DataW.Trod enc Try.prog W 0 (fun _ => true) true t v d p) : ∀ x ∈ p, x.block < W.heap.size := by
  obtain ⟨m, hm⟩ := h
  exact DataW.trod_lt m _ _ _ hm
end

end Go.Proofs.Ytifdhapaonideaa

/- From a law's row to its walk: a slice of bytes opened. -/
namespace Go.Proofs.Ytifdhapaonideaa
open Go.ChangeShapes Go.WideShapes Go.ChangeAt Go.RowKit Go.Deep
open Go.ChangeMaps (open_string shut_string)

theorem Try.cellsByte : Try.prog.cellsOf 5 = 1 := by kernel_rfl

section
variable {H : Type} {enc : TypeId × Value → H} {W : World} {base : Nat}

set_option maxRecDepth 100000 in
theorem open_rbytes {v : Value} {d : DataW H} {p : List MemPlace} (hv : Value.okWide Try.prog W .any base 22 v) (h : DataW.Trod enc Try.prog W 0 (fun _ => true) true 22 v d p) :
    ∃ n, RBytes W v n ∧ True := by
  obtain ⟨a, len, cap, rfl⟩ := okWide_slice Try.underlying22 hv
  obtain ⟨fuel, hf⟩ := h
  rcases open_slice Try.underlying22 hf with ⟨hcs, _⟩ | ⟨ad, l, c, m, n, D, Pl, hcs, _, hl, hm, hmm, _, hr⟩
  · simp [Value.cells] at hcs
    obtain ⟨rfl, rfl, rfl⟩ := hcs
    exact ⟨0, ⟨none, 0, rfl, Nat.le_refl _, by unfold maxLen; omega, fun i hi => by omega⟩, trivial⟩
  · simp [Value.cells] at hcs
    obtain ⟨rfl, rfl, rfl⟩ := hcs
    simp only [if_true] at hmm
    refine ⟨len, ⟨some ad, cap, rfl, hl, hm, fun i hi => ?_⟩, trivial⟩
    have each : ∀ i, i < len → ∃ y : Int, W.cell? (ad.add i) = some (.int .u8 y) ∧ 0 ≤ y ∧ y < 256 := by
      intro i hi
      obtain ⟨cs, h1, h2⟩ := hr i (by omega)
      rw [Try.cellsByte] at h1
      obtain ⟨_, hlen, hc⟩ := World.cells?_some h1
      obtain ⟨c0, rfl⟩ : ∃ c0, cs = [c0] := by
        match cs, hlen with
        | [c0], _ => exact ⟨c0, rfl⟩
      obtain ⟨z0, e0, _, w0⟩ := DataW.trod_int Try.underlying5 h2
      simp at e0
      subst e0
      refine ⟨z0, by simpa [Addr.add] using hc 0 (by omega), ?_⟩
      simp [Lit.wf, IntKind.min, IntKind.max, IntKind.signed, IntKind.bits] at w0
      omega
    obtain ⟨b, off, spot⟩ := ad
    obtain ⟨y, k1, k2, k3⟩ := each i hi
    have hspot : spot = none := by
      obtain ⟨y0, h0, _⟩ := each 0 (by omega)
      simpa [Addr.add] using World.cell?_spot h0
    subst hspot
    have e : ((⟨b, off, none⟩ : Addr).add i) = ⟨b, off + i, none⟩ := by unfold Addr.add; split <;> simp_all
    rw [e] at k1
    exact ⟨b, off, y, rfl, k1, k2, k3⟩
end

end Go.Proofs.Ytifdhapaonideaa

namespace Go.Proofs.Ytifdhapaonideaa
open Go.ChangeShapes Go.WideShapes Go.ChangeAt Go.RowKit
open Go.Lib (hid)

set_option maxRecDepth 100000 in
set_option maxHeartbeats 40000000 in
theorem FnPiles_c (v0 : Value) (x0 : Nat) (v1 : Value) (x1 : Nat) (w : World) (r0 : RBytes w v0 x0) (r1 : RBytes w v1 x1) :
    Calls Try.prog 3 #[v0, v1] w fun e w' => e = .returned (.bool true) ∧ Below w.heap.size w w' := by
  have R0 := hid r0
  have R1 := hid r1
  obtain ⟨a0, c0, rfl, hx0, hm0⟩ := r0.form
  obtain ⟨a1, c1, rfl, hx1, hm1⟩ := r1.form
  unfold maxLen at hm0 hm1
  clear r0 r1
  cases tbig : bigB x0 x1
  case' true =>
    have HTB := hid tbig
    clear tbig
    go_enter Try.func3, Try.ntmps3
    go_wp2_with fail
    refine (big_c _ _ _ _ _ R0.out R1.out).mono ?_
    rintro e w' ⟨rfl, q, rfl⟩
    rw [HTB.out]
    go_wp2
    go_ret
    exact ⟨rfl, below_drewN (Below.refl _ _) _⟩
  have HTB := hid tbig
  clear tbig
  go_enter Try.func3, Try.ntmps3
  go_wp2_with fail
  refine (big_c _ _ _ _ _ R0.out R1.out).mono ?_
  rintro e w0 ⟨rfl, qb, hqb⟩
  rw [HTB.out]
  have HB0 : Hid (Below w.heap.size w w0) := by rw [hqb]; exact below_drewN (Below.refl _ _) _
  have R0_0 := hid (R0.out.keep HB0.out)
  have R1_0 := hid (R1.out.keep HB0.out)
  clear hqb
  go_wp2_with fail
  refine (DrawToppleAll_c _ x0 _ R0_0.out).mono ?_
  rintro e w1 ⟨n, vL, L, q, vd, d, rfl, hn1, hn9, hll, hdl, hL, hD, hb1⟩
  have HBw1 := hid (HB0.out.trans (hb1.mono HB0.out.size))
  have R1_w1 := hid (R1_0.out.keep hb1)
  have L_w1 := hid hL
  have D_w1 := hid hD
  obtain ⟨al, cl, rfl⟩ := hL.form
  obtain ⟨ad, nd, cd, rfl⟩ := hD.form3
  clear hb1 hL hD
  cases t : piAB n L q d
  · have HT := hid (top_no t)
    clear t
    go_wp2_with fail
    refine ((iToppleAll_u n _ L q _ d _ L_w1.out D_w1.out).mono fun e w' h => h.lp HT.out).mono ?_
    rintro e w2 ⟨a2, n2, c2, a2x, n2x, c2x, rfl, hp2, hq2, hb2⟩
    have HBw2 := hid (HBw1.out.trans (hb2.mono HBw1.out.size))
    have R1_w2 := hid (R1_w1.out.keep hb2)
    have L_w2 := hid (L_w1.out.keep hb2)
    have D_w2 := hid (D_w1.out.keep hb2)
    have P1_w2 := hid hp2
    have T1_w2 := hid hq2
    clear hb2 hp2 hq2
    go_wp2_with fail
    refine ((sToppleAll_u n _ L q _ d _ L_w2.out D_w2.out).mono fun e w' h => h.lp HT.out).mono ?_
    rintro e w3 ⟨a3, n3, c3, a3x, n3x, c3x, rfl, hp3, hq3, hb3⟩
    have HBw3 := hid (HBw2.out.trans (hb3.mono HBw2.out.size))
    have R1_w3 := hid (R1_w2.out.keep hb3)
    have L_w3 := hid (L_w2.out.keep hb3)
    have D_w3 := hid (D_w2.out.keep hb3)
    have P1_w3 := hid (P1_w2.out.keep hb3)
    have T1_w3 := hid (T1_w2.out.keep hb3)
    have P2_w3 := hid hp3
    have T2_w3 := hid hq3
    clear hb3 hp3 hq3
    go_wp2_with fail
    refine (sameInts_y _ _ [] _ P1_w3.out P2_w3.out).mono ?_
    rintro e w4 ⟨rfl, hb4⟩
    have HBw4 := hid (HBw3.out.trans (hb4.mono HBw3.out.size))
    have R1_w4 := hid (R1_w3.out.keep hb4)
    have L_w4 := hid (L_w3.out.keep hb4)
    have D_w4 := hid (D_w3.out.keep hb4)
    have P1_w4 := hid (P1_w3.out.keep hb4)
    have T1_w4 := hid (T1_w3.out.keep hb4)
    have P2_w4 := hid (P2_w3.out.keep hb4)
    have T2_w4 := hid (T2_w3.out.keep hb4)
    clear hb4
    go_wp2_with fail
    refine (sameInts_y _ _ [] _ T1_w4.out T2_w4.out).mono ?_
    rintro e w5 ⟨rfl, hb5⟩
    have HBw5 := hid (HBw4.out.trans (hb5.mono HBw4.out.size))
    have R1_w5 := hid (R1_w4.out.keep hb5)
    have L_w5 := hid (L_w4.out.keep hb5)
    have D_w5 := hid (D_w4.out.keep hb5)
    have P1_w5 := hid (P1_w4.out.keep hb5)
    have T1_w5 := hid (T1_w4.out.keep hb5)
    have P2_w5 := hid (P2_w4.out.keep hb5)
    have T2_w5 := hid (T2_w4.out.keep hb5)
    clear hb5
    as_aux_lemma =>
      go_wp2_with fail
      refine (DrawAddPiles_c _ x1 _ R1_w5.out).mono ?_
      rintro e w6 ⟨m2, vK, K, s, va, a, vb, b, rfl, hm1, hm9, hkl, hal, hbl, hK, hA, hBB, hb6⟩
      have HBw6 := hid (HBw5.out.trans (hb6.mono HBw5.out.size))
      have R1_w6 := hid (R1_w5.out.keep hb6)
      have L_w6 := hid hK
      have A_w6 := hid hA
      have B_w6 := hid hBB
      obtain ⟨ak, ck, rfl⟩ := hK.form
      obtain ⟨aa, na, ca, rfl⟩ := hA.form3
      obtain ⟨ab, nb, cb, rfl⟩ := hBB.form3
      obtain ⟨Z, bz, hz2⟩ : ∃ Z bz, addpB m2 K s a b = (Z, bz) := ⟨_, _, rfl⟩
      have hcm := fun h => addp_comm (n := m2) (L := K) (q := s) (c := a) (d := b) h
      rw [hz2] at hcm
      have HZ2 := hid hz2
      clear hz2
      clear hb6 hK hA hBB
      go_wp2_with fail
      refine ((iAddPiles_u m2 _ K s _ a _ b _ L_w6.out A_w6.out B_w6.out).mono fun e w' h => h.lp HZ2.out).mono ?_
      rintro e w7 ⟨a7, n7, c7, rfl, hp7, hb7⟩
      have HBw7 := hid (HBw6.out.trans (hb7.mono HBw6.out.size))
      have R1_w7 := hid (R1_w6.out.keep hb7)
      have L_w7 := hid (L_w6.out.keep hb7)
      have A_w7 := hid (A_w6.out.keep hb7)
      have B_w7 := hid (B_w6.out.keep hb7)
      have X_w7 := hid hp7
      clear hb7 hp7
      go_wp2_with fail
      refine ((sAddPiles_u m2 _ K s _ a _ b _ L_w7.out A_w7.out B_w7.out).mono fun e w' h => h.lp HZ2.out).mono ?_
      rintro e w8 ⟨a8, n8, c8, rfl, hp8, hb8⟩
      have HBw8 := hid (HBw7.out.trans (hb8.mono HBw7.out.size))
      have R1_w8 := hid (R1_w7.out.keep hb8)
      have L_w8 := hid (L_w7.out.keep hb8)
      have A_w8 := hid (A_w7.out.keep hb8)
      have B_w8 := hid (B_w7.out.keep hb8)
      have X_w8 := hid (X_w7.out.keep hb8)
      have S_w8 := hid hp8
      clear hb8 hp8
      cases bz
      · clear hcm
        go_wp2_with fail
        refine (sameInts_y _ _ Z _ X_w8.out S_w8.out).mono ?_
        rintro e w9 ⟨rfl, hb9⟩
        have HBw9 := hid (HBw8.out.trans (hb9.mono HBw8.out.size))
        have R1_w9 := hid (R1_w8.out.keep hb9)
        have L_w9 := hid (L_w8.out.keep hb9)
        have A_w9 := hid (A_w8.out.keep hb9)
        have B_w9 := hid (B_w8.out.keep hb9)
        have X_w9 := hid (X_w8.out.keep hb9)
        have S_w9 := hid (S_w8.out.keep hb9)
        clear hb9
        as_aux_lemma =>
          go_wp2_with fail
          refine (DrawOppositePile_c _ x1 _ R1_w9.out).mono ?_
          rintro e w10 ⟨g, vM, M, z, vr, r, rfl, hg1, hg9, hml, hrl, hM, hR, hb10⟩
          have HBw10 := hid (HBw9.out.trans (hb10.mono HBw9.out.size))
          have L_w10 := hid hM
          have D_w10 := hid hR
          obtain ⟨am, cm, rfl⟩ := hM.form
          obtain ⟨ar, nr, cr, rfl⟩ := hR.form3
          clear hb10 hM hR
          cases t3 : piRB g M z r
          · obtain ⟨ho, hq, hi⟩ := opp_no t3
            have HO := hid ho
            have HQ := hid hq
            obtain ⟨i1, i2, hii⟩ : ∃ i1 i2, isrB g M z r = (i1, i2) := ⟨_, _, rfl⟩
            rw [hii] at hi
            have HI := hid hii
            have hi : (i2 && i1) = false := hi
            clear t3 ho hq hii
            go_wp2_with fail
            refine ((iOppositePile_u g _ M z _ r _ L_w10.out D_w10.out).mono fun e w' h => h.lp HO.out).mono ?_
            rintro e w11 ⟨a11, n11, c11, rfl, hp11, hb11⟩
            have HBw11 := hid (HBw10.out.trans (hb11.mono HBw10.out.size))
            have L_w11 := hid (L_w10.out.keep hb11)
            have D_w11 := hid (D_w10.out.keep hb11)
            have O1_w11 := hid hp11
            clear hb11 hp11
            go_wp2_with fail
            refine ((sOppositePile_u g _ M z _ r _ L_w11.out D_w11.out).mono fun e w' h => h.lp HO.out).mono ?_
            rintro e w12 ⟨a12, n12, c12, rfl, hp12, hb12⟩
            have HBw12 := hid (HBw11.out.trans (hb12.mono HBw11.out.size))
            have L_w12 := hid (L_w11.out.keep hb12)
            have D_w12 := hid (D_w11.out.keep hb12)
            have O1_w12 := hid (O1_w11.out.keep hb12)
            have O2_w12 := hid hp12
            clear hb12 hp12
            go_wp2_with fail
            refine ((iOrderOfPile_u g _ M z _ r _ L_w12.out D_w12.out).mono fun e w' h => h.lp HQ.out).mono ?_
            rintro e w13 ⟨rfl, hb13⟩
            have HBw13 := hid (HBw12.out.trans (hb13.mono HBw12.out.size))
            have L_w13 := hid (L_w12.out.keep hb13)
            have D_w13 := hid (D_w12.out.keep hb13)
            have O1_w13 := hid (O1_w12.out.keep hb13)
            have O2_w13 := hid (O2_w12.out.keep hb13)
            clear hb13
            go_wp2_with fail
            refine ((sOrderOfPile_u g _ M z _ r _ L_w13.out D_w13.out).mono fun e w' h => h.lp HQ.out).mono ?_
            rintro e w14 ⟨rfl, hb14⟩
            have HBw14 := hid (HBw13.out.trans (hb14.mono HBw13.out.size))
            have L_w14 := hid (L_w13.out.keep hb14)
            have D_w14 := hid (D_w13.out.keep hb14)
            have O1_w14 := hid (O1_w13.out.keep hb14)
            have O2_w14 := hid (O2_w13.out.keep hb14)
            clear hb14
            go_wp2_with fail
            refine ((iIsRecurrent_u g _ M z _ r _ L_w14.out D_w14.out).mono fun e w' h => h.lp HI.out).mono ?_
            rintro e w15 ⟨rfl, hb15⟩
            have HBw15 := hid (HBw14.out.trans (hb15.mono HBw14.out.size))
            have L_w15 := hid (L_w14.out.keep hb15)
            have D_w15 := hid (D_w14.out.keep hb15)
            have O1_w15 := hid (O1_w14.out.keep hb15)
            have O2_w15 := hid (O2_w14.out.keep hb15)
            clear hb15
            go_wp2_with fail
            refine ((sIsRecurrent_u g _ M z _ r _ L_w15.out D_w15.out).mono fun e w' h => h.lp HI.out).mono ?_
            rintro e w16 ⟨rfl, hb16⟩
            have HBw16 := hid (HBw15.out.trans (hb16.mono HBw15.out.size))
            have L_w16 := hid (L_w15.out.keep hb16)
            have D_w16 := hid (D_w15.out.keep hb16)
            have O1_w16 := hid (O1_w15.out.keep hb16)
            have O2_w16 := hid (O2_w15.out.keep hb16)
            clear hb16
            cases i1 <;> cases i2
            all_goals try (exfalso; simp at hi; done)
            all_goals
              go_wp2_with fail
              refine (sameInts_y _ _ [] _ O1_w16.out O2_w16.out).mono ?_
              rintro e w17 ⟨rfl, hb17⟩
              have HBw17 := hid (HBw16.out.trans (hb17.mono HBw16.out.size))
              have L_w17 := hid (L_w16.out.keep hb17)
              have D_w17 := hid (D_w16.out.keep hb17)
              have O1_w17 := hid (O1_w16.out.keep hb17)
              have O2_w17 := hid (O2_w16.out.keep hb17)
              clear hb17
              go_wp2
              go_ret
              exact ⟨rfl, HBw17.out⟩
          · obtain ⟨m3, k3, hm3, hk3, _⟩ := piRB_parts t3
            subst hm3
            subst hk3
            obtain ⟨o, E, j, ho, hq, hi, he, hn, hs, hj1, hj⟩ := opp_yes t3
            have HO := hid ho
            have HQ := hid hq
            have HI := hid hi
            have HE := hid he
            have HN := hid hn
            have HS := hid hs
            obtain ⟨B3, hB3⟩ : ∃ B3, decide (r = E) = B3 := ⟨_, rfl⟩
            rw [hB3] at hj
            have HB3 := hid hB3
            have hj2 : (j == 1) = B3 := by rw [← hj, Bool.beq_eq_decide_eq]
            clear t3 ho hq hi he hn hs hB3 hj
            go_wp2_with fail
            refine ((iOppositePile_u (m3 : Int) _ M (k3 : Int) _ r _ L_w10.out D_w10.out).mono fun e w' h => h.lp HO.out).mono ?_
            rintro e w11 ⟨a11, n11, c11, rfl, hp11, hb11⟩
            have HBw11 := hid (HBw10.out.trans (hb11.mono HBw10.out.size))
            have L_w11 := hid (L_w10.out.keep hb11)
            have D_w11 := hid (D_w10.out.keep hb11)
            have O1_w11 := hid hp11
            clear hb11 hp11
            go_wp2_with fail
            refine ((sOppositePile_u (m3 : Int) _ M (k3 : Int) _ r _ L_w11.out D_w11.out).mono fun e w' h => h.lp HO.out).mono ?_
            rintro e w12 ⟨a12, n12, c12, rfl, hp12, hb12⟩
            have HBw12 := hid (HBw11.out.trans (hb12.mono HBw11.out.size))
            have L_w12 := hid (L_w11.out.keep hb12)
            have D_w12 := hid (D_w11.out.keep hb12)
            have O1_w12 := hid (O1_w11.out.keep hb12)
            have O2_w12 := hid hp12
            clear hb12 hp12
            go_wp2_with fail
            refine ((iOrderOfPile_u (m3 : Int) _ M (k3 : Int) _ r _ L_w12.out D_w12.out).mono fun e w' h => h.lp HQ.out).mono ?_
            rintro e w13 ⟨rfl, hb13⟩
            have HBw13 := hid (HBw12.out.trans (hb13.mono HBw12.out.size))
            have L_w13 := hid (L_w12.out.keep hb13)
            have D_w13 := hid (D_w12.out.keep hb13)
            have O1_w13 := hid (O1_w12.out.keep hb13)
            have O2_w13 := hid (O2_w12.out.keep hb13)
            clear hb13
            go_wp2_with fail
            refine ((sOrderOfPile_u (m3 : Int) _ M (k3 : Int) _ r _ L_w13.out D_w13.out).mono fun e w' h => h.lp HQ.out).mono ?_
            rintro e w14 ⟨rfl, hb14⟩
            have HBw14 := hid (HBw13.out.trans (hb14.mono HBw13.out.size))
            have L_w14 := hid (L_w13.out.keep hb14)
            have D_w14 := hid (D_w13.out.keep hb14)
            have O1_w14 := hid (O1_w13.out.keep hb14)
            have O2_w14 := hid (O2_w13.out.keep hb14)
            clear hb14
            go_wp2_with fail
            refine ((iIsRecurrent_u (m3 : Int) _ M (k3 : Int) _ r _ L_w14.out D_w14.out).mono fun e w' h => h.lp HI.out).mono ?_
            rintro e w15 ⟨rfl, hb15⟩
            have HBw15 := hid (HBw14.out.trans (hb15.mono HBw14.out.size))
            have L_w15 := hid (L_w14.out.keep hb15)
            have D_w15 := hid (D_w14.out.keep hb15)
            have O1_w15 := hid (O1_w14.out.keep hb15)
            have O2_w15 := hid (O2_w14.out.keep hb15)
            clear hb15
            go_wp2_with fail
            refine ((sIsRecurrent_u (m3 : Int) _ M (k3 : Int) _ r _ L_w15.out D_w15.out).mono fun e w' h => h.lp HI.out).mono ?_
            rintro e w16 ⟨rfl, hb16⟩
            have HBw16 := hid (HBw15.out.trans (hb16.mono HBw15.out.size))
            have L_w16 := hid (L_w15.out.keep hb16)
            have D_w16 := hid (D_w15.out.keep hb16)
            have O1_w16 := hid (O1_w15.out.keep hb16)
            have O2_w16 := hid (O2_w15.out.keep hb16)
            clear hb16
            go_wp2_with fail
            refine (sameInts_y _ _ o _ O1_w16.out O2_w16.out).mono ?_
            rintro e w17 ⟨rfl, hb17⟩
            have HBw17 := hid (HBw16.out.trans (hb17.mono HBw16.out.size))
            have L_w17 := hid (L_w16.out.keep hb17)
            have D_w17 := hid (D_w16.out.keep hb17)
            have O1_w17 := hid (O1_w16.out.keep hb17)
            have O2_w17 := hid (O2_w16.out.keep hb17)
            clear hb17
            go_wp2_with fail
            refine ((iIdentityPile_u (m3 : Int) _ M (k3 : Int) _ L_w17.out).mono fun e w' h => h.lp HE.out).mono ?_
            rintro e w18 ⟨a18, n18, c18, rfl, hp18, hb18⟩
            have HBw18 := hid (HBw17.out.trans (hb18.mono HBw17.out.size))
            have L_w18 := hid (L_w17.out.keep hb18)
            have D_w18 := hid (D_w17.out.keep hb18)
            have O1_w18 := hid (O1_w17.out.keep hb18)
            have E1_w18 := hid hp18
            clear hb18 hp18
            go_wp2_with fail
            refine ((sIdentityPile_u (m3 : Int) _ M (k3 : Int) _ L_w18.out).mono fun e w' h => h.lp HE.out).mono ?_
            rintro e w19 ⟨a19, n19, c19, rfl, hp19, hb19⟩
            have HBw19 := hid (HBw18.out.trans (hb19.mono HBw18.out.size))
            have L_w19 := hid (L_w18.out.keep hb19)
            have D_w19 := hid (D_w18.out.keep hb19)
            have O1_w19 := hid (O1_w18.out.keep hb19)
            have E1_w19 := hid (E1_w18.out.keep hb19)
            have E2_w19 := hid hp19
            clear hb19 hp19
            go_wp2_with fail
            refine ((iAddPiles_u (m3 : Int) _ M (k3 : Int) _ r _ o _ L_w19.out D_w19.out O1_w19.out).mono fun e w' h => h.lp HN.out).mono ?_
            rintro e w20 ⟨a20, n20, c20, rfl, hp20, hb20⟩
            have HBw20 := hid (HBw19.out.trans (hb20.mono HBw19.out.size))
            have L_w20 := hid (L_w19.out.keep hb20)
            have D_w20 := hid (D_w19.out.keep hb20)
            have O1_w20 := hid (O1_w19.out.keep hb20)
            have E1_w20 := hid (E1_w19.out.keep hb20)
            have E2_w20 := hid (E2_w19.out.keep hb20)
            have N_w20 := hid hp20
            clear hb20 hp20
            go_wp2_with fail
            refine ((iAddPiles_u (m3 : Int) _ M (k3 : Int) _ r _ E _ L_w20.out D_w20.out E1_w20.out).mono fun e w' h => h.lp HS.out).mono ?_
            rintro e w21 ⟨a21, n21, c21, rfl, hp21, hb21⟩
            have HBw21 := hid (HBw20.out.trans (hb21.mono HBw20.out.size))
            have L_w21 := hid (L_w20.out.keep hb21)
            have D_w21 := hid (D_w20.out.keep hb21)
            have O1_w21 := hid (O1_w20.out.keep hb21)
            have E1_w21 := hid (E1_w20.out.keep hb21)
            have E2_w21 := hid (E2_w20.out.keep hb21)
            have N_w21 := hid (N_w20.out.keep hb21)
            have S_w21 := hid hp21
            clear hb21 hp21
            go_wp2_with fail
            refine (sameInts_y _ _ E _ E1_w21.out E2_w21.out).mono ?_
            rintro e w22 ⟨rfl, hb22⟩
            have HBw22 := hid (HBw21.out.trans (hb22.mono HBw21.out.size))
            have L_w22 := hid (L_w21.out.keep hb22)
            have D_w22 := hid (D_w21.out.keep hb22)
            have E1_w22 := hid (E1_w21.out.keep hb22)
            have E2_w22 := hid (E2_w21.out.keep hb22)
            have N_w22 := hid (N_w21.out.keep hb22)
            have S_w22 := hid (S_w21.out.keep hb22)
            clear hb22
            go_wp2_with fail
            refine (sameInts_y _ _ E _ N_w22.out E2_w22.out).mono ?_
            rintro e w23 ⟨rfl, hb23⟩
            have HBw23 := hid (HBw22.out.trans (hb23.mono HBw22.out.size))
            have L_w23 := hid (L_w22.out.keep hb23)
            have D_w23 := hid (D_w22.out.keep hb23)
            have E1_w23 := hid (E1_w22.out.keep hb23)
            have E2_w23 := hid (E2_w22.out.keep hb23)
            have N_w23 := hid (N_w22.out.keep hb23)
            have S_w23 := hid (S_w22.out.keep hb23)
            clear hb23
            go_wp2_with fail
            refine (sameInts_y _ _ r _ S_w23.out D_w23.out).mono ?_
            rintro e w24 ⟨rfl, hb24⟩
            have HBw24 := hid (HBw23.out.trans (hb24.mono HBw23.out.size))
            have L_w24 := hid (L_w23.out.keep hb24)
            have D_w24 := hid (D_w23.out.keep hb24)
            have E1_w24 := hid (E1_w23.out.keep hb24)
            have E2_w24 := hid (E2_w23.out.keep hb24)
            have N_w24 := hid (N_w23.out.keep hb24)
            have S_w24 := hid (S_w23.out.keep hb24)
            clear hb24
            go_wp2_with fail
            refine (sameInts_b _ _ r E _ D_w24.out E2_w24.out).mono ?_
            rintro e w25 ⟨rfl, hb25⟩
            have HBw25 := hid (HBw24.out.trans (hb25.mono HBw24.out.size))
            have L_w25 := hid (L_w24.out.keep hb25)
            have D_w25 := hid (D_w24.out.keep hb25)
            have E1_w25 := hid (E1_w24.out.keep hb25)
            have E2_w25 := hid (E2_w24.out.keep hb25)
            have N_w25 := hid (N_w24.out.keep hb25)
            have S_w25 := hid (S_w24.out.keep hb25)
            clear hb25
            rw [HB3.out]
            cases B3
            · have hj3 : ¬ (j < 1) := by omega
              go_wp2
              go_ret
              exact ⟨rfl, HBw25.out⟩
            · have hj3 : ¬ (j < 1) := by omega
              go_wp2
              go_ret
              exact ⟨rfl, HBw25.out⟩
      · have HCM := hid (hcm rfl)
        clear hcm
        go_wp2_with fail
        refine (sameInts_y _ _ Z _ X_w8.out S_w8.out).mono ?_
        rintro e w9 ⟨rfl, hb9⟩
        have HBw9 := hid (HBw8.out.trans (hb9.mono HBw8.out.size))
        have R1_w9 := hid (R1_w8.out.keep hb9)
        have L_w9 := hid (L_w8.out.keep hb9)
        have A_w9 := hid (A_w8.out.keep hb9)
        have B_w9 := hid (B_w8.out.keep hb9)
        have X_w9 := hid (X_w8.out.keep hb9)
        have S_w9 := hid (S_w8.out.keep hb9)
        clear hb9
        go_wp2_with fail
        refine ((iAddPiles_u m2 _ K s _ b _ a _ L_w9.out B_w9.out A_w9.out).mono fun e w' h => h.lp HCM.out).mono ?_
        rintro e w10 ⟨a10, n10, c10, rfl, hp10, hb10⟩
        have HBw10 := hid (HBw9.out.trans (hb10.mono HBw9.out.size))
        have R1_w10 := hid (R1_w9.out.keep hb10)
        have L_w10 := hid (L_w9.out.keep hb10)
        have A_w10 := hid (A_w9.out.keep hb10)
        have B_w10 := hid (B_w9.out.keep hb10)
        have X_w10 := hid (X_w9.out.keep hb10)
        have S_w10 := hid (S_w9.out.keep hb10)
        have Y_w10 := hid hp10
        clear hb10 hp10
        go_wp2_with fail
        refine (sameInts_y _ _ Z _ Y_w10.out S_w10.out).mono ?_
        rintro e w11 ⟨rfl, hb11⟩
        have HBw11 := hid (HBw10.out.trans (hb11.mono HBw10.out.size))
        have R1_w11 := hid (R1_w10.out.keep hb11)
        have L_w11 := hid (L_w10.out.keep hb11)
        have A_w11 := hid (A_w10.out.keep hb11)
        have B_w11 := hid (B_w10.out.keep hb11)
        have X_w11 := hid (X_w10.out.keep hb11)
        have S_w11 := hid (S_w10.out.keep hb11)
        have Y_w11 := hid (Y_w10.out.keep hb11)
        clear hb11
        as_aux_lemma =>
          go_wp2_with fail
          refine (DrawOppositePile_c _ x1 _ R1_w11.out).mono ?_
          rintro e w12 ⟨g, vM, M, z, vr, r, rfl, hg1, hg9, hml, hrl, hM, hR, hb12⟩
          have HBw12 := hid (HBw11.out.trans (hb12.mono HBw11.out.size))
          have L_w12 := hid hM
          have D_w12 := hid hR
          obtain ⟨am, cm, rfl⟩ := hM.form
          obtain ⟨ar, nr, cr, rfl⟩ := hR.form3
          clear hb12 hM hR
          cases t3 : piRB g M z r
          · obtain ⟨ho, hq, hi⟩ := opp_no t3
            have HO := hid ho
            have HQ := hid hq
            obtain ⟨i1, i2, hii⟩ : ∃ i1 i2, isrB g M z r = (i1, i2) := ⟨_, _, rfl⟩
            rw [hii] at hi
            have HI := hid hii
            have hi : (i2 && i1) = false := hi
            clear t3 ho hq hii
            go_wp2_with fail
            refine ((iOppositePile_u g _ M z _ r _ L_w12.out D_w12.out).mono fun e w' h => h.lp HO.out).mono ?_
            rintro e w13 ⟨a13, n13, c13, rfl, hp13, hb13⟩
            have HBw13 := hid (HBw12.out.trans (hb13.mono HBw12.out.size))
            have L_w13 := hid (L_w12.out.keep hb13)
            have D_w13 := hid (D_w12.out.keep hb13)
            have O1_w13 := hid hp13
            clear hb13 hp13
            go_wp2_with fail
            refine ((sOppositePile_u g _ M z _ r _ L_w13.out D_w13.out).mono fun e w' h => h.lp HO.out).mono ?_
            rintro e w14 ⟨a14, n14, c14, rfl, hp14, hb14⟩
            have HBw14 := hid (HBw13.out.trans (hb14.mono HBw13.out.size))
            have L_w14 := hid (L_w13.out.keep hb14)
            have D_w14 := hid (D_w13.out.keep hb14)
            have O1_w14 := hid (O1_w13.out.keep hb14)
            have O2_w14 := hid hp14
            clear hb14 hp14
            go_wp2_with fail
            refine ((iOrderOfPile_u g _ M z _ r _ L_w14.out D_w14.out).mono fun e w' h => h.lp HQ.out).mono ?_
            rintro e w15 ⟨rfl, hb15⟩
            have HBw15 := hid (HBw14.out.trans (hb15.mono HBw14.out.size))
            have L_w15 := hid (L_w14.out.keep hb15)
            have D_w15 := hid (D_w14.out.keep hb15)
            have O1_w15 := hid (O1_w14.out.keep hb15)
            have O2_w15 := hid (O2_w14.out.keep hb15)
            clear hb15
            go_wp2_with fail
            refine ((sOrderOfPile_u g _ M z _ r _ L_w15.out D_w15.out).mono fun e w' h => h.lp HQ.out).mono ?_
            rintro e w16 ⟨rfl, hb16⟩
            have HBw16 := hid (HBw15.out.trans (hb16.mono HBw15.out.size))
            have L_w16 := hid (L_w15.out.keep hb16)
            have D_w16 := hid (D_w15.out.keep hb16)
            have O1_w16 := hid (O1_w15.out.keep hb16)
            have O2_w16 := hid (O2_w15.out.keep hb16)
            clear hb16
            go_wp2_with fail
            refine ((iIsRecurrent_u g _ M z _ r _ L_w16.out D_w16.out).mono fun e w' h => h.lp HI.out).mono ?_
            rintro e w17 ⟨rfl, hb17⟩
            have HBw17 := hid (HBw16.out.trans (hb17.mono HBw16.out.size))
            have L_w17 := hid (L_w16.out.keep hb17)
            have D_w17 := hid (D_w16.out.keep hb17)
            have O1_w17 := hid (O1_w16.out.keep hb17)
            have O2_w17 := hid (O2_w16.out.keep hb17)
            clear hb17
            go_wp2_with fail
            refine ((sIsRecurrent_u g _ M z _ r _ L_w17.out D_w17.out).mono fun e w' h => h.lp HI.out).mono ?_
            rintro e w18 ⟨rfl, hb18⟩
            have HBw18 := hid (HBw17.out.trans (hb18.mono HBw17.out.size))
            have L_w18 := hid (L_w17.out.keep hb18)
            have D_w18 := hid (D_w17.out.keep hb18)
            have O1_w18 := hid (O1_w17.out.keep hb18)
            have O2_w18 := hid (O2_w17.out.keep hb18)
            clear hb18
            cases i1 <;> cases i2
            all_goals try (exfalso; simp at hi; done)
            all_goals
              go_wp2_with fail
              refine (sameInts_y _ _ [] _ O1_w18.out O2_w18.out).mono ?_
              rintro e w19 ⟨rfl, hb19⟩
              have HBw19 := hid (HBw18.out.trans (hb19.mono HBw18.out.size))
              have L_w19 := hid (L_w18.out.keep hb19)
              have D_w19 := hid (D_w18.out.keep hb19)
              have O1_w19 := hid (O1_w18.out.keep hb19)
              have O2_w19 := hid (O2_w18.out.keep hb19)
              clear hb19
              go_wp2
              go_ret
              exact ⟨rfl, HBw19.out⟩
          · obtain ⟨m3, k3, hm3, hk3, _⟩ := piRB_parts t3
            subst hm3
            subst hk3
            obtain ⟨o, E, j, ho, hq, hi, he, hn, hs, hj1, hj⟩ := opp_yes t3
            have HO := hid ho
            have HQ := hid hq
            have HI := hid hi
            have HE := hid he
            have HN := hid hn
            have HS := hid hs
            obtain ⟨B3, hB3⟩ : ∃ B3, decide (r = E) = B3 := ⟨_, rfl⟩
            rw [hB3] at hj
            have HB3 := hid hB3
            have hj2 : (j == 1) = B3 := by rw [← hj, Bool.beq_eq_decide_eq]
            clear t3 ho hq hi he hn hs hB3 hj
            go_wp2_with fail
            refine ((iOppositePile_u (m3 : Int) _ M (k3 : Int) _ r _ L_w12.out D_w12.out).mono fun e w' h => h.lp HO.out).mono ?_
            rintro e w13 ⟨a13, n13, c13, rfl, hp13, hb13⟩
            have HBw13 := hid (HBw12.out.trans (hb13.mono HBw12.out.size))
            have L_w13 := hid (L_w12.out.keep hb13)
            have D_w13 := hid (D_w12.out.keep hb13)
            have O1_w13 := hid hp13
            clear hb13 hp13
            go_wp2_with fail
            refine ((sOppositePile_u (m3 : Int) _ M (k3 : Int) _ r _ L_w13.out D_w13.out).mono fun e w' h => h.lp HO.out).mono ?_
            rintro e w14 ⟨a14, n14, c14, rfl, hp14, hb14⟩
            have HBw14 := hid (HBw13.out.trans (hb14.mono HBw13.out.size))
            have L_w14 := hid (L_w13.out.keep hb14)
            have D_w14 := hid (D_w13.out.keep hb14)
            have O1_w14 := hid (O1_w13.out.keep hb14)
            have O2_w14 := hid hp14
            clear hb14 hp14
            go_wp2_with fail
            refine ((iOrderOfPile_u (m3 : Int) _ M (k3 : Int) _ r _ L_w14.out D_w14.out).mono fun e w' h => h.lp HQ.out).mono ?_
            rintro e w15 ⟨rfl, hb15⟩
            have HBw15 := hid (HBw14.out.trans (hb15.mono HBw14.out.size))
            have L_w15 := hid (L_w14.out.keep hb15)
            have D_w15 := hid (D_w14.out.keep hb15)
            have O1_w15 := hid (O1_w14.out.keep hb15)
            have O2_w15 := hid (O2_w14.out.keep hb15)
            clear hb15
            go_wp2_with fail
            refine ((sOrderOfPile_u (m3 : Int) _ M (k3 : Int) _ r _ L_w15.out D_w15.out).mono fun e w' h => h.lp HQ.out).mono ?_
            rintro e w16 ⟨rfl, hb16⟩
            have HBw16 := hid (HBw15.out.trans (hb16.mono HBw15.out.size))
            have L_w16 := hid (L_w15.out.keep hb16)
            have D_w16 := hid (D_w15.out.keep hb16)
            have O1_w16 := hid (O1_w15.out.keep hb16)
            have O2_w16 := hid (O2_w15.out.keep hb16)
            clear hb16
            go_wp2_with fail
            refine ((iIsRecurrent_u (m3 : Int) _ M (k3 : Int) _ r _ L_w16.out D_w16.out).mono fun e w' h => h.lp HI.out).mono ?_
            rintro e w17 ⟨rfl, hb17⟩
            have HBw17 := hid (HBw16.out.trans (hb17.mono HBw16.out.size))
            have L_w17 := hid (L_w16.out.keep hb17)
            have D_w17 := hid (D_w16.out.keep hb17)
            have O1_w17 := hid (O1_w16.out.keep hb17)
            have O2_w17 := hid (O2_w16.out.keep hb17)
            clear hb17
            go_wp2_with fail
            refine ((sIsRecurrent_u (m3 : Int) _ M (k3 : Int) _ r _ L_w17.out D_w17.out).mono fun e w' h => h.lp HI.out).mono ?_
            rintro e w18 ⟨rfl, hb18⟩
            have HBw18 := hid (HBw17.out.trans (hb18.mono HBw17.out.size))
            have L_w18 := hid (L_w17.out.keep hb18)
            have D_w18 := hid (D_w17.out.keep hb18)
            have O1_w18 := hid (O1_w17.out.keep hb18)
            have O2_w18 := hid (O2_w17.out.keep hb18)
            clear hb18
            go_wp2_with fail
            refine (sameInts_y _ _ o _ O1_w18.out O2_w18.out).mono ?_
            rintro e w19 ⟨rfl, hb19⟩
            have HBw19 := hid (HBw18.out.trans (hb19.mono HBw18.out.size))
            have L_w19 := hid (L_w18.out.keep hb19)
            have D_w19 := hid (D_w18.out.keep hb19)
            have O1_w19 := hid (O1_w18.out.keep hb19)
            have O2_w19 := hid (O2_w18.out.keep hb19)
            clear hb19
            go_wp2_with fail
            refine ((iIdentityPile_u (m3 : Int) _ M (k3 : Int) _ L_w19.out).mono fun e w' h => h.lp HE.out).mono ?_
            rintro e w20 ⟨a20, n20, c20, rfl, hp20, hb20⟩
            have HBw20 := hid (HBw19.out.trans (hb20.mono HBw19.out.size))
            have L_w20 := hid (L_w19.out.keep hb20)
            have D_w20 := hid (D_w19.out.keep hb20)
            have O1_w20 := hid (O1_w19.out.keep hb20)
            have E1_w20 := hid hp20
            clear hb20 hp20
            go_wp2_with fail
            refine ((sIdentityPile_u (m3 : Int) _ M (k3 : Int) _ L_w20.out).mono fun e w' h => h.lp HE.out).mono ?_
            rintro e w21 ⟨a21, n21, c21, rfl, hp21, hb21⟩
            have HBw21 := hid (HBw20.out.trans (hb21.mono HBw20.out.size))
            have L_w21 := hid (L_w20.out.keep hb21)
            have D_w21 := hid (D_w20.out.keep hb21)
            have O1_w21 := hid (O1_w20.out.keep hb21)
            have E1_w21 := hid (E1_w20.out.keep hb21)
            have E2_w21 := hid hp21
            clear hb21 hp21
            go_wp2_with fail
            refine ((iAddPiles_u (m3 : Int) _ M (k3 : Int) _ r _ o _ L_w21.out D_w21.out O1_w21.out).mono fun e w' h => h.lp HN.out).mono ?_
            rintro e w22 ⟨a22, n22, c22, rfl, hp22, hb22⟩
            have HBw22 := hid (HBw21.out.trans (hb22.mono HBw21.out.size))
            have L_w22 := hid (L_w21.out.keep hb22)
            have D_w22 := hid (D_w21.out.keep hb22)
            have O1_w22 := hid (O1_w21.out.keep hb22)
            have E1_w22 := hid (E1_w21.out.keep hb22)
            have E2_w22 := hid (E2_w21.out.keep hb22)
            have N_w22 := hid hp22
            clear hb22 hp22
            go_wp2_with fail
            refine ((iAddPiles_u (m3 : Int) _ M (k3 : Int) _ r _ E _ L_w22.out D_w22.out E1_w22.out).mono fun e w' h => h.lp HS.out).mono ?_
            rintro e w23 ⟨a23, n23, c23, rfl, hp23, hb23⟩
            have HBw23 := hid (HBw22.out.trans (hb23.mono HBw22.out.size))
            have L_w23 := hid (L_w22.out.keep hb23)
            have D_w23 := hid (D_w22.out.keep hb23)
            have O1_w23 := hid (O1_w22.out.keep hb23)
            have E1_w23 := hid (E1_w22.out.keep hb23)
            have E2_w23 := hid (E2_w22.out.keep hb23)
            have N_w23 := hid (N_w22.out.keep hb23)
            have S_w23 := hid hp23
            clear hb23 hp23
            go_wp2_with fail
            refine (sameInts_y _ _ E _ E1_w23.out E2_w23.out).mono ?_
            rintro e w24 ⟨rfl, hb24⟩
            have HBw24 := hid (HBw23.out.trans (hb24.mono HBw23.out.size))
            have L_w24 := hid (L_w23.out.keep hb24)
            have D_w24 := hid (D_w23.out.keep hb24)
            have E1_w24 := hid (E1_w23.out.keep hb24)
            have E2_w24 := hid (E2_w23.out.keep hb24)
            have N_w24 := hid (N_w23.out.keep hb24)
            have S_w24 := hid (S_w23.out.keep hb24)
            clear hb24
            go_wp2_with fail
            refine (sameInts_y _ _ E _ N_w24.out E2_w24.out).mono ?_
            rintro e w25 ⟨rfl, hb25⟩
            have HBw25 := hid (HBw24.out.trans (hb25.mono HBw24.out.size))
            have L_w25 := hid (L_w24.out.keep hb25)
            have D_w25 := hid (D_w24.out.keep hb25)
            have E1_w25 := hid (E1_w24.out.keep hb25)
            have E2_w25 := hid (E2_w24.out.keep hb25)
            have N_w25 := hid (N_w24.out.keep hb25)
            have S_w25 := hid (S_w24.out.keep hb25)
            clear hb25
            go_wp2_with fail
            refine (sameInts_y _ _ r _ S_w25.out D_w25.out).mono ?_
            rintro e w26 ⟨rfl, hb26⟩
            have HBw26 := hid (HBw25.out.trans (hb26.mono HBw25.out.size))
            have L_w26 := hid (L_w25.out.keep hb26)
            have D_w26 := hid (D_w25.out.keep hb26)
            have E1_w26 := hid (E1_w25.out.keep hb26)
            have E2_w26 := hid (E2_w25.out.keep hb26)
            have N_w26 := hid (N_w25.out.keep hb26)
            have S_w26 := hid (S_w25.out.keep hb26)
            clear hb26
            go_wp2_with fail
            refine (sameInts_b _ _ r E _ D_w26.out E2_w26.out).mono ?_
            rintro e w27 ⟨rfl, hb27⟩
            have HBw27 := hid (HBw26.out.trans (hb27.mono HBw26.out.size))
            have L_w27 := hid (L_w26.out.keep hb27)
            have D_w27 := hid (D_w26.out.keep hb27)
            have E1_w27 := hid (E1_w26.out.keep hb27)
            have E2_w27 := hid (E2_w26.out.keep hb27)
            have N_w27 := hid (N_w26.out.keep hb27)
            have S_w27 := hid (S_w26.out.keep hb27)
            clear hb27
            rw [HB3.out]
            cases B3
            · have hj3 : ¬ (j < 1) := by omega
              go_wp2
              go_ret
              exact ⟨rfl, HBw27.out⟩
            · have hj3 : ¬ (j < 1) := by omega
              go_wp2
              go_ret
              exact ⟨rfl, HBw27.out⟩
  · obtain ⟨m, k, hm, hk, _⟩ := piAB_parts t
    subst hm
    subst hk
    obtain ⟨P, TT, ht, hi1, hi2, hk0, hkl, hl5, htb, hs⟩ := top_facts t
    have HT := hid ht
    have HI1 := hid hi1
    obtain ⟨B, hB⟩ : ∃ B, decide (P = d) = B := ⟨_, rfl⟩
    rw [hB] at hi2 hs
    have HI2 := hid hi2
    have HBQ := hid hB
    obtain ⟨S, hS⟩ : ∃ S, TT.sum = S := ⟨_, rfl⟩
    have hsb := sumP_bound htb
    have HTB := hid (And.intro hl5 htb)
    rw [hS] at hs hsb
    have HSS := hid hS
    have HK0 := hid hk0
    have HKL := hid hkl
    have hs2 : (S == 0) = B := by rw [hs, Bool.beq_eq_decide_eq]
    clear t ht hi1 hi2 hB hS hk0 htb hs hkl hsb
    go_wp2_with fail
    refine ((iToppleAll_u (m : Int) _ L (k : Int) _ d _ L_w1.out D_w1.out).mono fun e w' h => h.lp HT.out).mono ?_
    rintro e w2 ⟨a2, n2, c2, a2x, n2x, c2x, rfl, hp2, hq2, hb2⟩
    have HBw2 := hid (HBw1.out.trans (hb2.mono HBw1.out.size))
    have R1_w2 := hid (R1_w1.out.keep hb2)
    have L_w2 := hid (L_w1.out.keep hb2)
    have D_w2 := hid (D_w1.out.keep hb2)
    have P1_w2 := hid hp2
    have T1_w2 := hid hq2
    clear hb2 hp2 hq2
    go_wp2_with fail
    refine ((sToppleAll_u (m : Int) _ L (k : Int) _ d _ L_w2.out D_w2.out).mono fun e w' h => h.lp HT.out).mono ?_
    rintro e w3 ⟨a3, n3, c3, a3x, n3x, c3x, rfl, hp3, hq3, hb3⟩
    have HBw3 := hid (HBw2.out.trans (hb3.mono HBw2.out.size))
    have R1_w3 := hid (R1_w2.out.keep hb3)
    have L_w3 := hid (L_w2.out.keep hb3)
    have D_w3 := hid (D_w2.out.keep hb3)
    have P1_w3 := hid (P1_w2.out.keep hb3)
    have T1_w3 := hid (T1_w2.out.keep hb3)
    have P2_w3 := hid hp3
    have T2_w3 := hid hq3
    clear hb3 hp3 hq3
    go_wp2_with fail
    refine (sameInts_y _ _ P _ P1_w3.out P2_w3.out).mono ?_
    rintro e w4 ⟨rfl, hb4⟩
    have HBw4 := hid (HBw3.out.trans (hb4.mono HBw3.out.size))
    have R1_w4 := hid (R1_w3.out.keep hb4)
    have L_w4 := hid (L_w3.out.keep hb4)
    have D_w4 := hid (D_w3.out.keep hb4)
    have P1_w4 := hid (P1_w3.out.keep hb4)
    have T1_w4 := hid (T1_w3.out.keep hb4)
    have P2_w4 := hid (P2_w3.out.keep hb4)
    have T2_w4 := hid (T2_w3.out.keep hb4)
    clear hb4
    go_wp2_with fail
    refine (sameInts_y _ _ TT _ T1_w4.out T2_w4.out).mono ?_
    rintro e w5 ⟨rfl, hb5⟩
    have HBw5 := hid (HBw4.out.trans (hb5.mono HBw4.out.size))
    have R1_w5 := hid (R1_w4.out.keep hb5)
    have L_w5 := hid (L_w4.out.keep hb5)
    have D_w5 := hid (D_w4.out.keep hb5)
    have P1_w5 := hid (P1_w4.out.keep hb5)
    have T1_w5 := hid (T1_w4.out.keep hb5)
    have P2_w5 := hid (P2_w4.out.keep hb5)
    have T2_w5 := hid (T2_w4.out.keep hb5)
    clear hb5
    go_wp2_with fail
    refine ((iIsStable_u (m : Int) _ L (k : Int) _ P _ L_w5.out P1_w5.out).mono fun e w' h => h.lp HI1.out).mono ?_
    rintro e w6 ⟨rfl, hb6⟩
    have HBw6 := hid (HBw5.out.trans (hb6.mono HBw5.out.size))
    have R1_w6 := hid (R1_w5.out.keep hb6)
    have L_w6 := hid (L_w5.out.keep hb6)
    have D_w6 := hid (D_w5.out.keep hb6)
    have P1_w6 := hid (P1_w5.out.keep hb6)
    have T1_w6 := hid (T1_w5.out.keep hb6)
    have P2_w6 := hid (P2_w5.out.keep hb6)
    have T2_w6 := hid (T2_w5.out.keep hb6)
    clear hb6
    go_wp2_with fail
    refine ((iIsStable_u (m : Int) _ L (k : Int) _ d _ L_w6.out D_w6.out).mono fun e w' h => h.lp HI2.out).mono ?_
    rintro e w7 ⟨rfl, hb7⟩
    have HBw7 := hid (HBw6.out.trans (hb7.mono HBw6.out.size))
    have R1_w7 := hid (R1_w6.out.keep hb7)
    have L_w7 := hid (L_w6.out.keep hb7)
    have D_w7 := hid (D_w6.out.keep hb7)
    have P1_w7 := hid (P1_w6.out.keep hb7)
    have T1_w7 := hid (T1_w6.out.keep hb7)
    have P2_w7 := hid (P2_w6.out.keep hb7)
    have T2_w7 := hid (T2_w6.out.keep hb7)
    clear hb7
    go_wp2_with fail
    refine (sameInts_b _ _ P d _ P2_w7.out D_w7.out).mono ?_
    rintro e w8 ⟨rfl, hb8⟩
    have HBw8 := hid (HBw7.out.trans (hb8.mono HBw7.out.size))
    have R1_w8 := hid (R1_w7.out.keep hb8)
    have L_w8 := hid (L_w7.out.keep hb8)
    have D_w8 := hid (D_w7.out.keep hb8)
    have P2_w8 := hid (P2_w7.out.keep hb8)
    have T2_w8 := hid (T2_w7.out.keep hb8)
    clear hb8
    rw [HBQ.out]
    obtain ⟨_, _, he9, hc8, hc9, hcc⟩ := T2_w8.out
    simp only [Value.slice.injEq] at he9
    obtain ⟨rfl, rfl, rfl⟩ := he9
    obtain ⟨gg, og, x, rfl, e1, HDx, HXx⟩ := ints_at hcc HKL.out
    have hx0 : x = 0 := by rw [← HXx.out]; exact HK0.out
    subst hx0
    have hklz : (k : Int) < (TT.length : Int) := by have := HKL.out; omega
    clear hcc HDx HXx
    cases B
    · go_wp2_with fail
      refine (pSumB_c _ TT _ T2_w8.out HTB.out).mono ?_
      rintro e w' ⟨rfl, rfl⟩
      rw [HSS.out]
      clear e1
      as_aux_lemma =>
        go_wp2_with fail
        refine (DrawAddPiles_c _ x1 _ R1_w8.out).mono ?_
        rintro e w9 ⟨m2, vK, K, s, va, a, vb, b, rfl, hm1, hm9, hkl, hal, hbl, hK, hA, hBB, hb9⟩
        have HBw9 := hid (HBw8.out.trans (hb9.mono HBw8.out.size))
        have R1_w9 := hid (R1_w8.out.keep hb9)
        have L_w9 := hid hK
        have A_w9 := hid hA
        have B_w9 := hid hBB
        obtain ⟨ak, ck, rfl⟩ := hK.form
        obtain ⟨aa, na, ca, rfl⟩ := hA.form3
        obtain ⟨ab, nb, cb, rfl⟩ := hBB.form3
        obtain ⟨Z, bz, hz2⟩ : ∃ Z bz, addpB m2 K s a b = (Z, bz) := ⟨_, _, rfl⟩
        have hcm := fun h => addp_comm (n := m2) (L := K) (q := s) (c := a) (d := b) h
        rw [hz2] at hcm
        have HZ2 := hid hz2
        clear hz2
        clear hb9 hK hA hBB
        go_wp2_with fail
        refine ((iAddPiles_u m2 _ K s _ a _ b _ L_w9.out A_w9.out B_w9.out).mono fun e w' h => h.lp HZ2.out).mono ?_
        rintro e w10 ⟨a10, n10, c10, rfl, hp10, hb10⟩
        have HBw10 := hid (HBw9.out.trans (hb10.mono HBw9.out.size))
        have R1_w10 := hid (R1_w9.out.keep hb10)
        have L_w10 := hid (L_w9.out.keep hb10)
        have A_w10 := hid (A_w9.out.keep hb10)
        have B_w10 := hid (B_w9.out.keep hb10)
        have X_w10 := hid hp10
        clear hb10 hp10
        go_wp2_with fail
        refine ((sAddPiles_u m2 _ K s _ a _ b _ L_w10.out A_w10.out B_w10.out).mono fun e w' h => h.lp HZ2.out).mono ?_
        rintro e w11 ⟨a11, n11, c11, rfl, hp11, hb11⟩
        have HBw11 := hid (HBw10.out.trans (hb11.mono HBw10.out.size))
        have R1_w11 := hid (R1_w10.out.keep hb11)
        have L_w11 := hid (L_w10.out.keep hb11)
        have A_w11 := hid (A_w10.out.keep hb11)
        have B_w11 := hid (B_w10.out.keep hb11)
        have X_w11 := hid (X_w10.out.keep hb11)
        have S_w11 := hid hp11
        clear hb11 hp11
        cases bz
        · clear hcm
          go_wp2_with fail
          refine (sameInts_y _ _ Z _ X_w11.out S_w11.out).mono ?_
          rintro e w12 ⟨rfl, hb12⟩
          have HBw12 := hid (HBw11.out.trans (hb12.mono HBw11.out.size))
          have R1_w12 := hid (R1_w11.out.keep hb12)
          have L_w12 := hid (L_w11.out.keep hb12)
          have A_w12 := hid (A_w11.out.keep hb12)
          have B_w12 := hid (B_w11.out.keep hb12)
          have X_w12 := hid (X_w11.out.keep hb12)
          have S_w12 := hid (S_w11.out.keep hb12)
          clear hb12
          as_aux_lemma =>
            go_wp2_with fail
            refine (DrawOppositePile_c _ x1 _ R1_w12.out).mono ?_
            rintro e w13 ⟨g, vM, M, z, vr, r, rfl, hg1, hg9, hml, hrl, hM, hR, hb13⟩
            have HBw13 := hid (HBw12.out.trans (hb13.mono HBw12.out.size))
            have L_w13 := hid hM
            have D_w13 := hid hR
            obtain ⟨am, cm, rfl⟩ := hM.form
            obtain ⟨ar, nr, cr, rfl⟩ := hR.form3
            clear hb13 hM hR
            cases t3 : piRB g M z r
            · obtain ⟨ho, hq, hi⟩ := opp_no t3
              have HO := hid ho
              have HQ := hid hq
              obtain ⟨i1, i2, hii⟩ : ∃ i1 i2, isrB g M z r = (i1, i2) := ⟨_, _, rfl⟩
              rw [hii] at hi
              have HI := hid hii
              have hi : (i2 && i1) = false := hi
              clear t3 ho hq hii
              go_wp2_with fail
              refine ((iOppositePile_u g _ M z _ r _ L_w13.out D_w13.out).mono fun e w' h => h.lp HO.out).mono ?_
              rintro e w14 ⟨a14, n14, c14, rfl, hp14, hb14⟩
              have HBw14 := hid (HBw13.out.trans (hb14.mono HBw13.out.size))
              have L_w14 := hid (L_w13.out.keep hb14)
              have D_w14 := hid (D_w13.out.keep hb14)
              have O1_w14 := hid hp14
              clear hb14 hp14
              go_wp2_with fail
              refine ((sOppositePile_u g _ M z _ r _ L_w14.out D_w14.out).mono fun e w' h => h.lp HO.out).mono ?_
              rintro e w15 ⟨a15, n15, c15, rfl, hp15, hb15⟩
              have HBw15 := hid (HBw14.out.trans (hb15.mono HBw14.out.size))
              have L_w15 := hid (L_w14.out.keep hb15)
              have D_w15 := hid (D_w14.out.keep hb15)
              have O1_w15 := hid (O1_w14.out.keep hb15)
              have O2_w15 := hid hp15
              clear hb15 hp15
              go_wp2_with fail
              refine ((iOrderOfPile_u g _ M z _ r _ L_w15.out D_w15.out).mono fun e w' h => h.lp HQ.out).mono ?_
              rintro e w16 ⟨rfl, hb16⟩
              have HBw16 := hid (HBw15.out.trans (hb16.mono HBw15.out.size))
              have L_w16 := hid (L_w15.out.keep hb16)
              have D_w16 := hid (D_w15.out.keep hb16)
              have O1_w16 := hid (O1_w15.out.keep hb16)
              have O2_w16 := hid (O2_w15.out.keep hb16)
              clear hb16
              go_wp2_with fail
              refine ((sOrderOfPile_u g _ M z _ r _ L_w16.out D_w16.out).mono fun e w' h => h.lp HQ.out).mono ?_
              rintro e w17 ⟨rfl, hb17⟩
              have HBw17 := hid (HBw16.out.trans (hb17.mono HBw16.out.size))
              have L_w17 := hid (L_w16.out.keep hb17)
              have D_w17 := hid (D_w16.out.keep hb17)
              have O1_w17 := hid (O1_w16.out.keep hb17)
              have O2_w17 := hid (O2_w16.out.keep hb17)
              clear hb17
              go_wp2_with fail
              refine ((iIsRecurrent_u g _ M z _ r _ L_w17.out D_w17.out).mono fun e w' h => h.lp HI.out).mono ?_
              rintro e w18 ⟨rfl, hb18⟩
              have HBw18 := hid (HBw17.out.trans (hb18.mono HBw17.out.size))
              have L_w18 := hid (L_w17.out.keep hb18)
              have D_w18 := hid (D_w17.out.keep hb18)
              have O1_w18 := hid (O1_w17.out.keep hb18)
              have O2_w18 := hid (O2_w17.out.keep hb18)
              clear hb18
              go_wp2_with fail
              refine ((sIsRecurrent_u g _ M z _ r _ L_w18.out D_w18.out).mono fun e w' h => h.lp HI.out).mono ?_
              rintro e w19 ⟨rfl, hb19⟩
              have HBw19 := hid (HBw18.out.trans (hb19.mono HBw18.out.size))
              have L_w19 := hid (L_w18.out.keep hb19)
              have D_w19 := hid (D_w18.out.keep hb19)
              have O1_w19 := hid (O1_w18.out.keep hb19)
              have O2_w19 := hid (O2_w18.out.keep hb19)
              clear hb19
              cases i1 <;> cases i2
              all_goals try (exfalso; simp at hi; done)
              all_goals
                go_wp2_with fail
                refine (sameInts_y _ _ [] _ O1_w19.out O2_w19.out).mono ?_
                rintro e w20 ⟨rfl, hb20⟩
                have HBw20 := hid (HBw19.out.trans (hb20.mono HBw19.out.size))
                have L_w20 := hid (L_w19.out.keep hb20)
                have D_w20 := hid (D_w19.out.keep hb20)
                have O1_w20 := hid (O1_w19.out.keep hb20)
                have O2_w20 := hid (O2_w19.out.keep hb20)
                clear hb20
                go_wp2
                go_ret
                exact ⟨rfl, HBw20.out⟩
            · obtain ⟨m3, k3, hm3, hk3, _⟩ := piRB_parts t3
              subst hm3
              subst hk3
              obtain ⟨o, E, j, ho, hq, hi, he, hn, hs, hj1, hj⟩ := opp_yes t3
              have HO := hid ho
              have HQ := hid hq
              have HI := hid hi
              have HE := hid he
              have HN := hid hn
              have HS := hid hs
              obtain ⟨B3, hB3⟩ : ∃ B3, decide (r = E) = B3 := ⟨_, rfl⟩
              rw [hB3] at hj
              have HB3 := hid hB3
              have hj2 : (j == 1) = B3 := by rw [← hj, Bool.beq_eq_decide_eq]
              clear t3 ho hq hi he hn hs hB3 hj
              go_wp2_with fail
              refine ((iOppositePile_u (m3 : Int) _ M (k3 : Int) _ r _ L_w13.out D_w13.out).mono fun e w' h => h.lp HO.out).mono ?_
              rintro e w14 ⟨a14, n14, c14, rfl, hp14, hb14⟩
              have HBw14 := hid (HBw13.out.trans (hb14.mono HBw13.out.size))
              have L_w14 := hid (L_w13.out.keep hb14)
              have D_w14 := hid (D_w13.out.keep hb14)
              have O1_w14 := hid hp14
              clear hb14 hp14
              go_wp2_with fail
              refine ((sOppositePile_u (m3 : Int) _ M (k3 : Int) _ r _ L_w14.out D_w14.out).mono fun e w' h => h.lp HO.out).mono ?_
              rintro e w15 ⟨a15, n15, c15, rfl, hp15, hb15⟩
              have HBw15 := hid (HBw14.out.trans (hb15.mono HBw14.out.size))
              have L_w15 := hid (L_w14.out.keep hb15)
              have D_w15 := hid (D_w14.out.keep hb15)
              have O1_w15 := hid (O1_w14.out.keep hb15)
              have O2_w15 := hid hp15
              clear hb15 hp15
              go_wp2_with fail
              refine ((iOrderOfPile_u (m3 : Int) _ M (k3 : Int) _ r _ L_w15.out D_w15.out).mono fun e w' h => h.lp HQ.out).mono ?_
              rintro e w16 ⟨rfl, hb16⟩
              have HBw16 := hid (HBw15.out.trans (hb16.mono HBw15.out.size))
              have L_w16 := hid (L_w15.out.keep hb16)
              have D_w16 := hid (D_w15.out.keep hb16)
              have O1_w16 := hid (O1_w15.out.keep hb16)
              have O2_w16 := hid (O2_w15.out.keep hb16)
              clear hb16
              go_wp2_with fail
              refine ((sOrderOfPile_u (m3 : Int) _ M (k3 : Int) _ r _ L_w16.out D_w16.out).mono fun e w' h => h.lp HQ.out).mono ?_
              rintro e w17 ⟨rfl, hb17⟩
              have HBw17 := hid (HBw16.out.trans (hb17.mono HBw16.out.size))
              have L_w17 := hid (L_w16.out.keep hb17)
              have D_w17 := hid (D_w16.out.keep hb17)
              have O1_w17 := hid (O1_w16.out.keep hb17)
              have O2_w17 := hid (O2_w16.out.keep hb17)
              clear hb17
              go_wp2_with fail
              refine ((iIsRecurrent_u (m3 : Int) _ M (k3 : Int) _ r _ L_w17.out D_w17.out).mono fun e w' h => h.lp HI.out).mono ?_
              rintro e w18 ⟨rfl, hb18⟩
              have HBw18 := hid (HBw17.out.trans (hb18.mono HBw17.out.size))
              have L_w18 := hid (L_w17.out.keep hb18)
              have D_w18 := hid (D_w17.out.keep hb18)
              have O1_w18 := hid (O1_w17.out.keep hb18)
              have O2_w18 := hid (O2_w17.out.keep hb18)
              clear hb18
              go_wp2_with fail
              refine ((sIsRecurrent_u (m3 : Int) _ M (k3 : Int) _ r _ L_w18.out D_w18.out).mono fun e w' h => h.lp HI.out).mono ?_
              rintro e w19 ⟨rfl, hb19⟩
              have HBw19 := hid (HBw18.out.trans (hb19.mono HBw18.out.size))
              have L_w19 := hid (L_w18.out.keep hb19)
              have D_w19 := hid (D_w18.out.keep hb19)
              have O1_w19 := hid (O1_w18.out.keep hb19)
              have O2_w19 := hid (O2_w18.out.keep hb19)
              clear hb19
              go_wp2_with fail
              refine (sameInts_y _ _ o _ O1_w19.out O2_w19.out).mono ?_
              rintro e w20 ⟨rfl, hb20⟩
              have HBw20 := hid (HBw19.out.trans (hb20.mono HBw19.out.size))
              have L_w20 := hid (L_w19.out.keep hb20)
              have D_w20 := hid (D_w19.out.keep hb20)
              have O1_w20 := hid (O1_w19.out.keep hb20)
              have O2_w20 := hid (O2_w19.out.keep hb20)
              clear hb20
              go_wp2_with fail
              refine ((iIdentityPile_u (m3 : Int) _ M (k3 : Int) _ L_w20.out).mono fun e w' h => h.lp HE.out).mono ?_
              rintro e w21 ⟨a21, n21, c21, rfl, hp21, hb21⟩
              have HBw21 := hid (HBw20.out.trans (hb21.mono HBw20.out.size))
              have L_w21 := hid (L_w20.out.keep hb21)
              have D_w21 := hid (D_w20.out.keep hb21)
              have O1_w21 := hid (O1_w20.out.keep hb21)
              have E1_w21 := hid hp21
              clear hb21 hp21
              go_wp2_with fail
              refine ((sIdentityPile_u (m3 : Int) _ M (k3 : Int) _ L_w21.out).mono fun e w' h => h.lp HE.out).mono ?_
              rintro e w22 ⟨a22, n22, c22, rfl, hp22, hb22⟩
              have HBw22 := hid (HBw21.out.trans (hb22.mono HBw21.out.size))
              have L_w22 := hid (L_w21.out.keep hb22)
              have D_w22 := hid (D_w21.out.keep hb22)
              have O1_w22 := hid (O1_w21.out.keep hb22)
              have E1_w22 := hid (E1_w21.out.keep hb22)
              have E2_w22 := hid hp22
              clear hb22 hp22
              go_wp2_with fail
              refine ((iAddPiles_u (m3 : Int) _ M (k3 : Int) _ r _ o _ L_w22.out D_w22.out O1_w22.out).mono fun e w' h => h.lp HN.out).mono ?_
              rintro e w23 ⟨a23, n23, c23, rfl, hp23, hb23⟩
              have HBw23 := hid (HBw22.out.trans (hb23.mono HBw22.out.size))
              have L_w23 := hid (L_w22.out.keep hb23)
              have D_w23 := hid (D_w22.out.keep hb23)
              have O1_w23 := hid (O1_w22.out.keep hb23)
              have E1_w23 := hid (E1_w22.out.keep hb23)
              have E2_w23 := hid (E2_w22.out.keep hb23)
              have N_w23 := hid hp23
              clear hb23 hp23
              go_wp2_with fail
              refine ((iAddPiles_u (m3 : Int) _ M (k3 : Int) _ r _ E _ L_w23.out D_w23.out E1_w23.out).mono fun e w' h => h.lp HS.out).mono ?_
              rintro e w24 ⟨a24, n24, c24, rfl, hp24, hb24⟩
              have HBw24 := hid (HBw23.out.trans (hb24.mono HBw23.out.size))
              have L_w24 := hid (L_w23.out.keep hb24)
              have D_w24 := hid (D_w23.out.keep hb24)
              have O1_w24 := hid (O1_w23.out.keep hb24)
              have E1_w24 := hid (E1_w23.out.keep hb24)
              have E2_w24 := hid (E2_w23.out.keep hb24)
              have N_w24 := hid (N_w23.out.keep hb24)
              have S_w24 := hid hp24
              clear hb24 hp24
              go_wp2_with fail
              refine (sameInts_y _ _ E _ E1_w24.out E2_w24.out).mono ?_
              rintro e w25 ⟨rfl, hb25⟩
              have HBw25 := hid (HBw24.out.trans (hb25.mono HBw24.out.size))
              have L_w25 := hid (L_w24.out.keep hb25)
              have D_w25 := hid (D_w24.out.keep hb25)
              have E1_w25 := hid (E1_w24.out.keep hb25)
              have E2_w25 := hid (E2_w24.out.keep hb25)
              have N_w25 := hid (N_w24.out.keep hb25)
              have S_w25 := hid (S_w24.out.keep hb25)
              clear hb25
              go_wp2_with fail
              refine (sameInts_y _ _ E _ N_w25.out E2_w25.out).mono ?_
              rintro e w26 ⟨rfl, hb26⟩
              have HBw26 := hid (HBw25.out.trans (hb26.mono HBw25.out.size))
              have L_w26 := hid (L_w25.out.keep hb26)
              have D_w26 := hid (D_w25.out.keep hb26)
              have E1_w26 := hid (E1_w25.out.keep hb26)
              have E2_w26 := hid (E2_w25.out.keep hb26)
              have N_w26 := hid (N_w25.out.keep hb26)
              have S_w26 := hid (S_w25.out.keep hb26)
              clear hb26
              go_wp2_with fail
              refine (sameInts_y _ _ r _ S_w26.out D_w26.out).mono ?_
              rintro e w27 ⟨rfl, hb27⟩
              have HBw27 := hid (HBw26.out.trans (hb27.mono HBw26.out.size))
              have L_w27 := hid (L_w26.out.keep hb27)
              have D_w27 := hid (D_w26.out.keep hb27)
              have E1_w27 := hid (E1_w26.out.keep hb27)
              have E2_w27 := hid (E2_w26.out.keep hb27)
              have N_w27 := hid (N_w26.out.keep hb27)
              have S_w27 := hid (S_w26.out.keep hb27)
              clear hb27
              go_wp2_with fail
              refine (sameInts_b _ _ r E _ D_w27.out E2_w27.out).mono ?_
              rintro e w28 ⟨rfl, hb28⟩
              have HBw28 := hid (HBw27.out.trans (hb28.mono HBw27.out.size))
              have L_w28 := hid (L_w27.out.keep hb28)
              have D_w28 := hid (D_w27.out.keep hb28)
              have E1_w28 := hid (E1_w27.out.keep hb28)
              have E2_w28 := hid (E2_w27.out.keep hb28)
              have N_w28 := hid (N_w27.out.keep hb28)
              have S_w28 := hid (S_w27.out.keep hb28)
              clear hb28
              rw [HB3.out]
              cases B3
              · have hj3 : ¬ (j < 1) := by omega
                go_wp2
                go_ret
                exact ⟨rfl, HBw28.out⟩
              · have hj3 : ¬ (j < 1) := by omega
                go_wp2
                go_ret
                exact ⟨rfl, HBw28.out⟩
        · have HCM := hid (hcm rfl)
          clear hcm
          go_wp2_with fail
          refine (sameInts_y _ _ Z _ X_w11.out S_w11.out).mono ?_
          rintro e w12 ⟨rfl, hb12⟩
          have HBw12 := hid (HBw11.out.trans (hb12.mono HBw11.out.size))
          have R1_w12 := hid (R1_w11.out.keep hb12)
          have L_w12 := hid (L_w11.out.keep hb12)
          have A_w12 := hid (A_w11.out.keep hb12)
          have B_w12 := hid (B_w11.out.keep hb12)
          have X_w12 := hid (X_w11.out.keep hb12)
          have S_w12 := hid (S_w11.out.keep hb12)
          clear hb12
          go_wp2_with fail
          refine ((iAddPiles_u m2 _ K s _ b _ a _ L_w12.out B_w12.out A_w12.out).mono fun e w' h => h.lp HCM.out).mono ?_
          rintro e w13 ⟨a13, n13, c13, rfl, hp13, hb13⟩
          have HBw13 := hid (HBw12.out.trans (hb13.mono HBw12.out.size))
          have R1_w13 := hid (R1_w12.out.keep hb13)
          have L_w13 := hid (L_w12.out.keep hb13)
          have A_w13 := hid (A_w12.out.keep hb13)
          have B_w13 := hid (B_w12.out.keep hb13)
          have X_w13 := hid (X_w12.out.keep hb13)
          have S_w13 := hid (S_w12.out.keep hb13)
          have Y_w13 := hid hp13
          clear hb13 hp13
          go_wp2_with fail
          refine (sameInts_y _ _ Z _ Y_w13.out S_w13.out).mono ?_
          rintro e w14 ⟨rfl, hb14⟩
          have HBw14 := hid (HBw13.out.trans (hb14.mono HBw13.out.size))
          have R1_w14 := hid (R1_w13.out.keep hb14)
          have L_w14 := hid (L_w13.out.keep hb14)
          have A_w14 := hid (A_w13.out.keep hb14)
          have B_w14 := hid (B_w13.out.keep hb14)
          have X_w14 := hid (X_w13.out.keep hb14)
          have S_w14 := hid (S_w13.out.keep hb14)
          have Y_w14 := hid (Y_w13.out.keep hb14)
          clear hb14
          as_aux_lemma =>
            go_wp2_with fail
            refine (DrawOppositePile_c _ x1 _ R1_w14.out).mono ?_
            rintro e w15 ⟨g, vM, M, z, vr, r, rfl, hg1, hg9, hml, hrl, hM, hR, hb15⟩
            have HBw15 := hid (HBw14.out.trans (hb15.mono HBw14.out.size))
            have L_w15 := hid hM
            have D_w15 := hid hR
            obtain ⟨am, cm, rfl⟩ := hM.form
            obtain ⟨ar, nr, cr, rfl⟩ := hR.form3
            clear hb15 hM hR
            cases t3 : piRB g M z r
            · obtain ⟨ho, hq, hi⟩ := opp_no t3
              have HO := hid ho
              have HQ := hid hq
              obtain ⟨i1, i2, hii⟩ : ∃ i1 i2, isrB g M z r = (i1, i2) := ⟨_, _, rfl⟩
              rw [hii] at hi
              have HI := hid hii
              have hi : (i2 && i1) = false := hi
              clear t3 ho hq hii
              go_wp2_with fail
              refine ((iOppositePile_u g _ M z _ r _ L_w15.out D_w15.out).mono fun e w' h => h.lp HO.out).mono ?_
              rintro e w16 ⟨a16, n16, c16, rfl, hp16, hb16⟩
              have HBw16 := hid (HBw15.out.trans (hb16.mono HBw15.out.size))
              have L_w16 := hid (L_w15.out.keep hb16)
              have D_w16 := hid (D_w15.out.keep hb16)
              have O1_w16 := hid hp16
              clear hb16 hp16
              go_wp2_with fail
              refine ((sOppositePile_u g _ M z _ r _ L_w16.out D_w16.out).mono fun e w' h => h.lp HO.out).mono ?_
              rintro e w17 ⟨a17, n17, c17, rfl, hp17, hb17⟩
              have HBw17 := hid (HBw16.out.trans (hb17.mono HBw16.out.size))
              have L_w17 := hid (L_w16.out.keep hb17)
              have D_w17 := hid (D_w16.out.keep hb17)
              have O1_w17 := hid (O1_w16.out.keep hb17)
              have O2_w17 := hid hp17
              clear hb17 hp17
              go_wp2_with fail
              refine ((iOrderOfPile_u g _ M z _ r _ L_w17.out D_w17.out).mono fun e w' h => h.lp HQ.out).mono ?_
              rintro e w18 ⟨rfl, hb18⟩
              have HBw18 := hid (HBw17.out.trans (hb18.mono HBw17.out.size))
              have L_w18 := hid (L_w17.out.keep hb18)
              have D_w18 := hid (D_w17.out.keep hb18)
              have O1_w18 := hid (O1_w17.out.keep hb18)
              have O2_w18 := hid (O2_w17.out.keep hb18)
              clear hb18
              go_wp2_with fail
              refine ((sOrderOfPile_u g _ M z _ r _ L_w18.out D_w18.out).mono fun e w' h => h.lp HQ.out).mono ?_
              rintro e w19 ⟨rfl, hb19⟩
              have HBw19 := hid (HBw18.out.trans (hb19.mono HBw18.out.size))
              have L_w19 := hid (L_w18.out.keep hb19)
              have D_w19 := hid (D_w18.out.keep hb19)
              have O1_w19 := hid (O1_w18.out.keep hb19)
              have O2_w19 := hid (O2_w18.out.keep hb19)
              clear hb19
              go_wp2_with fail
              refine ((iIsRecurrent_u g _ M z _ r _ L_w19.out D_w19.out).mono fun e w' h => h.lp HI.out).mono ?_
              rintro e w20 ⟨rfl, hb20⟩
              have HBw20 := hid (HBw19.out.trans (hb20.mono HBw19.out.size))
              have L_w20 := hid (L_w19.out.keep hb20)
              have D_w20 := hid (D_w19.out.keep hb20)
              have O1_w20 := hid (O1_w19.out.keep hb20)
              have O2_w20 := hid (O2_w19.out.keep hb20)
              clear hb20
              go_wp2_with fail
              refine ((sIsRecurrent_u g _ M z _ r _ L_w20.out D_w20.out).mono fun e w' h => h.lp HI.out).mono ?_
              rintro e w21 ⟨rfl, hb21⟩
              have HBw21 := hid (HBw20.out.trans (hb21.mono HBw20.out.size))
              have L_w21 := hid (L_w20.out.keep hb21)
              have D_w21 := hid (D_w20.out.keep hb21)
              have O1_w21 := hid (O1_w20.out.keep hb21)
              have O2_w21 := hid (O2_w20.out.keep hb21)
              clear hb21
              cases i1 <;> cases i2
              all_goals try (exfalso; simp at hi; done)
              all_goals
                go_wp2_with fail
                refine (sameInts_y _ _ [] _ O1_w21.out O2_w21.out).mono ?_
                rintro e w22 ⟨rfl, hb22⟩
                have HBw22 := hid (HBw21.out.trans (hb22.mono HBw21.out.size))
                have L_w22 := hid (L_w21.out.keep hb22)
                have D_w22 := hid (D_w21.out.keep hb22)
                have O1_w22 := hid (O1_w21.out.keep hb22)
                have O2_w22 := hid (O2_w21.out.keep hb22)
                clear hb22
                go_wp2
                go_ret
                exact ⟨rfl, HBw22.out⟩
            · obtain ⟨m3, k3, hm3, hk3, _⟩ := piRB_parts t3
              subst hm3
              subst hk3
              obtain ⟨o, E, j, ho, hq, hi, he, hn, hs, hj1, hj⟩ := opp_yes t3
              have HO := hid ho
              have HQ := hid hq
              have HI := hid hi
              have HE := hid he
              have HN := hid hn
              have HS := hid hs
              obtain ⟨B3, hB3⟩ : ∃ B3, decide (r = E) = B3 := ⟨_, rfl⟩
              rw [hB3] at hj
              have HB3 := hid hB3
              have hj2 : (j == 1) = B3 := by rw [← hj, Bool.beq_eq_decide_eq]
              clear t3 ho hq hi he hn hs hB3 hj
              go_wp2_with fail
              refine ((iOppositePile_u (m3 : Int) _ M (k3 : Int) _ r _ L_w15.out D_w15.out).mono fun e w' h => h.lp HO.out).mono ?_
              rintro e w16 ⟨a16, n16, c16, rfl, hp16, hb16⟩
              have HBw16 := hid (HBw15.out.trans (hb16.mono HBw15.out.size))
              have L_w16 := hid (L_w15.out.keep hb16)
              have D_w16 := hid (D_w15.out.keep hb16)
              have O1_w16 := hid hp16
              clear hb16 hp16
              go_wp2_with fail
              refine ((sOppositePile_u (m3 : Int) _ M (k3 : Int) _ r _ L_w16.out D_w16.out).mono fun e w' h => h.lp HO.out).mono ?_
              rintro e w17 ⟨a17, n17, c17, rfl, hp17, hb17⟩
              have HBw17 := hid (HBw16.out.trans (hb17.mono HBw16.out.size))
              have L_w17 := hid (L_w16.out.keep hb17)
              have D_w17 := hid (D_w16.out.keep hb17)
              have O1_w17 := hid (O1_w16.out.keep hb17)
              have O2_w17 := hid hp17
              clear hb17 hp17
              go_wp2_with fail
              refine ((iOrderOfPile_u (m3 : Int) _ M (k3 : Int) _ r _ L_w17.out D_w17.out).mono fun e w' h => h.lp HQ.out).mono ?_
              rintro e w18 ⟨rfl, hb18⟩
              have HBw18 := hid (HBw17.out.trans (hb18.mono HBw17.out.size))
              have L_w18 := hid (L_w17.out.keep hb18)
              have D_w18 := hid (D_w17.out.keep hb18)
              have O1_w18 := hid (O1_w17.out.keep hb18)
              have O2_w18 := hid (O2_w17.out.keep hb18)
              clear hb18
              go_wp2_with fail
              refine ((sOrderOfPile_u (m3 : Int) _ M (k3 : Int) _ r _ L_w18.out D_w18.out).mono fun e w' h => h.lp HQ.out).mono ?_
              rintro e w19 ⟨rfl, hb19⟩
              have HBw19 := hid (HBw18.out.trans (hb19.mono HBw18.out.size))
              have L_w19 := hid (L_w18.out.keep hb19)
              have D_w19 := hid (D_w18.out.keep hb19)
              have O1_w19 := hid (O1_w18.out.keep hb19)
              have O2_w19 := hid (O2_w18.out.keep hb19)
              clear hb19
              go_wp2_with fail
              refine ((iIsRecurrent_u (m3 : Int) _ M (k3 : Int) _ r _ L_w19.out D_w19.out).mono fun e w' h => h.lp HI.out).mono ?_
              rintro e w20 ⟨rfl, hb20⟩
              have HBw20 := hid (HBw19.out.trans (hb20.mono HBw19.out.size))
              have L_w20 := hid (L_w19.out.keep hb20)
              have D_w20 := hid (D_w19.out.keep hb20)
              have O1_w20 := hid (O1_w19.out.keep hb20)
              have O2_w20 := hid (O2_w19.out.keep hb20)
              clear hb20
              go_wp2_with fail
              refine ((sIsRecurrent_u (m3 : Int) _ M (k3 : Int) _ r _ L_w20.out D_w20.out).mono fun e w' h => h.lp HI.out).mono ?_
              rintro e w21 ⟨rfl, hb21⟩
              have HBw21 := hid (HBw20.out.trans (hb21.mono HBw20.out.size))
              have L_w21 := hid (L_w20.out.keep hb21)
              have D_w21 := hid (D_w20.out.keep hb21)
              have O1_w21 := hid (O1_w20.out.keep hb21)
              have O2_w21 := hid (O2_w20.out.keep hb21)
              clear hb21
              go_wp2_with fail
              refine (sameInts_y _ _ o _ O1_w21.out O2_w21.out).mono ?_
              rintro e w22 ⟨rfl, hb22⟩
              have HBw22 := hid (HBw21.out.trans (hb22.mono HBw21.out.size))
              have L_w22 := hid (L_w21.out.keep hb22)
              have D_w22 := hid (D_w21.out.keep hb22)
              have O1_w22 := hid (O1_w21.out.keep hb22)
              have O2_w22 := hid (O2_w21.out.keep hb22)
              clear hb22
              go_wp2_with fail
              refine ((iIdentityPile_u (m3 : Int) _ M (k3 : Int) _ L_w22.out).mono fun e w' h => h.lp HE.out).mono ?_
              rintro e w23 ⟨a23, n23, c23, rfl, hp23, hb23⟩
              have HBw23 := hid (HBw22.out.trans (hb23.mono HBw22.out.size))
              have L_w23 := hid (L_w22.out.keep hb23)
              have D_w23 := hid (D_w22.out.keep hb23)
              have O1_w23 := hid (O1_w22.out.keep hb23)
              have E1_w23 := hid hp23
              clear hb23 hp23
              go_wp2_with fail
              refine ((sIdentityPile_u (m3 : Int) _ M (k3 : Int) _ L_w23.out).mono fun e w' h => h.lp HE.out).mono ?_
              rintro e w24 ⟨a24, n24, c24, rfl, hp24, hb24⟩
              have HBw24 := hid (HBw23.out.trans (hb24.mono HBw23.out.size))
              have L_w24 := hid (L_w23.out.keep hb24)
              have D_w24 := hid (D_w23.out.keep hb24)
              have O1_w24 := hid (O1_w23.out.keep hb24)
              have E1_w24 := hid (E1_w23.out.keep hb24)
              have E2_w24 := hid hp24
              clear hb24 hp24
              go_wp2_with fail
              refine ((iAddPiles_u (m3 : Int) _ M (k3 : Int) _ r _ o _ L_w24.out D_w24.out O1_w24.out).mono fun e w' h => h.lp HN.out).mono ?_
              rintro e w25 ⟨a25, n25, c25, rfl, hp25, hb25⟩
              have HBw25 := hid (HBw24.out.trans (hb25.mono HBw24.out.size))
              have L_w25 := hid (L_w24.out.keep hb25)
              have D_w25 := hid (D_w24.out.keep hb25)
              have O1_w25 := hid (O1_w24.out.keep hb25)
              have E1_w25 := hid (E1_w24.out.keep hb25)
              have E2_w25 := hid (E2_w24.out.keep hb25)
              have N_w25 := hid hp25
              clear hb25 hp25
              go_wp2_with fail
              refine ((iAddPiles_u (m3 : Int) _ M (k3 : Int) _ r _ E _ L_w25.out D_w25.out E1_w25.out).mono fun e w' h => h.lp HS.out).mono ?_
              rintro e w26 ⟨a26, n26, c26, rfl, hp26, hb26⟩
              have HBw26 := hid (HBw25.out.trans (hb26.mono HBw25.out.size))
              have L_w26 := hid (L_w25.out.keep hb26)
              have D_w26 := hid (D_w25.out.keep hb26)
              have O1_w26 := hid (O1_w25.out.keep hb26)
              have E1_w26 := hid (E1_w25.out.keep hb26)
              have E2_w26 := hid (E2_w25.out.keep hb26)
              have N_w26 := hid (N_w25.out.keep hb26)
              have S_w26 := hid hp26
              clear hb26 hp26
              go_wp2_with fail
              refine (sameInts_y _ _ E _ E1_w26.out E2_w26.out).mono ?_
              rintro e w27 ⟨rfl, hb27⟩
              have HBw27 := hid (HBw26.out.trans (hb27.mono HBw26.out.size))
              have L_w27 := hid (L_w26.out.keep hb27)
              have D_w27 := hid (D_w26.out.keep hb27)
              have E1_w27 := hid (E1_w26.out.keep hb27)
              have E2_w27 := hid (E2_w26.out.keep hb27)
              have N_w27 := hid (N_w26.out.keep hb27)
              have S_w27 := hid (S_w26.out.keep hb27)
              clear hb27
              go_wp2_with fail
              refine (sameInts_y _ _ E _ N_w27.out E2_w27.out).mono ?_
              rintro e w28 ⟨rfl, hb28⟩
              have HBw28 := hid (HBw27.out.trans (hb28.mono HBw27.out.size))
              have L_w28 := hid (L_w27.out.keep hb28)
              have D_w28 := hid (D_w27.out.keep hb28)
              have E1_w28 := hid (E1_w27.out.keep hb28)
              have E2_w28 := hid (E2_w27.out.keep hb28)
              have N_w28 := hid (N_w27.out.keep hb28)
              have S_w28 := hid (S_w27.out.keep hb28)
              clear hb28
              go_wp2_with fail
              refine (sameInts_y _ _ r _ S_w28.out D_w28.out).mono ?_
              rintro e w29 ⟨rfl, hb29⟩
              have HBw29 := hid (HBw28.out.trans (hb29.mono HBw28.out.size))
              have L_w29 := hid (L_w28.out.keep hb29)
              have D_w29 := hid (D_w28.out.keep hb29)
              have E1_w29 := hid (E1_w28.out.keep hb29)
              have E2_w29 := hid (E2_w28.out.keep hb29)
              have N_w29 := hid (N_w28.out.keep hb29)
              have S_w29 := hid (S_w28.out.keep hb29)
              clear hb29
              go_wp2_with fail
              refine (sameInts_b _ _ r E _ D_w29.out E2_w29.out).mono ?_
              rintro e w30 ⟨rfl, hb30⟩
              have HBw30 := hid (HBw29.out.trans (hb30.mono HBw29.out.size))
              have L_w30 := hid (L_w29.out.keep hb30)
              have D_w30 := hid (D_w29.out.keep hb30)
              have E1_w30 := hid (E1_w29.out.keep hb30)
              have E2_w30 := hid (E2_w29.out.keep hb30)
              have N_w30 := hid (N_w29.out.keep hb30)
              have S_w30 := hid (S_w29.out.keep hb30)
              clear hb30
              rw [HB3.out]
              cases B3
              · have hj3 : ¬ (j < 1) := by omega
                go_wp2
                go_ret
                exact ⟨rfl, HBw30.out⟩
              · have hj3 : ¬ (j < 1) := by omega
                go_wp2
                go_ret
                exact ⟨rfl, HBw30.out⟩
    · go_wp2_with fail
      refine (pSumB_c _ TT _ T2_w8.out HTB.out).mono ?_
      rintro e w' ⟨rfl, rfl⟩
      rw [HSS.out]
      clear e1
      as_aux_lemma =>
        go_wp2_with fail
        refine (DrawAddPiles_c _ x1 _ R1_w8.out).mono ?_
        rintro e w9 ⟨m2, vK, K, s, va, a, vb, b, rfl, hm1, hm9, hkl, hal, hbl, hK, hA, hBB, hb9⟩
        have HBw9 := hid (HBw8.out.trans (hb9.mono HBw8.out.size))
        have R1_w9 := hid (R1_w8.out.keep hb9)
        have L_w9 := hid hK
        have A_w9 := hid hA
        have B_w9 := hid hBB
        obtain ⟨ak, ck, rfl⟩ := hK.form
        obtain ⟨aa, na, ca, rfl⟩ := hA.form3
        obtain ⟨ab, nb, cb, rfl⟩ := hBB.form3
        obtain ⟨Z, bz, hz2⟩ : ∃ Z bz, addpB m2 K s a b = (Z, bz) := ⟨_, _, rfl⟩
        have hcm := fun h => addp_comm (n := m2) (L := K) (q := s) (c := a) (d := b) h
        rw [hz2] at hcm
        have HZ2 := hid hz2
        clear hz2
        clear hb9 hK hA hBB
        go_wp2_with fail
        refine ((iAddPiles_u m2 _ K s _ a _ b _ L_w9.out A_w9.out B_w9.out).mono fun e w' h => h.lp HZ2.out).mono ?_
        rintro e w10 ⟨a10, n10, c10, rfl, hp10, hb10⟩
        have HBw10 := hid (HBw9.out.trans (hb10.mono HBw9.out.size))
        have R1_w10 := hid (R1_w9.out.keep hb10)
        have L_w10 := hid (L_w9.out.keep hb10)
        have A_w10 := hid (A_w9.out.keep hb10)
        have B_w10 := hid (B_w9.out.keep hb10)
        have X_w10 := hid hp10
        clear hb10 hp10
        go_wp2_with fail
        refine ((sAddPiles_u m2 _ K s _ a _ b _ L_w10.out A_w10.out B_w10.out).mono fun e w' h => h.lp HZ2.out).mono ?_
        rintro e w11 ⟨a11, n11, c11, rfl, hp11, hb11⟩
        have HBw11 := hid (HBw10.out.trans (hb11.mono HBw10.out.size))
        have R1_w11 := hid (R1_w10.out.keep hb11)
        have L_w11 := hid (L_w10.out.keep hb11)
        have A_w11 := hid (A_w10.out.keep hb11)
        have B_w11 := hid (B_w10.out.keep hb11)
        have X_w11 := hid (X_w10.out.keep hb11)
        have S_w11 := hid hp11
        clear hb11 hp11
        cases bz
        · clear hcm
          go_wp2_with fail
          refine (sameInts_y _ _ Z _ X_w11.out S_w11.out).mono ?_
          rintro e w12 ⟨rfl, hb12⟩
          have HBw12 := hid (HBw11.out.trans (hb12.mono HBw11.out.size))
          have R1_w12 := hid (R1_w11.out.keep hb12)
          have L_w12 := hid (L_w11.out.keep hb12)
          have A_w12 := hid (A_w11.out.keep hb12)
          have B_w12 := hid (B_w11.out.keep hb12)
          have X_w12 := hid (X_w11.out.keep hb12)
          have S_w12 := hid (S_w11.out.keep hb12)
          clear hb12
          as_aux_lemma =>
            go_wp2_with fail
            refine (DrawOppositePile_c _ x1 _ R1_w12.out).mono ?_
            rintro e w13 ⟨g, vM, M, z, vr, r, rfl, hg1, hg9, hml, hrl, hM, hR, hb13⟩
            have HBw13 := hid (HBw12.out.trans (hb13.mono HBw12.out.size))
            have L_w13 := hid hM
            have D_w13 := hid hR
            obtain ⟨am, cm, rfl⟩ := hM.form
            obtain ⟨ar, nr, cr, rfl⟩ := hR.form3
            clear hb13 hM hR
            cases t3 : piRB g M z r
            · obtain ⟨ho, hq, hi⟩ := opp_no t3
              have HO := hid ho
              have HQ := hid hq
              obtain ⟨i1, i2, hii⟩ : ∃ i1 i2, isrB g M z r = (i1, i2) := ⟨_, _, rfl⟩
              rw [hii] at hi
              have HI := hid hii
              have hi : (i2 && i1) = false := hi
              clear t3 ho hq hii
              go_wp2_with fail
              refine ((iOppositePile_u g _ M z _ r _ L_w13.out D_w13.out).mono fun e w' h => h.lp HO.out).mono ?_
              rintro e w14 ⟨a14, n14, c14, rfl, hp14, hb14⟩
              have HBw14 := hid (HBw13.out.trans (hb14.mono HBw13.out.size))
              have L_w14 := hid (L_w13.out.keep hb14)
              have D_w14 := hid (D_w13.out.keep hb14)
              have O1_w14 := hid hp14
              clear hb14 hp14
              go_wp2_with fail
              refine ((sOppositePile_u g _ M z _ r _ L_w14.out D_w14.out).mono fun e w' h => h.lp HO.out).mono ?_
              rintro e w15 ⟨a15, n15, c15, rfl, hp15, hb15⟩
              have HBw15 := hid (HBw14.out.trans (hb15.mono HBw14.out.size))
              have L_w15 := hid (L_w14.out.keep hb15)
              have D_w15 := hid (D_w14.out.keep hb15)
              have O1_w15 := hid (O1_w14.out.keep hb15)
              have O2_w15 := hid hp15
              clear hb15 hp15
              go_wp2_with fail
              refine ((iOrderOfPile_u g _ M z _ r _ L_w15.out D_w15.out).mono fun e w' h => h.lp HQ.out).mono ?_
              rintro e w16 ⟨rfl, hb16⟩
              have HBw16 := hid (HBw15.out.trans (hb16.mono HBw15.out.size))
              have L_w16 := hid (L_w15.out.keep hb16)
              have D_w16 := hid (D_w15.out.keep hb16)
              have O1_w16 := hid (O1_w15.out.keep hb16)
              have O2_w16 := hid (O2_w15.out.keep hb16)
              clear hb16
              go_wp2_with fail
              refine ((sOrderOfPile_u g _ M z _ r _ L_w16.out D_w16.out).mono fun e w' h => h.lp HQ.out).mono ?_
              rintro e w17 ⟨rfl, hb17⟩
              have HBw17 := hid (HBw16.out.trans (hb17.mono HBw16.out.size))
              have L_w17 := hid (L_w16.out.keep hb17)
              have D_w17 := hid (D_w16.out.keep hb17)
              have O1_w17 := hid (O1_w16.out.keep hb17)
              have O2_w17 := hid (O2_w16.out.keep hb17)
              clear hb17
              go_wp2_with fail
              refine ((iIsRecurrent_u g _ M z _ r _ L_w17.out D_w17.out).mono fun e w' h => h.lp HI.out).mono ?_
              rintro e w18 ⟨rfl, hb18⟩
              have HBw18 := hid (HBw17.out.trans (hb18.mono HBw17.out.size))
              have L_w18 := hid (L_w17.out.keep hb18)
              have D_w18 := hid (D_w17.out.keep hb18)
              have O1_w18 := hid (O1_w17.out.keep hb18)
              have O2_w18 := hid (O2_w17.out.keep hb18)
              clear hb18
              go_wp2_with fail
              refine ((sIsRecurrent_u g _ M z _ r _ L_w18.out D_w18.out).mono fun e w' h => h.lp HI.out).mono ?_
              rintro e w19 ⟨rfl, hb19⟩
              have HBw19 := hid (HBw18.out.trans (hb19.mono HBw18.out.size))
              have L_w19 := hid (L_w18.out.keep hb19)
              have D_w19 := hid (D_w18.out.keep hb19)
              have O1_w19 := hid (O1_w18.out.keep hb19)
              have O2_w19 := hid (O2_w18.out.keep hb19)
              clear hb19
              cases i1 <;> cases i2
              all_goals try (exfalso; simp at hi; done)
              all_goals
                go_wp2_with fail
                refine (sameInts_y _ _ [] _ O1_w19.out O2_w19.out).mono ?_
                rintro e w20 ⟨rfl, hb20⟩
                have HBw20 := hid (HBw19.out.trans (hb20.mono HBw19.out.size))
                have L_w20 := hid (L_w19.out.keep hb20)
                have D_w20 := hid (D_w19.out.keep hb20)
                have O1_w20 := hid (O1_w19.out.keep hb20)
                have O2_w20 := hid (O2_w19.out.keep hb20)
                clear hb20
                go_wp2
                go_ret
                exact ⟨rfl, HBw20.out⟩
            · obtain ⟨m3, k3, hm3, hk3, _⟩ := piRB_parts t3
              subst hm3
              subst hk3
              obtain ⟨o, E, j, ho, hq, hi, he, hn, hs, hj1, hj⟩ := opp_yes t3
              have HO := hid ho
              have HQ := hid hq
              have HI := hid hi
              have HE := hid he
              have HN := hid hn
              have HS := hid hs
              obtain ⟨B3, hB3⟩ : ∃ B3, decide (r = E) = B3 := ⟨_, rfl⟩
              rw [hB3] at hj
              have HB3 := hid hB3
              have hj2 : (j == 1) = B3 := by rw [← hj, Bool.beq_eq_decide_eq]
              clear t3 ho hq hi he hn hs hB3 hj
              go_wp2_with fail
              refine ((iOppositePile_u (m3 : Int) _ M (k3 : Int) _ r _ L_w13.out D_w13.out).mono fun e w' h => h.lp HO.out).mono ?_
              rintro e w14 ⟨a14, n14, c14, rfl, hp14, hb14⟩
              have HBw14 := hid (HBw13.out.trans (hb14.mono HBw13.out.size))
              have L_w14 := hid (L_w13.out.keep hb14)
              have D_w14 := hid (D_w13.out.keep hb14)
              have O1_w14 := hid hp14
              clear hb14 hp14
              go_wp2_with fail
              refine ((sOppositePile_u (m3 : Int) _ M (k3 : Int) _ r _ L_w14.out D_w14.out).mono fun e w' h => h.lp HO.out).mono ?_
              rintro e w15 ⟨a15, n15, c15, rfl, hp15, hb15⟩
              have HBw15 := hid (HBw14.out.trans (hb15.mono HBw14.out.size))
              have L_w15 := hid (L_w14.out.keep hb15)
              have D_w15 := hid (D_w14.out.keep hb15)
              have O1_w15 := hid (O1_w14.out.keep hb15)
              have O2_w15 := hid hp15
              clear hb15 hp15
              go_wp2_with fail
              refine ((iOrderOfPile_u (m3 : Int) _ M (k3 : Int) _ r _ L_w15.out D_w15.out).mono fun e w' h => h.lp HQ.out).mono ?_
              rintro e w16 ⟨rfl, hb16⟩
              have HBw16 := hid (HBw15.out.trans (hb16.mono HBw15.out.size))
              have L_w16 := hid (L_w15.out.keep hb16)
              have D_w16 := hid (D_w15.out.keep hb16)
              have O1_w16 := hid (O1_w15.out.keep hb16)
              have O2_w16 := hid (O2_w15.out.keep hb16)
              clear hb16
              go_wp2_with fail
              refine ((sOrderOfPile_u (m3 : Int) _ M (k3 : Int) _ r _ L_w16.out D_w16.out).mono fun e w' h => h.lp HQ.out).mono ?_
              rintro e w17 ⟨rfl, hb17⟩
              have HBw17 := hid (HBw16.out.trans (hb17.mono HBw16.out.size))
              have L_w17 := hid (L_w16.out.keep hb17)
              have D_w17 := hid (D_w16.out.keep hb17)
              have O1_w17 := hid (O1_w16.out.keep hb17)
              have O2_w17 := hid (O2_w16.out.keep hb17)
              clear hb17
              go_wp2_with fail
              refine ((iIsRecurrent_u (m3 : Int) _ M (k3 : Int) _ r _ L_w17.out D_w17.out).mono fun e w' h => h.lp HI.out).mono ?_
              rintro e w18 ⟨rfl, hb18⟩
              have HBw18 := hid (HBw17.out.trans (hb18.mono HBw17.out.size))
              have L_w18 := hid (L_w17.out.keep hb18)
              have D_w18 := hid (D_w17.out.keep hb18)
              have O1_w18 := hid (O1_w17.out.keep hb18)
              have O2_w18 := hid (O2_w17.out.keep hb18)
              clear hb18
              go_wp2_with fail
              refine ((sIsRecurrent_u (m3 : Int) _ M (k3 : Int) _ r _ L_w18.out D_w18.out).mono fun e w' h => h.lp HI.out).mono ?_
              rintro e w19 ⟨rfl, hb19⟩
              have HBw19 := hid (HBw18.out.trans (hb19.mono HBw18.out.size))
              have L_w19 := hid (L_w18.out.keep hb19)
              have D_w19 := hid (D_w18.out.keep hb19)
              have O1_w19 := hid (O1_w18.out.keep hb19)
              have O2_w19 := hid (O2_w18.out.keep hb19)
              clear hb19
              go_wp2_with fail
              refine (sameInts_y _ _ o _ O1_w19.out O2_w19.out).mono ?_
              rintro e w20 ⟨rfl, hb20⟩
              have HBw20 := hid (HBw19.out.trans (hb20.mono HBw19.out.size))
              have L_w20 := hid (L_w19.out.keep hb20)
              have D_w20 := hid (D_w19.out.keep hb20)
              have O1_w20 := hid (O1_w19.out.keep hb20)
              have O2_w20 := hid (O2_w19.out.keep hb20)
              clear hb20
              go_wp2_with fail
              refine ((iIdentityPile_u (m3 : Int) _ M (k3 : Int) _ L_w20.out).mono fun e w' h => h.lp HE.out).mono ?_
              rintro e w21 ⟨a21, n21, c21, rfl, hp21, hb21⟩
              have HBw21 := hid (HBw20.out.trans (hb21.mono HBw20.out.size))
              have L_w21 := hid (L_w20.out.keep hb21)
              have D_w21 := hid (D_w20.out.keep hb21)
              have O1_w21 := hid (O1_w20.out.keep hb21)
              have E1_w21 := hid hp21
              clear hb21 hp21
              go_wp2_with fail
              refine ((sIdentityPile_u (m3 : Int) _ M (k3 : Int) _ L_w21.out).mono fun e w' h => h.lp HE.out).mono ?_
              rintro e w22 ⟨a22, n22, c22, rfl, hp22, hb22⟩
              have HBw22 := hid (HBw21.out.trans (hb22.mono HBw21.out.size))
              have L_w22 := hid (L_w21.out.keep hb22)
              have D_w22 := hid (D_w21.out.keep hb22)
              have O1_w22 := hid (O1_w21.out.keep hb22)
              have E1_w22 := hid (E1_w21.out.keep hb22)
              have E2_w22 := hid hp22
              clear hb22 hp22
              go_wp2_with fail
              refine ((iAddPiles_u (m3 : Int) _ M (k3 : Int) _ r _ o _ L_w22.out D_w22.out O1_w22.out).mono fun e w' h => h.lp HN.out).mono ?_
              rintro e w23 ⟨a23, n23, c23, rfl, hp23, hb23⟩
              have HBw23 := hid (HBw22.out.trans (hb23.mono HBw22.out.size))
              have L_w23 := hid (L_w22.out.keep hb23)
              have D_w23 := hid (D_w22.out.keep hb23)
              have O1_w23 := hid (O1_w22.out.keep hb23)
              have E1_w23 := hid (E1_w22.out.keep hb23)
              have E2_w23 := hid (E2_w22.out.keep hb23)
              have N_w23 := hid hp23
              clear hb23 hp23
              go_wp2_with fail
              refine ((iAddPiles_u (m3 : Int) _ M (k3 : Int) _ r _ E _ L_w23.out D_w23.out E1_w23.out).mono fun e w' h => h.lp HS.out).mono ?_
              rintro e w24 ⟨a24, n24, c24, rfl, hp24, hb24⟩
              have HBw24 := hid (HBw23.out.trans (hb24.mono HBw23.out.size))
              have L_w24 := hid (L_w23.out.keep hb24)
              have D_w24 := hid (D_w23.out.keep hb24)
              have O1_w24 := hid (O1_w23.out.keep hb24)
              have E1_w24 := hid (E1_w23.out.keep hb24)
              have E2_w24 := hid (E2_w23.out.keep hb24)
              have N_w24 := hid (N_w23.out.keep hb24)
              have S_w24 := hid hp24
              clear hb24 hp24
              go_wp2_with fail
              refine (sameInts_y _ _ E _ E1_w24.out E2_w24.out).mono ?_
              rintro e w25 ⟨rfl, hb25⟩
              have HBw25 := hid (HBw24.out.trans (hb25.mono HBw24.out.size))
              have L_w25 := hid (L_w24.out.keep hb25)
              have D_w25 := hid (D_w24.out.keep hb25)
              have E1_w25 := hid (E1_w24.out.keep hb25)
              have E2_w25 := hid (E2_w24.out.keep hb25)
              have N_w25 := hid (N_w24.out.keep hb25)
              have S_w25 := hid (S_w24.out.keep hb25)
              clear hb25
              go_wp2_with fail
              refine (sameInts_y _ _ E _ N_w25.out E2_w25.out).mono ?_
              rintro e w26 ⟨rfl, hb26⟩
              have HBw26 := hid (HBw25.out.trans (hb26.mono HBw25.out.size))
              have L_w26 := hid (L_w25.out.keep hb26)
              have D_w26 := hid (D_w25.out.keep hb26)
              have E1_w26 := hid (E1_w25.out.keep hb26)
              have E2_w26 := hid (E2_w25.out.keep hb26)
              have N_w26 := hid (N_w25.out.keep hb26)
              have S_w26 := hid (S_w25.out.keep hb26)
              clear hb26
              go_wp2_with fail
              refine (sameInts_y _ _ r _ S_w26.out D_w26.out).mono ?_
              rintro e w27 ⟨rfl, hb27⟩
              have HBw27 := hid (HBw26.out.trans (hb27.mono HBw26.out.size))
              have L_w27 := hid (L_w26.out.keep hb27)
              have D_w27 := hid (D_w26.out.keep hb27)
              have E1_w27 := hid (E1_w26.out.keep hb27)
              have E2_w27 := hid (E2_w26.out.keep hb27)
              have N_w27 := hid (N_w26.out.keep hb27)
              have S_w27 := hid (S_w26.out.keep hb27)
              clear hb27
              go_wp2_with fail
              refine (sameInts_b _ _ r E _ D_w27.out E2_w27.out).mono ?_
              rintro e w28 ⟨rfl, hb28⟩
              have HBw28 := hid (HBw27.out.trans (hb28.mono HBw27.out.size))
              have L_w28 := hid (L_w27.out.keep hb28)
              have D_w28 := hid (D_w27.out.keep hb28)
              have E1_w28 := hid (E1_w27.out.keep hb28)
              have E2_w28 := hid (E2_w27.out.keep hb28)
              have N_w28 := hid (N_w27.out.keep hb28)
              have S_w28 := hid (S_w27.out.keep hb28)
              clear hb28
              rw [HB3.out]
              cases B3
              · have hj3 : ¬ (j < 1) := by omega
                go_wp2
                go_ret
                exact ⟨rfl, HBw28.out⟩
              · have hj3 : ¬ (j < 1) := by omega
                go_wp2
                go_ret
                exact ⟨rfl, HBw28.out⟩
        · have HCM := hid (hcm rfl)
          clear hcm
          go_wp2_with fail
          refine (sameInts_y _ _ Z _ X_w11.out S_w11.out).mono ?_
          rintro e w12 ⟨rfl, hb12⟩
          have HBw12 := hid (HBw11.out.trans (hb12.mono HBw11.out.size))
          have R1_w12 := hid (R1_w11.out.keep hb12)
          have L_w12 := hid (L_w11.out.keep hb12)
          have A_w12 := hid (A_w11.out.keep hb12)
          have B_w12 := hid (B_w11.out.keep hb12)
          have X_w12 := hid (X_w11.out.keep hb12)
          have S_w12 := hid (S_w11.out.keep hb12)
          clear hb12
          go_wp2_with fail
          refine ((iAddPiles_u m2 _ K s _ b _ a _ L_w12.out B_w12.out A_w12.out).mono fun e w' h => h.lp HCM.out).mono ?_
          rintro e w13 ⟨a13, n13, c13, rfl, hp13, hb13⟩
          have HBw13 := hid (HBw12.out.trans (hb13.mono HBw12.out.size))
          have R1_w13 := hid (R1_w12.out.keep hb13)
          have L_w13 := hid (L_w12.out.keep hb13)
          have A_w13 := hid (A_w12.out.keep hb13)
          have B_w13 := hid (B_w12.out.keep hb13)
          have X_w13 := hid (X_w12.out.keep hb13)
          have S_w13 := hid (S_w12.out.keep hb13)
          have Y_w13 := hid hp13
          clear hb13 hp13
          go_wp2_with fail
          refine (sameInts_y _ _ Z _ Y_w13.out S_w13.out).mono ?_
          rintro e w14 ⟨rfl, hb14⟩
          have HBw14 := hid (HBw13.out.trans (hb14.mono HBw13.out.size))
          have R1_w14 := hid (R1_w13.out.keep hb14)
          have L_w14 := hid (L_w13.out.keep hb14)
          have A_w14 := hid (A_w13.out.keep hb14)
          have B_w14 := hid (B_w13.out.keep hb14)
          have X_w14 := hid (X_w13.out.keep hb14)
          have S_w14 := hid (S_w13.out.keep hb14)
          have Y_w14 := hid (Y_w13.out.keep hb14)
          clear hb14
          as_aux_lemma =>
            go_wp2_with fail
            refine (DrawOppositePile_c _ x1 _ R1_w14.out).mono ?_
            rintro e w15 ⟨g, vM, M, z, vr, r, rfl, hg1, hg9, hml, hrl, hM, hR, hb15⟩
            have HBw15 := hid (HBw14.out.trans (hb15.mono HBw14.out.size))
            have L_w15 := hid hM
            have D_w15 := hid hR
            obtain ⟨am, cm, rfl⟩ := hM.form
            obtain ⟨ar, nr, cr, rfl⟩ := hR.form3
            clear hb15 hM hR
            cases t3 : piRB g M z r
            · obtain ⟨ho, hq, hi⟩ := opp_no t3
              have HO := hid ho
              have HQ := hid hq
              obtain ⟨i1, i2, hii⟩ : ∃ i1 i2, isrB g M z r = (i1, i2) := ⟨_, _, rfl⟩
              rw [hii] at hi
              have HI := hid hii
              have hi : (i2 && i1) = false := hi
              clear t3 ho hq hii
              go_wp2_with fail
              refine ((iOppositePile_u g _ M z _ r _ L_w15.out D_w15.out).mono fun e w' h => h.lp HO.out).mono ?_
              rintro e w16 ⟨a16, n16, c16, rfl, hp16, hb16⟩
              have HBw16 := hid (HBw15.out.trans (hb16.mono HBw15.out.size))
              have L_w16 := hid (L_w15.out.keep hb16)
              have D_w16 := hid (D_w15.out.keep hb16)
              have O1_w16 := hid hp16
              clear hb16 hp16
              go_wp2_with fail
              refine ((sOppositePile_u g _ M z _ r _ L_w16.out D_w16.out).mono fun e w' h => h.lp HO.out).mono ?_
              rintro e w17 ⟨a17, n17, c17, rfl, hp17, hb17⟩
              have HBw17 := hid (HBw16.out.trans (hb17.mono HBw16.out.size))
              have L_w17 := hid (L_w16.out.keep hb17)
              have D_w17 := hid (D_w16.out.keep hb17)
              have O1_w17 := hid (O1_w16.out.keep hb17)
              have O2_w17 := hid hp17
              clear hb17 hp17
              go_wp2_with fail
              refine ((iOrderOfPile_u g _ M z _ r _ L_w17.out D_w17.out).mono fun e w' h => h.lp HQ.out).mono ?_
              rintro e w18 ⟨rfl, hb18⟩
              have HBw18 := hid (HBw17.out.trans (hb18.mono HBw17.out.size))
              have L_w18 := hid (L_w17.out.keep hb18)
              have D_w18 := hid (D_w17.out.keep hb18)
              have O1_w18 := hid (O1_w17.out.keep hb18)
              have O2_w18 := hid (O2_w17.out.keep hb18)
              clear hb18
              go_wp2_with fail
              refine ((sOrderOfPile_u g _ M z _ r _ L_w18.out D_w18.out).mono fun e w' h => h.lp HQ.out).mono ?_
              rintro e w19 ⟨rfl, hb19⟩
              have HBw19 := hid (HBw18.out.trans (hb19.mono HBw18.out.size))
              have L_w19 := hid (L_w18.out.keep hb19)
              have D_w19 := hid (D_w18.out.keep hb19)
              have O1_w19 := hid (O1_w18.out.keep hb19)
              have O2_w19 := hid (O2_w18.out.keep hb19)
              clear hb19
              go_wp2_with fail
              refine ((iIsRecurrent_u g _ M z _ r _ L_w19.out D_w19.out).mono fun e w' h => h.lp HI.out).mono ?_
              rintro e w20 ⟨rfl, hb20⟩
              have HBw20 := hid (HBw19.out.trans (hb20.mono HBw19.out.size))
              have L_w20 := hid (L_w19.out.keep hb20)
              have D_w20 := hid (D_w19.out.keep hb20)
              have O1_w20 := hid (O1_w19.out.keep hb20)
              have O2_w20 := hid (O2_w19.out.keep hb20)
              clear hb20
              go_wp2_with fail
              refine ((sIsRecurrent_u g _ M z _ r _ L_w20.out D_w20.out).mono fun e w' h => h.lp HI.out).mono ?_
              rintro e w21 ⟨rfl, hb21⟩
              have HBw21 := hid (HBw20.out.trans (hb21.mono HBw20.out.size))
              have L_w21 := hid (L_w20.out.keep hb21)
              have D_w21 := hid (D_w20.out.keep hb21)
              have O1_w21 := hid (O1_w20.out.keep hb21)
              have O2_w21 := hid (O2_w20.out.keep hb21)
              clear hb21
              cases i1 <;> cases i2
              all_goals try (exfalso; simp at hi; done)
              all_goals
                go_wp2_with fail
                refine (sameInts_y _ _ [] _ O1_w21.out O2_w21.out).mono ?_
                rintro e w22 ⟨rfl, hb22⟩
                have HBw22 := hid (HBw21.out.trans (hb22.mono HBw21.out.size))
                have L_w22 := hid (L_w21.out.keep hb22)
                have D_w22 := hid (D_w21.out.keep hb22)
                have O1_w22 := hid (O1_w21.out.keep hb22)
                have O2_w22 := hid (O2_w21.out.keep hb22)
                clear hb22
                go_wp2
                go_ret
                exact ⟨rfl, HBw22.out⟩
            · obtain ⟨m3, k3, hm3, hk3, _⟩ := piRB_parts t3
              subst hm3
              subst hk3
              obtain ⟨o, E, j, ho, hq, hi, he, hn, hs, hj1, hj⟩ := opp_yes t3
              have HO := hid ho
              have HQ := hid hq
              have HI := hid hi
              have HE := hid he
              have HN := hid hn
              have HS := hid hs
              obtain ⟨B3, hB3⟩ : ∃ B3, decide (r = E) = B3 := ⟨_, rfl⟩
              rw [hB3] at hj
              have HB3 := hid hB3
              have hj2 : (j == 1) = B3 := by rw [← hj, Bool.beq_eq_decide_eq]
              clear t3 ho hq hi he hn hs hB3 hj
              go_wp2_with fail
              refine ((iOppositePile_u (m3 : Int) _ M (k3 : Int) _ r _ L_w15.out D_w15.out).mono fun e w' h => h.lp HO.out).mono ?_
              rintro e w16 ⟨a16, n16, c16, rfl, hp16, hb16⟩
              have HBw16 := hid (HBw15.out.trans (hb16.mono HBw15.out.size))
              have L_w16 := hid (L_w15.out.keep hb16)
              have D_w16 := hid (D_w15.out.keep hb16)
              have O1_w16 := hid hp16
              clear hb16 hp16
              go_wp2_with fail
              refine ((sOppositePile_u (m3 : Int) _ M (k3 : Int) _ r _ L_w16.out D_w16.out).mono fun e w' h => h.lp HO.out).mono ?_
              rintro e w17 ⟨a17, n17, c17, rfl, hp17, hb17⟩
              have HBw17 := hid (HBw16.out.trans (hb17.mono HBw16.out.size))
              have L_w17 := hid (L_w16.out.keep hb17)
              have D_w17 := hid (D_w16.out.keep hb17)
              have O1_w17 := hid (O1_w16.out.keep hb17)
              have O2_w17 := hid hp17
              clear hb17 hp17
              go_wp2_with fail
              refine ((iOrderOfPile_u (m3 : Int) _ M (k3 : Int) _ r _ L_w17.out D_w17.out).mono fun e w' h => h.lp HQ.out).mono ?_
              rintro e w18 ⟨rfl, hb18⟩
              have HBw18 := hid (HBw17.out.trans (hb18.mono HBw17.out.size))
              have L_w18 := hid (L_w17.out.keep hb18)
              have D_w18 := hid (D_w17.out.keep hb18)
              have O1_w18 := hid (O1_w17.out.keep hb18)
              have O2_w18 := hid (O2_w17.out.keep hb18)
              clear hb18
              go_wp2_with fail
              refine ((sOrderOfPile_u (m3 : Int) _ M (k3 : Int) _ r _ L_w18.out D_w18.out).mono fun e w' h => h.lp HQ.out).mono ?_
              rintro e w19 ⟨rfl, hb19⟩
              have HBw19 := hid (HBw18.out.trans (hb19.mono HBw18.out.size))
              have L_w19 := hid (L_w18.out.keep hb19)
              have D_w19 := hid (D_w18.out.keep hb19)
              have O1_w19 := hid (O1_w18.out.keep hb19)
              have O2_w19 := hid (O2_w18.out.keep hb19)
              clear hb19
              go_wp2_with fail
              refine ((iIsRecurrent_u (m3 : Int) _ M (k3 : Int) _ r _ L_w19.out D_w19.out).mono fun e w' h => h.lp HI.out).mono ?_
              rintro e w20 ⟨rfl, hb20⟩
              have HBw20 := hid (HBw19.out.trans (hb20.mono HBw19.out.size))
              have L_w20 := hid (L_w19.out.keep hb20)
              have D_w20 := hid (D_w19.out.keep hb20)
              have O1_w20 := hid (O1_w19.out.keep hb20)
              have O2_w20 := hid (O2_w19.out.keep hb20)
              clear hb20
              go_wp2_with fail
              refine ((sIsRecurrent_u (m3 : Int) _ M (k3 : Int) _ r _ L_w20.out D_w20.out).mono fun e w' h => h.lp HI.out).mono ?_
              rintro e w21 ⟨rfl, hb21⟩
              have HBw21 := hid (HBw20.out.trans (hb21.mono HBw20.out.size))
              have L_w21 := hid (L_w20.out.keep hb21)
              have D_w21 := hid (D_w20.out.keep hb21)
              have O1_w21 := hid (O1_w20.out.keep hb21)
              have O2_w21 := hid (O2_w20.out.keep hb21)
              clear hb21
              go_wp2_with fail
              refine (sameInts_y _ _ o _ O1_w21.out O2_w21.out).mono ?_
              rintro e w22 ⟨rfl, hb22⟩
              have HBw22 := hid (HBw21.out.trans (hb22.mono HBw21.out.size))
              have L_w22 := hid (L_w21.out.keep hb22)
              have D_w22 := hid (D_w21.out.keep hb22)
              have O1_w22 := hid (O1_w21.out.keep hb22)
              have O2_w22 := hid (O2_w21.out.keep hb22)
              clear hb22
              go_wp2_with fail
              refine ((iIdentityPile_u (m3 : Int) _ M (k3 : Int) _ L_w22.out).mono fun e w' h => h.lp HE.out).mono ?_
              rintro e w23 ⟨a23, n23, c23, rfl, hp23, hb23⟩
              have HBw23 := hid (HBw22.out.trans (hb23.mono HBw22.out.size))
              have L_w23 := hid (L_w22.out.keep hb23)
              have D_w23 := hid (D_w22.out.keep hb23)
              have O1_w23 := hid (O1_w22.out.keep hb23)
              have E1_w23 := hid hp23
              clear hb23 hp23
              go_wp2_with fail
              refine ((sIdentityPile_u (m3 : Int) _ M (k3 : Int) _ L_w23.out).mono fun e w' h => h.lp HE.out).mono ?_
              rintro e w24 ⟨a24, n24, c24, rfl, hp24, hb24⟩
              have HBw24 := hid (HBw23.out.trans (hb24.mono HBw23.out.size))
              have L_w24 := hid (L_w23.out.keep hb24)
              have D_w24 := hid (D_w23.out.keep hb24)
              have O1_w24 := hid (O1_w23.out.keep hb24)
              have E1_w24 := hid (E1_w23.out.keep hb24)
              have E2_w24 := hid hp24
              clear hb24 hp24
              go_wp2_with fail
              refine ((iAddPiles_u (m3 : Int) _ M (k3 : Int) _ r _ o _ L_w24.out D_w24.out O1_w24.out).mono fun e w' h => h.lp HN.out).mono ?_
              rintro e w25 ⟨a25, n25, c25, rfl, hp25, hb25⟩
              have HBw25 := hid (HBw24.out.trans (hb25.mono HBw24.out.size))
              have L_w25 := hid (L_w24.out.keep hb25)
              have D_w25 := hid (D_w24.out.keep hb25)
              have O1_w25 := hid (O1_w24.out.keep hb25)
              have E1_w25 := hid (E1_w24.out.keep hb25)
              have E2_w25 := hid (E2_w24.out.keep hb25)
              have N_w25 := hid hp25
              clear hb25 hp25
              go_wp2_with fail
              refine ((iAddPiles_u (m3 : Int) _ M (k3 : Int) _ r _ E _ L_w25.out D_w25.out E1_w25.out).mono fun e w' h => h.lp HS.out).mono ?_
              rintro e w26 ⟨a26, n26, c26, rfl, hp26, hb26⟩
              have HBw26 := hid (HBw25.out.trans (hb26.mono HBw25.out.size))
              have L_w26 := hid (L_w25.out.keep hb26)
              have D_w26 := hid (D_w25.out.keep hb26)
              have O1_w26 := hid (O1_w25.out.keep hb26)
              have E1_w26 := hid (E1_w25.out.keep hb26)
              have E2_w26 := hid (E2_w25.out.keep hb26)
              have N_w26 := hid (N_w25.out.keep hb26)
              have S_w26 := hid hp26
              clear hb26 hp26
              go_wp2_with fail
              refine (sameInts_y _ _ E _ E1_w26.out E2_w26.out).mono ?_
              rintro e w27 ⟨rfl, hb27⟩
              have HBw27 := hid (HBw26.out.trans (hb27.mono HBw26.out.size))
              have L_w27 := hid (L_w26.out.keep hb27)
              have D_w27 := hid (D_w26.out.keep hb27)
              have E1_w27 := hid (E1_w26.out.keep hb27)
              have E2_w27 := hid (E2_w26.out.keep hb27)
              have N_w27 := hid (N_w26.out.keep hb27)
              have S_w27 := hid (S_w26.out.keep hb27)
              clear hb27
              go_wp2_with fail
              refine (sameInts_y _ _ E _ N_w27.out E2_w27.out).mono ?_
              rintro e w28 ⟨rfl, hb28⟩
              have HBw28 := hid (HBw27.out.trans (hb28.mono HBw27.out.size))
              have L_w28 := hid (L_w27.out.keep hb28)
              have D_w28 := hid (D_w27.out.keep hb28)
              have E1_w28 := hid (E1_w27.out.keep hb28)
              have E2_w28 := hid (E2_w27.out.keep hb28)
              have N_w28 := hid (N_w27.out.keep hb28)
              have S_w28 := hid (S_w27.out.keep hb28)
              clear hb28
              go_wp2_with fail
              refine (sameInts_y _ _ r _ S_w28.out D_w28.out).mono ?_
              rintro e w29 ⟨rfl, hb29⟩
              have HBw29 := hid (HBw28.out.trans (hb29.mono HBw28.out.size))
              have L_w29 := hid (L_w28.out.keep hb29)
              have D_w29 := hid (D_w28.out.keep hb29)
              have E1_w29 := hid (E1_w28.out.keep hb29)
              have E2_w29 := hid (E2_w28.out.keep hb29)
              have N_w29 := hid (N_w28.out.keep hb29)
              have S_w29 := hid (S_w28.out.keep hb29)
              clear hb29
              go_wp2_with fail
              refine (sameInts_b _ _ r E _ D_w29.out E2_w29.out).mono ?_
              rintro e w30 ⟨rfl, hb30⟩
              have HBw30 := hid (HBw29.out.trans (hb30.mono HBw29.out.size))
              have L_w30 := hid (L_w29.out.keep hb30)
              have D_w30 := hid (D_w29.out.keep hb30)
              have E1_w30 := hid (E1_w29.out.keep hb30)
              have E2_w30 := hid (E2_w29.out.keep hb30)
              have N_w30 := hid (N_w29.out.keep hb30)
              have S_w30 := hid (S_w29.out.keep hb30)
              clear hb30
              rw [HB3.out]
              cases B3
              · have hj3 : ¬ (j < 1) := by omega
                go_wp2
                go_ret
                exact ⟨rfl, HBw30.out⟩
              · have hj3 : ¬ (j < 1) := by omega
                go_wp2
                go_ret
                exact ⟨rfl, HBw30.out⟩

set_option maxRecDepth 100000 in
theorem fnPiles_lifted (os : Os) (started : os.Started) (H : Type) (enc : TypeId × Value → H) :
    ReturnsInHanded {} Try.checked os 3 .any (Rows.fnPilesSpec.pre6 enc Try.prog Try.f3 Rows.fnPilesRow.domain false) (Rows.fnPilesSpec.post enc Try.prog Try.f3 false true false false) := by
  refine returnsInHanded_of_change (C := Try.checked) Try.own' started (by kernel_rfl) Try.func3
    (ChangeSpec.witness6 (enc := enc) (C := Try.checked) false ⟨#[], #[.slice none 0 0, .slice none 0 0], []⟩ 8 (by kernel_rfl) (by kernel_rfl) (by kernel_rfl) (by kernel_rfl)) ?_
  intro W base args ds gs before hval0 hW hcnd _
  have hval : ∀ (j : Nat) t v, Try.f3.params[j]? = some t → args[j]? = some v → Value.okWide Try.prog W .any base t v := hval0
  have hW' := hW
  obtain ⟨p, q, hA0, hV, rfl, hfz, hnd⟩ := hW
  have hA : DataW.TrodAll enc Try.prog W 0 (fun _ => true) true Try.f3.params.toList args.toList ds p := hA0
  rw [Try.params3] at hA hval
  obtain ⟨v0, vs0, d0, ds0, p0, q0, hargs, rfl, rfl, h0, t0⟩ := trodAll_cons hA
  obtain ⟨v1, vs1, d1, ds1, p1, q1, rfl, rfl, rfl, h1, t1⟩ := trodAll_cons t0
  obtain ⟨rfl, rfl, rfl⟩ := trodAll_nil t1
  obtain rfl : args = #[v0, v1] := by cases args; simp_all
  obtain ⟨rfl, rfl⟩ := trodVars_none hV
  have k0 := h0
  have lt0 := trod_blocks k0
  obtain ⟨x0, r0, i0⟩ := open_rbytes (hval 0 22 v0 rfl rfl) h0
  have k1 := h1
  have lt1 := trod_blocks k1
  obtain ⟨x1, r1, i1⟩ := open_rbytes (hval 1 22 v1 rfl rfl) h1
  clear hA0 hval0
  refine (FnPiles_c v0 x0 v1 x1 W r0 r1).mono fun e W' ⟨he, bel⟩ => ?_
  subst he
  exact ⟨_, rfl, _, _, _, [], _, [], hW', trodAll_mk1 (shut_bool Try.underlying4 _), (trodAll_cons_mk (Below.trod Try.laidOut' (by kernel_rfl) (of_decide_eq_true (by kernel_rfl)) k0 bel lt0) (trodAll_cons_mk (Below.trod Try.laidOut' (by kernel_rfl) (of_decide_eq_true (by kernel_rfl)) k1 bel lt1) trodAll_mk0)), rfl, bel.frame _, fun h => by cases h⟩

theorem fnPiles_holds : Rows.FnPilesSaid :=
  OpenClaim.holds_of_wide 3 Try.f3 rfl rfl rfl rfl rfl rfl rfl ⟨rfl, rfl, rfl, rfl, rfl⟩ rfl rfl rfl rfl rfl (by kernel_rfl) Try.func3 (by kernel_rfl)
    (of_decide_eq_true (by kernel_rfl)) (by unfold Func.isWrapper; first | (rw [if_pos (by decide +kernel)]; kernel_rfl) | (rw [if_neg (by decide +kernel)]; exact ⟨rfl, rfl⟩))
    (fun os started H enc _ => fnPiles_lifted os started H enc)

end Go.Proofs.Ytifdhapaonideaa

