/- Sums of chips, debts, legal firings: both programs' (printed by wip/firegen3.py). -/
import Derived.Test.YtlehhfmbdcmpoaaFireQ
namespace Go.Proofs.Ytlehhfmbdcmpoaa
open Go.RowKit
open Go.Lib (hid)

theorem div_small {m : Nat} {L : List Lnk} {d : List Int} (h : divB (m : Int) L d = true) (hm : m ≤ 8) : smallI d := by
  obtain ⟨k, _, hk, _, _, hl, _, ha⟩ := divB_parts h
  exact ⟨by omega, fun x hx => by have := allB_mem ha x hx; omega⟩
set_option maxRecDepth 100000 in
set_option maxHeartbeats 4000000 in
theorem sChipSum_u (n : Int) (v u : Value) (L : List Lnk) (d : List Int) (w : World) (h : RLinks w v L) (hd : RInts w u d) :
    Calls Try.prog 24 #[.int .i64 n, v, u] w (RetZB w (cspB n L d)) := by
  have HR := hid h
  have HD := hid hd
  obtain ⟨a, cap, rfl⟩ := h.form
  rcases Bool.eq_false_or_eq_true (divB n L d) with t | t
  · obtain ⟨m, hm, rfl, hG, _, hdl, hdb, _⟩ := divB_parts t
    have hm8 := hG.n8
    have hm1 := hG.n1
    have hm2 : ((m : Int)).toNat = m := by omega
    have HT := hid t
    have HE : Hid (cspB (m : Int) L d = (d.sum, true)) := by show _ = _; unfold cspB; rw [HT.out]; rfl
    have HSM := hid (div_small t hm8)
    obtain ⟨a2, n2, cap2, rfl⟩ : ∃ a n c, u = .slice a n c := by obtain ⟨a, cap, rfl, _⟩ := hd; exact ⟨_, _, _, rfl⟩
    clear h hd hdb hdl hm
    go_enter Try.func24, Try.ntmps24
    go_wp2_with fail
    refine (chBoth_c (m : Int) _ _ L d _ HR.out HD.out).mono ?_
    rintro e w1 ⟨rfl, hb1⟩
    have HBw1 := hid hb1
    clear hb1
    rw [HT.out]
    go_wp2_with fail
    refine (chSum_c _ d _ (HD.out.keep HBw1.out) HSM.out).mono ?_
    rintro e w' ⟨rfl, rfl⟩
    go_wp2
    go_ret2
    exact ⟨by rw [HE.out]; rfl, HBw1.out⟩
  · have HE : Hid (cspB n L d = (0, false)) := by show _ = _; unfold cspB; rw [t]; rfl
    obtain ⟨a2, n2, cap2, rfl⟩ : ∃ a n c, u = .slice a n c := by obtain ⟨a, cap, rfl, _⟩ := hd; exact ⟨_, _, _, rfl⟩
    clear h hd
    go_enter Try.func24, Try.ntmps24
    go_wp2_with fail
    refine (chBoth_c n _ _ L d _ HR.out HD.out).mono ?_
    rintro e w1 ⟨rfl, hb1⟩
    have HBw1 := hid hb1
    clear hb1
    rw [t]
    go_wp2
    go_ret2
    exact ⟨by rw [HE.out]; rfl, HBw1.out⟩
set_option maxRecDepth 100000 in
set_option maxHeartbeats 4000000 in
theorem iChipSum_u (n : Int) (v u : Value) (L : List Lnk) (d : List Int) (w : World) (h : RLinks w v L) (hd : RInts w u d) :
    Calls Try.prog 23 #[.int .i64 n, v, u] w (RetZB w (cspB n L d)) := by
  have HR := hid h
  have HD := hid hd
  obtain ⟨a, cap, rfl⟩ := h.form
  rcases Bool.eq_false_or_eq_true (divB n L d) with t | t
  · obtain ⟨m, hm, rfl, hG, _, hdl, hdb, _⟩ := divB_parts t
    have hm8 := hG.n8
    have hm1 := hG.n1
    have hm2 : ((m : Int)).toNat = m := by omega
    have HT := hid t
    have HE : Hid (cspB (m : Int) L d = (d.sum, true)) := by show _ = _; unfold cspB; rw [HT.out]; rfl
    have HSM := hid (div_small t hm8)
    obtain ⟨a2, n2, cap2, rfl⟩ : ∃ a n c, u = .slice a n c := by obtain ⟨a, cap, rfl, _⟩ := hd; exact ⟨_, _, _, rfl⟩
    clear h hd hdb hdl hm
    go_enter Try.func23, Try.ntmps23
    go_wp2_with fail
    refine (withDiv_yes m _ _ L d _ HR.out HD.out HT.out).mono ?_
    rintro e w1 ⟨g, rfl, hg1, hb1⟩
    have HBw1 := hid hb1
    have G_w1 := hid hg1
    clear hb1 hg1
    go_wp2_with fail
    refine (total_c _ d _ (HD.out.keep HBw1.out) HSM.out).mono ?_
    rintro e w' ⟨rfl, rfl⟩
    go_wp2
    go_ret2
    exact ⟨by rw [HE.out]; rfl, HBw1.out⟩
  · have HE : Hid (cspB n L d = (0, false)) := by show _ = _; unfold cspB; rw [t]; rfl
    obtain ⟨a2, n2, cap2, rfl⟩ : ∃ a n c, u = .slice a n c := by obtain ⟨a, cap, rfl, _⟩ := hd; exact ⟨_, _, _, rfl⟩
    clear h hd
    go_enter Try.func23, Try.ntmps23
    go_wp2_with fail
    refine (withDiv_no n _ _ L d _ HR.out HD.out t).mono ?_
    rintro e w1 ⟨g, rfl, hb1⟩
    have HB1 := hid hb1
    clear hb1
    go_wp2
    go_ret2
    exact ⟨by rw [HE.out]; rfl, HB1.out⟩
set_option maxRecDepth 100000 in
set_option maxHeartbeats 4000000 in
theorem sDebtsOf_u (n : Int) (v u : Value) (L : List Lnk) (d : List Int) (w : World) (h : RLinks w v L) (hd : RInts w u d) :
    Calls Try.prog 29 #[.int .i64 n, v, u] w (RetIB w (dbtB n L d)) := by
  have HR := hid h
  have HD := hid hd
  obtain ⟨a, cap, rfl⟩ := h.form
  rcases Bool.eq_false_or_eq_true (divB n L d) with t | t
  · obtain ⟨m, hm, rfl, hG, _, hdl, hdb, _⟩ := divB_parts t
    have hm8 := hG.n8
    have hm1 := hG.n1
    have hm2 : ((m : Int)).toNat = m := by omega
    have HT := hid t
    have HDL := hid (rints_lst HD.out hdl)
    obtain ⟨f, hf⟩ : ∃ f : Nat → Int, (fun i => d.getD i 0) = f := ⟨_, rfl⟩
    have HE : Hid (dbtB (m : Int) L d = (setL (fun v => decide (f v < 0)) m, true)) := by show _ = _; unfold dbtB; rw [HT.out, hm2, ← hf]; rfl
    rw [hf] at HDL
    obtain ⟨gd, od, cd, rfl, _, _, hdc⟩ := ri_open HDL.out (by omega)
    have HDC := hid hdc
    clear h hd hdb hdl hm hf hdc
    obtain ⟨p, hp⟩ : ∃ p : Nat → Bool, (fun v => decide (f v < 0)) = p := ⟨_, rfl⟩
    have HPP : Hid (∀ i, p i = decide (f i < 0)) := fun i => by rw [← hp]
    rw [hp] at HE
    clear hp
    go_enter Try.func29, Try.ntmps29
    go_wp2_with fail
    refine (chBoth_c (m : Int) _ _ L d _ HR.out HD.out).mono ?_
    rintro e w1 ⟨rfl, hb1⟩
    have HBw1 := hid hb1
    clear hb1
    rw [HT.out]
    go_wp2
    go_loopg [8, 18] m (fun gk out iv wr => ∃ (i : Nat) (a : Option Addr) (k c : Nat), out = .slice a k c ∧ iv = .int .i64 i ∧ i ≤ m ∧ gk = m - i ∧ k ≤ i ∧ (setL p i).length = k ∧ FInts wr w1.heap.size wr.heap.size (.slice a k c) (setL p i) ∧ Below w1.heap.size w1 wr)
    case atStart => exact ⟨0, none, 0, 0, rfl, rfl, Nat.zero_le _, rfl, Nat.le_refl _, rfl, ints_nil _ _ _, Below.refl _ _⟩
    case round =>
      obtain ⟨i, a3, k3, c3, rfl, rfl, hi, rfl, hki, hlk, hF, hb⟩ := hrel
      obtain ⟨wr, rfl⟩ : ∃ w' : World, w' = wr := ⟨_, rfl⟩
      have HFW := hid hF
      have HBV := hid hb
      have HLK := hid hlk
      have HBA := hid (HBw1.out.trans (hb.mono HBw1.out.size))
      clear hF hb hlk
      by_cases hlt : i < m
      · have hltz : (i : Int) < (m : Int) := by omega
        have hkm : k3 ≤ 1048576 := by omega
        have e1 := (HBA.out.cell (p := ⟨gd, od + i, none⟩) (cell_lt (HDC.out i hlt))).trans (HDC.out i hlt)
        obtain ⟨x, hx⟩ : ∃ x, f i = x := ⟨_, rfl⟩
        rw [hx] at e1
        have hpi : p i = decide (x < 0) := by rw [HPP.out, hx]
        clear hx
        by_cases tb : x < 0
        · have HX : Hid (setL p i ++ [(i : Int)] = setL p (i + 1)) := by show _ = _; rw [setL_succ_yes (hpi.trans (decide_eq_true tb))]
          have tb2 : decide (x < 0) = true := decide_eq_true tb
          clear hpi
          go_wp2_with (at_builtin; (refine wpList_push_r (W0 := w1) rfl _ _ rfl w1.heap.size (.slice a3 k3 c3) (setL p i) (i : Int) rfl rfl HFW.out HBV.out HBV.out.size k3 HLK hkm _ HX ?_; intro g7 c7 w7 hF7 hb7; have HF7 := hid hF7; have HB7 := hid hb7; clear hF7 hb7))
          go_roundg (m - (i + 1))
          case rel => exact ⟨i + 1, _, k3 + 1, _, rfl, by go_num, by omega, rfl, by omega, by rw [← HX.out, List.length_append, HLK.out]; rfl, HF7.out, HB7.out⟩
          case measure => omega
        · have HX : Hid (setL p (i + 1) = setL p i) := by show _ = _; rw [setL_succ_no (hpi.trans (decide_eq_false tb))]
          have tb2 : decide (x < 0) = false := decide_eq_false tb
          clear hpi
          go_wp2
          go_roundg (m - (i + 1))
          case rel => exact ⟨i + 1, _, k3, _, rfl, by go_num, by omega, rfl, by omega, by rw [HX.out]; exact HLK.out, by rw [HX.out]; exact HFW.out, HBV.out⟩
          case measure => omega
      · obtain rfl : i = m := by omega
        go_wp2
        go_ret2
        exact ⟨_, by rw [HE.out]; rfl, by rw [HE.out]; exact HFW.out.mono HBw1.out.size (Nat.le_refl _), HBA.out⟩
  · have HE : Hid (dbtB n L d = ([], false)) := by show _ = _; unfold dbtB; rw [t]; rfl
    obtain ⟨a2, n2, cap2, rfl⟩ : ∃ a n c, u = .slice a n c := by obtain ⟨a, cap, rfl, _⟩ := hd; exact ⟨_, _, _, rfl⟩
    clear h hd
    go_enter Try.func29, Try.ntmps29
    go_wp2_with fail
    refine (chBoth_c n _ _ L d _ HR.out HD.out).mono ?_
    rintro e w1 ⟨rfl, hb1⟩
    have HBw1 := hid hb1
    clear hb1
    rw [t]
    go_wp2
    go_ret2
    exact ⟨_, by rw [HE.out]; rfl, by rw [HE.out]; exact ints_nil _ _ _, HBw1.out⟩
set_option maxRecDepth 100000 in
set_option maxHeartbeats 4000000 in
theorem iDebtsOf_u (n : Int) (v u : Value) (L : List Lnk) (d : List Int) (w : World) (h : RLinks w v L) (hd : RInts w u d) :
    Calls Try.prog 28 #[.int .i64 n, v, u] w (RetIB w (dbtB n L d)) := by
  have HR := hid h
  have HD := hid hd
  obtain ⟨a, cap, rfl⟩ := h.form
  rcases Bool.eq_false_or_eq_true (divB n L d) with t | t
  · obtain ⟨m, hm, rfl, hG, _, hdl, hdb, _⟩ := divB_parts t
    have hm8 := hG.n8
    have hm1 := hG.n1
    have hm2 : ((m : Int)).toNat = m := by omega
    have HT := hid t
    have HDL := hid (rints_lst HD.out hdl)
    obtain ⟨f, hf⟩ : ∃ f : Nat → Int, (fun i => d.getD i 0) = f := ⟨_, rfl⟩
    have HE : Hid (dbtB (m : Int) L d = (setL (fun v => decide (f v < 0)) m, true)) := by show _ = _; unfold dbtB; rw [HT.out, hm2, ← hf]; rfl
    rw [hf] at HDL
    obtain ⟨gd, od, cd, rfl, _, _, hdc⟩ := ri_open HDL.out (by omega)
    have HDC := hid hdc
    clear h hd hdb hdl hm hf hdc
    obtain ⟨p, hp⟩ : ∃ p : Nat → Bool, (fun v => decide (f v < 0)) = p := ⟨_, rfl⟩
    have HPP : Hid (∀ i, p i = decide (f i < 0)) := fun i => by rw [← hp]
    rw [hp] at HE
    clear hp
    go_enter Try.func28, Try.ntmps28
    go_wp2_with fail
    refine (withDiv_yes m _ _ L d _ HR.out HD.out HT.out).mono ?_
    rintro e w1 ⟨g, rfl, hg1, hb1⟩
    have HBw1 := hid hb1
    have G_w1 := hid hg1
    clear hb1 hg1
    have hal : Below w1.heap.size w1 (w1.alloc (.cells #[] 3)) := (Below.refl _ _).alloc (Nat.le_refl _) _
    have HAL := hid hal
    have HE1 := hid (ints_empty w1 w1.heap.size (Nat.le_refl _))
    clear hal
    go_wp2
    go_loopg [10, 25] m (fun gk out iv wr => ∃ (i : Nat) (a : Option Addr) (k c : Nat), out = .slice a k c ∧ iv = .int .i64 i ∧ i ≤ m ∧ gk = m - i ∧ k ≤ i ∧ (setL p i).length = k ∧ FInts wr w1.heap.size wr.heap.size (.slice a k c) (setL p i) ∧ Below w1.heap.size w1 wr)
    case atStart => exact ⟨0, _, 0, 0, rfl, rfl, Nat.zero_le _, rfl, Nat.le_refl _, rfl, by have := HE1.out; exact this.mono (Nat.le_refl _) (by simp [World.size_alloc]), HAL.out⟩
    case round =>
      obtain ⟨i, a3, k3, c3, rfl, rfl, hi, rfl, hki, hlk, hF, hb⟩ := hrel
      obtain ⟨wr, rfl⟩ : ∃ w' : World, w' = wr := ⟨_, rfl⟩
      have HFW := hid hF
      have HBV := hid hb
      have HLK := hid hlk
      have HBA := hid (HBw1.out.trans (hb.mono HBw1.out.size))
      clear hF hb hlk
      by_cases hlt : i < m
      · have hltz : (i : Int) < (m : Int) := by omega
        have hkm : k3 ≤ 1048576 := by omega
        have e1 := (HBA.out.cell (p := ⟨gd, od + i, none⟩) (cell_lt (HDC.out i hlt))).trans (HDC.out i hlt)
        obtain ⟨x, hx⟩ : ∃ x, f i = x := ⟨_, rfl⟩
        rw [hx] at e1
        have hpi : p i = decide (x < 0) := by rw [HPP.out, hx]
        clear hx
        by_cases tb : x < 0
        · have HX : Hid (setL p i ++ [(i : Int)] = setL p (i + 1)) := by show _ = _; rw [setL_succ_yes (hpi.trans (decide_eq_true tb))]
          have tb2 : decide (x < 0) = true := decide_eq_true tb
          clear hpi
          go_wp2_with (at_builtin; (refine wpList_push_r (W0 := w1) rfl _ _ rfl w1.heap.size (.slice a3 k3 c3) (setL p i) (i : Int) rfl rfl HFW.out HBV.out HBV.out.size k3 HLK hkm _ HX ?_; intro g7 c7 w7 hF7 hb7; have HF7 := hid hF7; have HB7 := hid hb7; clear hF7 hb7))
          go_roundg (m - (i + 1))
          case rel => exact ⟨i + 1, _, k3 + 1, _, rfl, by go_num, by omega, rfl, by omega, by rw [← HX.out, List.length_append, HLK.out]; rfl, HF7.out, HB7.out⟩
          case measure => omega
        · have HX : Hid (setL p (i + 1) = setL p i) := by show _ = _; rw [setL_succ_no (hpi.trans (decide_eq_false tb))]
          have tb2 : decide (x < 0) = false := decide_eq_false tb
          clear hpi
          go_wp2
          go_roundg (m - (i + 1))
          case rel => exact ⟨i + 1, _, k3, _, rfl, by go_num, by omega, rfl, by omega, by rw [HX.out]; exact HLK.out, by rw [HX.out]; exact HFW.out, HBV.out⟩
          case measure => omega
      · obtain rfl : i = m := by omega
        go_wp2
        go_ret2
        exact ⟨_, by rw [HE.out]; rfl, by rw [HE.out]; exact HFW.out.mono HBw1.out.size (Nat.le_refl _), HBA.out⟩
  · have HE : Hid (dbtB n L d = ([], false)) := by show _ = _; unfold dbtB; rw [t]; rfl
    obtain ⟨a2, n2, cap2, rfl⟩ : ∃ a n c, u = .slice a n c := by obtain ⟨a, cap, rfl, _⟩ := hd; exact ⟨_, _, _, rfl⟩
    clear h hd
    go_enter Try.func28, Try.ntmps28
    go_wp2_with fail
    refine (withDiv_no n _ _ L d _ HR.out HD.out t).mono ?_
    rintro e w1 ⟨g, rfl, hb1⟩
    have HB1 := hid hb1
    clear hb1
    go_wp2
    go_ret2
    exact ⟨_, by rw [HE.out]; rfl, by rw [HE.out]; exact ints_nil _ _ _, HB1.out⟩
set_option maxRecDepth 100000 in
set_option maxHeartbeats 4000000 in
theorem sLegalFirings_u (n : Int) (v u : Value) (L : List Lnk) (d : List Int) (w : World) (h : RLinks w v L) (hd : RInts w u d) :
    Calls Try.prog 31 #[.int .i64 n, v, u] w (RetIB w (lgfB n L d)) := by
  have HR := hid h
  have HD := hid hd
  obtain ⟨a, cap, rfl⟩ := h.form
  rcases Bool.eq_false_or_eq_true (divB n L d) with t | t
  · obtain ⟨m, hm, rfl, hG, _, hdl, hdb, _⟩ := divB_parts t
    have hm8 := hG.n8
    have hm1 := hG.n1
    have hm2 : ((m : Int)).toNat = m := by omega
    have HT := hid t
    have HDL := hid (rints_lst HD.out hdl)
    obtain ⟨f, hf⟩ : ∃ f : Nat → Int, (fun i => d.getD i 0) = f := ⟨_, rfl⟩
    have HE : Hid (lgfB (m : Int) L d = (setL (fun v => decide (valV m L v ≤ f v)) m, true)) := by show _ = _; unfold lgfB; rw [HT.out, hm2, ← hf]; rfl
    rw [hf] at HDL
    obtain ⟨gd, od, cd, rfl, _, _, hdc⟩ := ri_open HDL.out (by omega)
    have HDC := hid hdc
    clear h hd hdb hdl hm hf hdc
    obtain ⟨p, hp⟩ : ∃ p : Nat → Bool, (fun v => decide (valV m L v ≤ f v)) = p := ⟨_, rfl⟩
    have HPP : Hid (∀ i, p i = decide (valV m L i ≤ f i)) := fun i => by rw [← hp]
    rw [hp] at HE
    clear hp
    go_enter Try.func31, Try.ntmps31
    go_wp2_with fail
    refine (chBoth_c (m : Int) _ _ L d _ HR.out HD.out).mono ?_
    rintro e w1 ⟨rfl, hb1⟩
    have HBw1 := hid hb1
    clear hb1
    rw [HT.out]
    go_wp2_with fail
    refine (chValences_c m _ L _ (HR.out.keep HBw1.out) hG).mono ?_
    rintro e w2 ⟨uv, rfl, hv2, hb2⟩
    have HBw2 := hid (HBw1.out.trans (hb2.mono HBw1.out.size))
    have V_w2 := hid hv2.r 
    clear hb2
    clear hv2
    obtain ⟨gv, ov, cv, rfl, _, _, hvc⟩ := ri_open V_w2.out (by omega)
    have HVC := hid hvc
    clear hvc
    go_wp2
    go_loopg [8, 20] m (fun gk out iv wr => ∃ (i : Nat) (a : Option Addr) (k c : Nat), out = .slice a k c ∧ iv = .int .i64 i ∧ i ≤ m ∧ gk = m - i ∧ k ≤ i ∧ (setL p i).length = k ∧ FInts wr w2.heap.size wr.heap.size (.slice a k c) (setL p i) ∧ Below w2.heap.size w2 wr)
    case atStart => exact ⟨0, none, 0, 0, rfl, rfl, Nat.zero_le _, rfl, Nat.le_refl _, rfl, ints_nil _ _ _, Below.refl _ _⟩
    case round =>
      obtain ⟨i, a3, k3, c3, rfl, rfl, hi, rfl, hki, hlk, hF, hb⟩ := hrel
      obtain ⟨wr, rfl⟩ : ∃ w' : World, w' = wr := ⟨_, rfl⟩
      have HFW := hid hF
      have HBV := hid hb
      have HLK := hid hlk
      have HBA := hid (HBw2.out.trans (hb.mono HBw2.out.size))
      clear hF hb hlk
      by_cases hlt : i < m
      · have hltz : (i : Int) < (m : Int) := by omega
        have hkm : k3 ≤ 1048576 := by omega
        have e1 := (HBA.out.cell (p := ⟨gd, od + i, none⟩) (cell_lt (HDC.out i hlt))).trans (HDC.out i hlt)
        have e2 := (HBV.out.cell (p := ⟨gv, ov + i, none⟩) (cell_lt (HVC.out i hlt))).trans (HVC.out i hlt)
        obtain ⟨z, hz⟩ : ∃ z, valV m L i = z := ⟨_, rfl⟩
        rw [hz] at e2
        obtain ⟨x, hx⟩ : ∃ x, f i = x := ⟨_, rfl⟩
        rw [hx] at e1
        have hpi : p i = decide (z ≤ x) := by rw [HPP.out, hx, hz]
        clear hx hz
        by_cases tb : z ≤ x
        · have HX : Hid (setL p i ++ [(i : Int)] = setL p (i + 1)) := by show _ = _; rw [setL_succ_yes (hpi.trans (decide_eq_true tb))]
          have tb2 : decide (z ≤ x) = true := decide_eq_true tb
          clear hpi
          go_wp2_with (at_builtin; (refine wpList_push_r (W0 := w2) rfl _ _ rfl w2.heap.size (.slice a3 k3 c3) (setL p i) (i : Int) rfl rfl HFW.out HBV.out HBV.out.size k3 HLK hkm _ HX ?_; intro g7 c7 w7 hF7 hb7; have HF7 := hid hF7; have HB7 := hid hb7; clear hF7 hb7))
          go_roundg (m - (i + 1))
          case rel => exact ⟨i + 1, _, k3 + 1, _, rfl, by go_num, by omega, rfl, by omega, by rw [← HX.out, List.length_append, HLK.out]; rfl, HF7.out, HB7.out⟩
          case measure => omega
        · have HX : Hid (setL p (i + 1) = setL p i) := by show _ = _; rw [setL_succ_no (hpi.trans (decide_eq_false tb))]
          have tb2 : decide (z ≤ x) = false := decide_eq_false tb
          clear hpi
          go_wp2
          go_roundg (m - (i + 1))
          case rel => exact ⟨i + 1, _, k3, _, rfl, by go_num, by omega, rfl, by omega, by rw [HX.out]; exact HLK.out, by rw [HX.out]; exact HFW.out, HBV.out⟩
          case measure => omega
      · obtain rfl : i = m := by omega
        go_wp2
        go_ret2
        exact ⟨_, by rw [HE.out]; rfl, by rw [HE.out]; exact HFW.out.mono HBw2.out.size (Nat.le_refl _), HBA.out⟩
  · have HE : Hid (lgfB n L d = ([], false)) := by show _ = _; unfold lgfB; rw [t]; rfl
    obtain ⟨a2, n2, cap2, rfl⟩ : ∃ a n c, u = .slice a n c := by obtain ⟨a, cap, rfl, _⟩ := hd; exact ⟨_, _, _, rfl⟩
    clear h hd
    go_enter Try.func31, Try.ntmps31
    go_wp2_with fail
    refine (chBoth_c n _ _ L d _ HR.out HD.out).mono ?_
    rintro e w1 ⟨rfl, hb1⟩
    have HBw1 := hid hb1
    clear hb1
    rw [t]
    go_wp2
    go_ret2
    exact ⟨_, by rw [HE.out]; rfl, by rw [HE.out]; exact ints_nil _ _ _, HBw1.out⟩
set_option maxRecDepth 100000 in
set_option maxHeartbeats 4000000 in
theorem iLegalFirings_u (n : Int) (v u : Value) (L : List Lnk) (d : List Int) (w : World) (h : RLinks w v L) (hd : RInts w u d) :
    Calls Try.prog 30 #[.int .i64 n, v, u] w (RetIB w (lgfB n L d)) := by
  have HR := hid h
  have HD := hid hd
  obtain ⟨a, cap, rfl⟩ := h.form
  rcases Bool.eq_false_or_eq_true (divB n L d) with t | t
  · obtain ⟨m, hm, rfl, hG, _, hdl, hdb, _⟩ := divB_parts t
    have hm8 := hG.n8
    have hm1 := hG.n1
    have hm2 : ((m : Int)).toNat = m := by omega
    have HT := hid t
    have HDL := hid (rints_lst HD.out hdl)
    obtain ⟨f, hf⟩ : ∃ f : Nat → Int, (fun i => d.getD i 0) = f := ⟨_, rfl⟩
    have HE : Hid (lgfB (m : Int) L d = (setL (fun v => decide (valV m L v ≤ f v)) m, true)) := by show _ = _; unfold lgfB; rw [HT.out, hm2, ← hf]; rfl
    rw [hf] at HDL
    obtain ⟨gd, od, cd, rfl, _, _, hdc⟩ := ri_open HDL.out (by omega)
    have HDC := hid hdc
    clear h hd hdb hdl hm hf hdc
    obtain ⟨p, hp⟩ : ∃ p : Nat → Bool, (fun v => decide (valV m L v ≤ f v)) = p := ⟨_, rfl⟩
    have HPP : Hid (∀ i, p i = decide (valV m L i ≤ f i)) := fun i => by rw [← hp]
    rw [hp] at HE
    clear hp
    go_enter Try.func30, Try.ntmps30
    go_wp2_with fail
    refine (withDiv_yes m _ _ L d _ HR.out HD.out HT.out).mono ?_
    rintro e w1 ⟨g, rfl, hg1, hb1⟩
    have HBw1 := hid hb1
    have G_w1 := hid hg1
    clear hb1 hg1
    obtain ⟨gq, bt, vt, hgp, c0, c1, c2, c3, hmm, hvv⟩ := G_w1.out
    simp only [Value.pointer.injEq, Option.some.injEq, Addr.mk.injEq, and_true] at hgp
    subst hgp
    obtain ⟨gv, ov, cv, rfl, _, _, hvc⟩ := ri_open hvv (by omega)
    have HVC := hid hvc
    have HC2 := hid c2
    clear hvc c0 c1 c2 c3 hmm hvv
    have hal : Below w1.heap.size w1 (w1.alloc (.cells #[] 3)) := (Below.refl _ _).alloc (Nat.le_refl _) _
    have HAL := hid hal
    have HE1 := hid (ints_empty w1 w1.heap.size (Nat.le_refl _))
    clear hal
    go_wp2
    go_loopg [10, 25] m (fun gk out iv wr => ∃ (i : Nat) (a : Option Addr) (k c : Nat), out = .slice a k c ∧ iv = .int .i64 i ∧ i ≤ m ∧ gk = m - i ∧ k ≤ i ∧ (setL p i).length = k ∧ FInts wr w1.heap.size wr.heap.size (.slice a k c) (setL p i) ∧ Below w1.heap.size w1 wr)
    case atStart => exact ⟨0, _, 0, 0, rfl, rfl, Nat.zero_le _, rfl, Nat.le_refl _, rfl, by have := HE1.out; exact this.mono (Nat.le_refl _) (by simp [World.size_alloc]), HAL.out⟩
    case round =>
      obtain ⟨i, a3, k3, c3, rfl, rfl, hi, rfl, hki, hlk, hF, hb⟩ := hrel
      obtain ⟨wr, rfl⟩ : ∃ w' : World, w' = wr := ⟨_, rfl⟩
      have HFW := hid hF
      have HBV := hid hb
      have HLK := hid hlk
      have HBA := hid (HBw1.out.trans (hb.mono HBw1.out.size))
      clear hF hb hlk
      by_cases hlt : i < m
      · have hltz : (i : Int) < (m : Int) := by omega
        have hkm : k3 ≤ 1048576 := by omega
        have e1 := (HBA.out.cell (p := ⟨gd, od + i, none⟩) (cell_lt (HDC.out i hlt))).trans (HDC.out i hlt)
        have e2 := (HBV.out.cell (p := ⟨gv, ov + i, none⟩) (cell_lt (HVC.out i hlt))).trans (HVC.out i hlt)
        have e3 := (HBV.out.cell (p := ⟨g, 2, none⟩) (cell_lt HC2.out)).trans HC2.out
        obtain ⟨z, hz⟩ : ∃ z, valV m L i = z := ⟨_, rfl⟩
        rw [hz] at e2
        obtain ⟨x, hx⟩ : ∃ x, f i = x := ⟨_, rfl⟩
        rw [hx] at e1
        have hpi : p i = decide (z ≤ x) := by rw [HPP.out, hx, hz]
        clear hx hz
        by_cases tb : z ≤ x
        · have HX : Hid (setL p i ++ [(i : Int)] = setL p (i + 1)) := by show _ = _; rw [setL_succ_yes (hpi.trans (decide_eq_true tb))]
          have tb2 : decide (z ≤ x) = true := decide_eq_true tb
          clear hpi
          go_wp2_with (at_builtin; (refine wpList_push_r (W0 := w1) rfl _ _ rfl w1.heap.size (.slice a3 k3 c3) (setL p i) (i : Int) rfl rfl HFW.out HBV.out HBV.out.size k3 HLK hkm _ HX ?_; intro g7 c7 w7 hF7 hb7; have HF7 := hid hF7; have HB7 := hid hb7; clear hF7 hb7))
          go_roundg (m - (i + 1))
          case rel => exact ⟨i + 1, _, k3 + 1, _, rfl, by go_num, by omega, rfl, by omega, by rw [← HX.out, List.length_append, HLK.out]; rfl, HF7.out, HB7.out⟩
          case measure => omega
        · have HX : Hid (setL p (i + 1) = setL p i) := by show _ = _; rw [setL_succ_no (hpi.trans (decide_eq_false tb))]
          have tb2 : decide (z ≤ x) = false := decide_eq_false tb
          clear hpi
          go_wp2
          go_roundg (m - (i + 1))
          case rel => exact ⟨i + 1, _, k3, _, rfl, by go_num, by omega, rfl, by omega, by rw [HX.out]; exact HLK.out, by rw [HX.out]; exact HFW.out, HBV.out⟩
          case measure => omega
      · obtain rfl : i = m := by omega
        go_wp2
        go_ret2
        exact ⟨_, by rw [HE.out]; rfl, by rw [HE.out]; exact HFW.out.mono HBw1.out.size (Nat.le_refl _), HBA.out⟩
  · have HE : Hid (lgfB n L d = ([], false)) := by show _ = _; unfold lgfB; rw [t]; rfl
    obtain ⟨a2, n2, cap2, rfl⟩ : ∃ a n c, u = .slice a n c := by obtain ⟨a, cap, rfl, _⟩ := hd; exact ⟨_, _, _, rfl⟩
    clear h hd
    go_enter Try.func30, Try.ntmps30
    go_wp2_with fail
    refine (withDiv_no n _ _ L d _ HR.out HD.out t).mono ?_
    rintro e w1 ⟨g, rfl, hb1⟩
    have HB1 := hid hb1
    clear hb1
    go_wp2
    go_ret2
    exact ⟨_, by rw [HE.out]; rfl, by rw [HE.out]; exact ints_nil _ _ _, HB1.out⟩

end Go.Proofs.Ytlehhfmbdcmpoaa
