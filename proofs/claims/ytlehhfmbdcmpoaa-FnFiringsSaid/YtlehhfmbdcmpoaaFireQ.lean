/- Firing by scripts, sets and vertices; sums, debts, legal firings: both programs' (printed by wip/firegen.py). -/
import Derived.Test.YtlehhfmbdcmpoaaFireI
import Derived.Test.YtlehhfmbdcmpoaaFireP
namespace Go.Proofs.Ytlehhfmbdcmpoaa
open Go.RowKit
open Go.Lib (hid)

/-- a graph and a divisor -/
def divB (n : Int) (L : List Lnk) (d : List Int) : Bool := goodG n L && (((d.length : Int) == n) && allB d (-1000) 1000)
def toldB (xs : List Int) : List Int × Bool := if allB xs (-1000) 1000 then (xs, true) else ([], false)
theorem toldB_yes {xs : List Int} (h : allB xs (-1000) 1000 = true) : toldB xs = (xs, true) := by unfold toldB; rw [h]; rfl
theorem toldB_no {xs : List Int} (h : allB xs (-1000) 1000 = false) : toldB xs = ([], false) := by unfold toldB; rw [h]; rfl
/-- the chips after a script -/
def aftL (n : Nat) (L : List Lnk) (d : List Int) (s : Nat → Int) : List Int := lst n (fun v => d.getD v 0 - sumN n (fun u => s u * lapV n L u v))
theorem aftL_eq {n : Nat} {L : List Lnk} (hG : GoodL n L) (d : List Int) (s : Nat → Int) : lst n ((grL n L hG).after (fun i => d.getD i 0) s) = aftL n L d s := rfl
def fscB (n : Int) (L : List Lnk) (d s : List Int) : List Int × Bool := if divB n L d && (((s.length : Int) == n) && allB s (-20) 20) then toldB (aftL n.toNat L d (fun i => s.getD i 0)) else ([], false)
def fstB (n : Int) (L : List Lnk) (d l : List Int) : List Int × Bool := if divB n L d && risB 0 (n - 1) none l then toldB (aftL n.toNat L d (setF l)) else ([], false)
def fvtB (n : Int) (L : List Lnk) (d : List Int) (x : Int) : List Int × Bool := if divB n L d && inB x 0 (n - 1) then toldB (aftL n.toNat L d (setF [x])) else ([], false)
def cspB (n : Int) (L : List Lnk) (d : List Int) : Int × Bool := if divB n L d then (d.sum, true) else (0, false)
def dbtB (n : Int) (L : List Lnk) (d : List Int) : List Int × Bool := if divB n L d then (setL (fun v => decide (d.getD v 0 < 0)) n.toNat, true) else ([], false)
def lgfB (n : Int) (L : List Lnk) (d : List Int) : List Int × Bool := if divB n L d then (setL (fun v => decide (valV n.toNat L v ≤ d.getD v 0)) n.toNat, true) else ([], false)
theorem setF_mrk (l : List Int) : setF l = mrkF l := rfl
theorem divB_parts {n : Int} {L : List Lnk} {d : List Int} (h : divB n L d = true) : ∃ m : Nat, n.toNat = m ∧ n = (m : Int) ∧ GoodL m L ∧ goodG n L = true ∧ d.length = m ∧ (∀ i, -1000 ≤ d.getD i 0 ∧ d.getD i 0 ≤ 1000) ∧ allB d (-1000) 1000 = true := by
  unfold divB at h
  rw [Bool.and_eq_true, Bool.and_eq_true, beq_iff_eq] at h
  obtain ⟨h1, h2, h3⟩ := h
  have hn := goodG_parts h1
  refine ⟨n.toNat, rfl, hn.2, hn.1, h1, by omega, fun i => getD_bound (B := 1000) (allB_mem h3) (by decide) i, h3⟩
theorem div_len {n : Int} {L : List Lnk} {d : List Int} (h : divB n L d = true) : ((d.length : Int) == n) = true ∧ goodG n L = true := by
  unfold divB at h
  rw [Bool.and_eq_true, Bool.and_eq_true] at h
  exact ⟨h.2.1, h.1⟩
theorem set_at (l : List Int) (i : Nat) : -20 ≤ setF l i ∧ setF l i ≤ 20 := by unfold setF; split <;> omega
theorem ris_idx {n : Int} {l : List Int} : risB 0 (n - 1) none l = (decide (l.length = 0) || idxsB n l) := by
  cases l with
  | nil => rfl
  | cons x xs => unfold idxsB; simp

set_option maxRecDepth 100000 in
set_option maxHeartbeats 2000000 in
theorem chChips_c (n : Int) (v : Value) (d : List Int) (w : World) (h : RInts w v d) :
    Calls Try.prog 181 #[.int .i64 n, v] w fun e w' => e = .returned (.bool (((d.length : Int) == n) && allB d (-1000) 1000)) ∧ Below w.heap.size w w' := by
  have HR := hid h
  obtain ⟨a, cap, rfl, h1, h2, hc⟩ := h
  clear hc
  unfold maxLen at h2
  rcases Bool.eq_false_or_eq_true ((d.length : Int) == n) with t1 | t1
  · rw [t1, Bool.true_and]
    go_enter Try.func181, Try.ntmps181
    go_wp2_with fail
    refine (l1All_c _ d _ _ _ HR.out).mono ?_
    rintro e w' ⟨rfl, rfl⟩
    go_wp2
    go_ret
    exact ⟨rfl, Below.refl _ _⟩
  · rw [t1, Bool.false_and]
    go_enter Try.func181, Try.ntmps181
    go_wp2
    go_ret
    exact ⟨rfl, Below.refl _ _⟩
set_option maxRecDepth 100000 in
set_option maxHeartbeats 2000000 in
theorem chBoth_c (n : Int) (v u : Value) (L : List Lnk) (d : List Int) (w : World) (h : RLinks w v L) (hd : RInts w u d) :
    Calls Try.prog 107 #[.int .i64 n, v, u] w fun e w' => e = .returned (.bool (divB n L d)) ∧ Below w.heap.size w w' := by
  have HR := hid h
  have HD := hid hd
  obtain ⟨a, cap, rfl⟩ := h.form
  obtain ⟨a2, cap2, rfl, _, _, hc⟩ := hd
  clear h hc
  rcases Bool.eq_false_or_eq_true (goodG n L) with t1 | t1
  · have HE : Hid (divB n L d = (((d.length : Int) == n) && allB d (-1000) 1000)) := by show _ = _; unfold divB; rw [t1, Bool.true_and]
    go_enter Try.func107, Try.ntmps107
    go_wp2_with fail
    refine (chGood_c n _ L _ HR.out).mono ?_
    rintro e w1 ⟨rfl, hb1⟩
    rw [t1]
    have HD1 := hid (HD.out.keep hb1)
    have HB1 := hid hb1
    clear hb1
    go_wp2_with fail
    refine (chChips_c n _ d _ HD1.out).mono ?_
    rintro e w2 ⟨rfl, hb2⟩
    have HB2 := hid (HB1.out.trans (hb2.mono HB1.out.size))
    rw [← HE.out]
    clear hb2
    go_wp2
    go_ret
    exact ⟨rfl, HB2.out⟩
  · have HE : Hid (divB n L d = false) := by show _ = _; unfold divB; rw [t1, Bool.false_and]
    go_enter Try.func107, Try.ntmps107
    go_wp2_with fail
    refine (chGood_c n _ L _ HR.out).mono ?_
    rintro e w1 ⟨rfl, hb1⟩
    rw [t1]
    have HB1 := hid hb1
    clear hb1
    go_wp2
    go_ret
    exact ⟨by rw [HE.out]; rfl, HB1.out⟩
set_option maxRecDepth 100000 in
set_option maxHeartbeats 2000000 in
theorem chIf_t (n : Nat) (u : Value) (f : Nat → Int) (w0 w : World) (hb : Below w0.heap.size w0 w) (hd : FInts w w0.heap.size w.heap.size u (lst n f)) (ha : allB (lst n f) (-1000) 1000 = true) :
    Calls Try.prog 109 #[.int .i64 n, u] w (RetIB w0 (toldB (lst n f))) := by
  have HB0 := hid hb
  have HD0 := hid hd.r
  have HF0 := hid hd
  have HA := hid ha
  have HL : Hid ((((lst n f).length : Int) == (n : Int)) = true) := by show _ = _; rw [lst_len]; simp
  have HT := hid (toldB_yes ha)
  obtain ⟨au, nu, cu, rfl⟩ := hd.form3
  clear hb hd ha
  go_enter Try.func109, Try.ntmps109
  go_wp2_with fail
  refine (chChips_c (n : Int) _ (lst n f) _ HD0.out).mono ?_
  rintro e w1 ⟨rfl, hb1⟩
  have HBw1 := hid hb1
  have D_w1 := hid (HD0.out.keep hb1)
  clear hb1
  rw [HL.out, HA.out]
  have HFF := hid ((HF0.out.keep HBw1.out).mono (Nat.le_refl _) HBw1.out.size)
  go_wp2
  go_ret2
  exact ⟨_, by rw [HT.out]; rfl, by rw [HT.out]; exact HFF.out, HB0.out.trans (HBw1.out.mono HB0.out.size)⟩
set_option maxRecDepth 100000 in
set_option maxHeartbeats 2000000 in
theorem chIf_f (n : Nat) (u : Value) (f : Nat → Int) (w0 w : World) (hb : Below w0.heap.size w0 w) (hd : FInts w w0.heap.size w.heap.size u (lst n f)) (ha : allB (lst n f) (-1000) 1000 = false) :
    Calls Try.prog 109 #[.int .i64 n, u] w (RetIB w0 (toldB (lst n f))) := by
  have HB0 := hid hb
  have HD0 := hid hd.r
  have HF0 := hid hd
  have HA := hid ha
  have HL : Hid ((((lst n f).length : Int) == (n : Int)) = true) := by show _ = _; rw [lst_len]; simp
  have HT := hid (toldB_no ha)
  obtain ⟨au, nu, cu, rfl⟩ := hd.form3
  clear hb hd ha
  go_enter Try.func109, Try.ntmps109
  go_wp2_with fail
  refine (chChips_c (n : Int) _ (lst n f) _ HD0.out).mono ?_
  rintro e w1 ⟨rfl, hb1⟩
  have HBw1 := hid hb1
  have D_w1 := hid (HD0.out.keep hb1)
  clear hb1
  rw [HL.out, HA.out]
  go_wp2
  go_ret2
  exact ⟨_, by rw [HT.out]; rfl, by rw [HT.out]; exact ints_nil _ _ _, HB0.out.trans (HBw1.out.mono HB0.out.size)⟩
set_option maxRecDepth 100000 in
set_option maxHeartbeats 2000000 in
theorem isDivisor_c (n : Nat) (p : Value) (L : List Lnk) (v : Value) (d : List Int) (w : World) (h : RG w p n L) (hd : RInts w v d) :
    Calls Try.prog 175 #[p, v] w fun e w' => e = .returned (.bool (((d.length : Int) == (n : Int)) && allB d (-1000) 1000)) ∧ Below w.heap.size w w' := by
  have HR := hid h
  have HD := hid hd
  obtain ⟨g, rfl⟩ := h.form
  obtain ⟨a2, cap2, rfl, _, _, hc⟩ := hd
  clear h hc
  go_enter Try.func175, Try.ntmps175
  go_wp2_with fail
  refine (areChips_c n _ L _ d 1000 _ HR.out HD.out (by decide)).mono ?_
  rintro e w1 ⟨rfl, hb1⟩
  have HB1 := hid hb1
  clear hb1
  go_wp2
  go_ret
  exact ⟨rfl, HB1.out⟩
set_option maxRecDepth 100000 in
set_option maxHeartbeats 2000000 in
theorem told_t (n : Nat) (p : Value) (L : List Lnk) (u : Value) (f : Nat → Int) (w0 w : World) (hp : RG w p n L) (hb : Below w0.heap.size w0 w) (hd : FInts w w0.heap.size w.heap.size u (lst n f)) (ha : allB (lst n f) (-1000) 1000 = true) :
    Calls Try.prog 105 #[p, u] w (RetIB w0 (toldB (lst n f))) := by
  have HP := hid hp
  obtain ⟨gp, rfl⟩ := hp.form
  clear hp
  have HB0 := hid hb
  have HD0 := hid hd.r
  have HF0 := hid hd
  have HA := hid ha
  have HL : Hid ((((lst n f).length : Int) == (n : Int)) = true) := by show _ = _; rw [lst_len]; simp
  have HT := hid (toldB_yes ha)
  obtain ⟨au, nu, cu, rfl⟩ := hd.form3
  clear hb hd ha
  go_enter Try.func105, Try.ntmps105
  go_wp2_with fail
  refine (isDivisor_c n _ L _ (lst n f) _ HP.out HD0.out).mono ?_
  rintro e w1 ⟨rfl, hb1⟩
  have HBw1 := hid hb1
  have D_w1 := hid (HD0.out.keep hb1)
  clear hb1
  rw [HL.out, HA.out]
  have HFF := hid ((HF0.out.keep HBw1.out).mono (Nat.le_refl _) HBw1.out.size)
  go_wp2
  go_ret2
  exact ⟨_, by rw [HT.out]; rfl, by rw [HT.out]; exact HFF.out, HB0.out.trans (HBw1.out.mono HB0.out.size)⟩
set_option maxRecDepth 100000 in
set_option maxHeartbeats 2000000 in
theorem told_f (n : Nat) (p : Value) (L : List Lnk) (u : Value) (f : Nat → Int) (w0 w : World) (hp : RG w p n L) (hb : Below w0.heap.size w0 w) (hd : FInts w w0.heap.size w.heap.size u (lst n f)) (ha : allB (lst n f) (-1000) 1000 = false) :
    Calls Try.prog 105 #[p, u] w (RetIB w0 (toldB (lst n f))) := by
  have HP := hid hp
  obtain ⟨gp, rfl⟩ := hp.form
  clear hp
  have HB0 := hid hb
  have HD0 := hid hd.r
  have HF0 := hid hd
  have HA := hid ha
  have HL : Hid ((((lst n f).length : Int) == (n : Int)) = true) := by show _ = _; rw [lst_len]; simp
  have HT := hid (toldB_no ha)
  obtain ⟨au, nu, cu, rfl⟩ := hd.form3
  clear hb hd ha
  go_enter Try.func105, Try.ntmps105
  go_wp2_with fail
  refine (isDivisor_c n _ L _ (lst n f) _ HP.out HD0.out).mono ?_
  rintro e w1 ⟨rfl, hb1⟩
  have HBw1 := hid hb1
  have D_w1 := hid (HD0.out.keep hb1)
  clear hb1
  rw [HL.out, HA.out]
  go_wp2
  go_ret2
  exact ⟨_, by rw [HT.out]; rfl, by rw [HT.out]; exact ints_nil _ _ _, HB0.out.trans (HBw1.out.mono HB0.out.size)⟩
set_option maxRecDepth 100000 in
set_option maxHeartbeats 2000000 in
theorem withDiv_yes (n : Nat) (v u : Value) (L : List Lnk) (d : List Int) (w : World) (h : RLinks w v L) (hd : RInts w u d) (t : divB (n : Int) L d = true) :
    Calls Try.prog 103 #[.int .i64 n, v, u] w (RetG w n L) := by
  have HR := hid h
  have HD := hid hd
  obtain ⟨a, cap, rfl⟩ := h.form
  obtain ⟨a2, cap2, rfl, _, _, hc⟩ := hd
  obtain ⟨m, hm, hn, hG, hg, hdl, _, hall⟩ := divB_parts t
  obtain rfl : m = n := by omega
  have HX := hid (And.intro hG (And.intro hg (And.intro (div_len t).1 hall)))
  clear h hc hG hg hdl hall hm hn t
  go_enter Try.func103, Try.ntmps103
  go_wp2_with fail
  refine (graphOf_c m _ L _ HR.out HX.out.1 HX.out.2.1).mono ?_
  rintro e w1 ⟨g, rfl, hg, hb1⟩
  have HRG := hid hg
  have HB1 := hid hb1
  have HD1 := hid (HD.out.keep hb1)
  clear hb1 hg
  go_wp2_with fail
  refine (isDivisor_c m _ L _ d _ HRG.out HD1.out).mono ?_
  rintro e w2 ⟨rfl, hb2⟩
  rw [HX.out.2.2.1, HX.out.2.2.2]
  have HF := hid (And.intro (HRG.out.keep hb2) (HB1.out.trans (hb2.mono HB1.out.size)))
  clear hb2
  go_wp2
  go_ret2
  exact ⟨g, rfl, HF.out.1, HF.out.2⟩
set_option maxRecDepth 100000 in
set_option maxHeartbeats 2000000 in
theorem withDiv_no (n : Int) (v u : Value) (L : List Lnk) (d : List Int) (w : World) (h : RLinks w v L) (hd : RInts w u d) (t : divB n L d = false) :
    Calls Try.prog 103 #[.int .i64 n, v, u] w (RetNoG w) := by
  have HR := hid h
  have HD := hid hd
  obtain ⟨a, cap, rfl⟩ := h.form
  obtain ⟨a2, cap2, rfl, _, _, hc⟩ := hd
  clear h hc
  rcases Bool.eq_false_or_eq_true (goodG n L) with t1 | t1
  · have hE : (((d.length : Int) == n) && allB d (-1000) 1000) = false := by unfold divB at t; rwa [t1, Bool.true_and] at t
    obtain ⟨hG, hn⟩ := goodG_parts t1
    obtain ⟨m, hm⟩ : ∃ m : Nat, n.toNat = m := ⟨_, rfl⟩
    rw [hm] at hn hG
    subst hn
    have HX := hid (And.intro hG (And.intro t1 hE))
    clear hE hG hm t t1
    go_enter Try.func103, Try.ntmps103
    go_wp2_with fail
    refine (graphOf_c m _ L _ HR.out HX.out.1 HX.out.2.1).mono ?_
    rintro e w1 ⟨g, rfl, hg, hb1⟩
    have HRG := hid hg
    have HB1 := hid hb1
    have HD1 := hid (HD.out.keep hb1)
    clear hb1 hg
    go_wp2_with fail
    refine (isDivisor_c m _ L _ d _ HRG.out HD1.out).mono ?_
    rintro e w2 ⟨rfl, hb2⟩
    rw [HX.out.2.2]
    have HB2 := hid (HB1.out.trans (hb2.mono HB1.out.size))
    clear hb2
    go_wp2
    go_ret2
    exact ⟨_, rfl, HB2.out⟩
  · go_enter Try.func103, Try.ntmps103
    go_wp2_with fail
    refine (graphOf_no n _ L _ HR.out t1).mono ?_
    rintro e w1 ⟨rfl, hb1⟩
    have HB1 := hid hb1
    clear hb1
    go_wp2
    go_ret2
    exact ⟨_, rfl, HB1.out⟩
set_option maxRecDepth 100000 in
set_option maxHeartbeats 2000000 in
theorem isSet_c (n : Nat) (p : Value) (L : List Lnk) (v : Value) (l : List Int) (w : World) (h : RG w p n L) (hd : RInts w v l) (hn1 : 1 ≤ n) (hn : n ≤ 8) :
    Calls Try.prog 113 #[p, v] w fun e w' => e = .returned (.bool (risB 0 ((n : Int) - 1) none l)) ∧ w = w' := by
  have HD := hid hd
  obtain ⟨g, bt, vt, rfl, c0, _, _, _, _, _⟩ := h
  obtain ⟨a2, n2, c2, rfl, HN⟩ : ∃ a n c, v = .slice a n c ∧ Hid (n = l.length) := by obtain ⟨a, cap, rfl, _⟩ := hd; exact ⟨_, _, _, rfl, rfl⟩
  clear hd
  by_cases h0 : n2 = 0
  · have HE : Hid (risB 0 ((n : Int) - 1) none l = true) := by
      show _ = _
      rw [ris_idx, decide_eq_true (by have : n2 = l.length := HN.out; omega)]; rfl
    have hz : ((n2 : Int) == 0) = true := by rw [h0]; rfl
    go_enter Try.func113, Try.ntmps113
    go_wp2
    go_ret
    exact ⟨ret_bool HE.out.symm, rfl⟩
  · have HE : Hid (risB 0 ((n : Int) - 1) none l = idxsB (n : Int) l) := by
      show _ = _
      rw [ris_idx, decide_eq_false (by have : n2 = l.length := HN.out; omega)]; rfl
    have hz : ((n2 : Int) == 0) = false := beq_eq_false_iff_ne.2 (by omega)
    go_enter Try.func113, Try.ntmps113
    go_wp2_with fail
    refine (areIndices_c _ l _ _ HD.out (by omega) (by omega)).mono ?_
    rintro e w' ⟨rfl, rfl⟩
    rw [← HE.out]
    go_wp2
    go_ret
    exact ⟨rfl, rfl⟩

end Go.Proofs.Ytlehhfmbdcmpoaa
