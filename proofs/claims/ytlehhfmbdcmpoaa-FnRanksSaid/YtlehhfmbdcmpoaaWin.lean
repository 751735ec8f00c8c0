/- Whether a divisor can be won: both. -/
import Derived.Test.YtlehhfmbdcmpoaaReduceI
namespace Go.Proofs.Ytlehhfmbdcmpoaa
open Go.RowKit
open Go.Lib (hid)

/-- some weights, seen from the first vertex -/
noncomputable def wt0 {n : Nat} {L : List Lnk} (hG : GoodL n L) (hc : (grL n L hG).Conn 0) : (grL n L hG).Wt 0 := Classical.choice ((grL n L hG).wt_exists (show 0 < n from hG.n1) hc)
/-- the divisor can be won -/
noncomputable def winB (n : Nat) (L : List Lnk) (f : Nat → Int) : Bool := decP (∃ (hG : GoodL n L) (hc : (grL n L hG).Conn 0), 0 ≤ Gr.red (wt0 hG hc) f 0)
theorem winB_eq {n : Nat} {L : List Lnk} (hG : GoodL n L) (hc : (grL n L hG).Conn 0) (f : Nat → Int) : winB n L f = decide (0 ≤ Gr.red (wt0 hG hc) f 0) := by
  unfold winB
  rw [Bool.eq_iff_iff, decP_iff, decide_eq_true_iff]
  exact ⟨fun ⟨_, _, h⟩ => h, fun h => ⟨hG, hc, h⟩⟩
/-- numbers within forty -/
def small40 (n : Nat) (f : Nat → Int) : Prop := ∀ i, i < n → -40 ≤ f i ∧ f i ≤ 40
theorem lst_sum (n : Nat) (f : Nat → Int) : (lst n f).sum = sumN n f := by
  induction n with
  | zero => rfl
  | succ k ih => rw [lst_succ]; simp [ih, sumN]
theorem small_sum {n : Nat} {f : Nat → Int} (h : small40 n f) : -40 * (n : Int) ≤ sumN n f ∧ sumN n f ≤ 40 * (n : Int) := by
  have h1 := sumN_le (n := n) (f := fun _ => -40) (g := f) (fun i hi => (h i hi).1)
  have h2 := sumN_le (n := n) (f := f) (g := fun _ => 40) (fun i hi => (h i hi).2)
  rw [Gr.sumN_const] at h1 h2
  omega
theorem small_inv {n : Nat} {L : List Lnk} (hG : GoodL n L) {f : Nat → Int} (h : small40 n f) : Gr.Inv1 (grL n L hG) (sumN n f) f ∧ (-320 ≤ sumN n f ∧ sumN n f ≤ 320) := by
  have := small_sum h
  have := hG.n8
  exact ⟨⟨fun v hv => (h v hv).2, rfl⟩, by omega⟩
theorem small_lst {n : Nat} {f : Nat → Int} (h : small40 n f) (hn : n ≤ 8) : smallI (lst n f) := ⟨by rw [lst_len]; omega, fun x hx => by
  obtain ⟨i, hi, rfl⟩ := mem_lst.1 hx
  have := h i hi; omega⟩

set_option maxRecDepth 100000 in
set_option maxHeartbeats 1000000 in
theorem rdWins_c (n : Nat) (v u : Value) (L : List Lnk) (f : Nat → Int) (w : World) (h : RLinks w v L) (hG : GoodL n L) (hc : (grL n L hG).Conn 0) (hd : RInts w u (lst n f)) (hs : small40 n f) :
    Calls Try.prog 169 #[.int .i64 n, v, u] w fun e w' => e = .returned (.bool (winB n L f)) ∧ Below w.heap.size w w' := by
  have HR := hid h
  have HD := hid hd
  have hn8 := hG.n8
  have hn1 := hG.n1
  have HX := hid (And.intro (small_inv hG hs) (small_lst hs hn8))
  have hneg := fun h => Gr.red_neg (show 0 < (grL n L hG).n from hn1) (wt0 hG hc) (small_inv hG hs).1 h
  have hwin := winB_eq hG hc f
  have hsum := lst_sum n f
  obtain ⟨S, hS⟩ : ∃ S, sumN n f = S := ⟨_, rfl⟩
  rw [hS] at HX hneg hsum
  have HS := hid hsum
  obtain ⟨a, cap, rfl⟩ := h.form
  obtain ⟨gd, od, cd, rfl, hcd1, hcd2, _⟩ := ri_open hd (by omega)
  have HG := hid hG
  have HCN := hid hc
  clear h hd hs hS hsum
  by_cases hlt : S < 0
  · have hr := hneg hlt
    have HE : Hid (winB n L f = false) := by show _ = _; rw [hwin, decide_eq_false_iff_not]; omega
    clear hneg hwin hr
    go_enter Try.func169, Try.ntmps169
    go_wp2_with fail
    refine (chSum_c _ (lst n f) _ HD.out HX.out.2).mono ?_
    rintro e w' ⟨rfl, rfl⟩
    rw [HS.out]
    go_wp2
    go_ret
    exact ⟨ret_bool HE.out.symm, Below.refl _ _⟩
  · have HE := hid hwin
    clear hneg hwin
    go_enter Try.func169, Try.ntmps169
    go_wp2_with fail
    refine (chSum_c _ (lst n f) _ HD.out HX.out.2).mono ?_
    rintro e w' ⟨rfl, rfl⟩
    rw [HS.out]
    go_wp2_with fail
    refine (rdReduce_c n 0 _ _ L f S _ HR.out hG (wt0 hG hc) HD.out hn1 HX.out.1.1 HX.out.1.2).mono ?_
    rintro e w1 ⟨v1, s1, rfl, hr, hb⟩
    obtain ⟨g1, o1, c1, rfl, hc1, hc2, hcell⟩ := ri_open hr (by omega)
    have e1 := hcell 0 hn1
    rw [Nat.add_zero] at e1
    obtain ⟨x, hx⟩ : ∃ x, Gr.red (wt0 hG hc) f 0 = x := ⟨_, rfl⟩
    rw [hx] at e1 HE
    have hnz : 0 < n := hn1
    clear hr hcell hx
    go_wp2
    all_goals go_ret
    all_goals exact ⟨ret_bool (by rw [HE.out] <;> simp [*]), hb⟩

set_option maxRecDepth 100000 in
set_option maxHeartbeats 1000000 in
theorem isWinnable_c (n : Nat) (p u : Value) (L : List Lnk) (f : Nat → Int) (w : World) (h : RG w p n L) (hG : GoodL n L) (hc : (grL n L hG).Conn 0) (hd : RInts w u (lst n f)) (hs : small40 n f) :
    Calls Try.prog 156 #[p, u] w fun e w' => e = .returned (.bool (winB n L f)) ∧ Below w.heap.size w w' := by
  have HR := hid h
  have HD := hid hd
  have hn8 := hG.n8
  have hn1 := hG.n1
  have HX := hid (small_inv hG hs)
  have hwin := winB_eq hG hc f
  obtain ⟨gp, rfl⟩ := h.form
  obtain ⟨gd, od, cd, rfl, hcd1, hcd2, _⟩ := ri_open hd (by omega)
  have HE := hid hwin
  clear h hd hs hwin
  go_enter Try.func156, Try.ntmps156
  go_wp2_with fail
  refine (reduce_c n 0 _ _ L f _ _ hG HR.out (wt0 hG hc) HD.out hn1 HX.out.1 HX.out.2).mono ?_
  rintro e w1 ⟨v1, s1, rfl, hr, hb⟩
  obtain ⟨g1, o1, c1, rfl, hc1, hc2, hcell⟩ := ri_open hr (by omega)
  have e1 := hcell 0 hn1
  rw [Nat.add_zero] at e1
  obtain ⟨x, hx⟩ : ∃ x, Gr.red (wt0 hG hc) f 0 = x := ⟨_, rfl⟩
  rw [hx] at e1 HE
  have hnz : 0 < n := hn1
  clear hr hcell hx
  go_wp2
  all_goals go_ret
  all_goals exact ⟨ret_bool (by rw [HE.out] <;> simp [*]), hb⟩

/-- the dual can be won; the question is one -/
noncomputable def speB (n : Int) (L : List Lnk) (d : List Int) : Bool × Bool := if (dualB n L d).2 then (winB n.toNat L (dualF n.toNat L d), true) else (false, false)
theorem speB_no {n : Int} {L : List Lnk} {d : List Int} (h : (dualB n L d).2 = false) : speB n L d = (false, false) := by unfold speB; rw [h]; rfl
theorem speB_yes {n : Int} {L : List Lnk} {d : List Int} (h : (dualB n L d).2 = true) : speB n L d = (winB n.toNat L (dualF n.toNat L d), true) := by unfold speB; rw [h]; rfl
/-- a small dual: the graph is good and connected, the dual small -/
theorem dual_parts {n : Nat} {L : List Lnk} {d : List Int} (h : (dualB (n : Int) L d).2 = true) : ∃ (hG : GoodL n L) (_ : (grL n L hG).Conn 0), small40 n (dualF n L d) ∧ (dualB (n : Int) L d).1 = lst n (dualF n L d) ∧ raAB (n : Int) L d = true ∧ raCB (n : Int) (lst n (dualF n L d)) = true := by
  rcases Bool.eq_false_or_eq_true (raAB (n : Int) L d) with t1 | t1
  · rcases Bool.eq_false_or_eq_true (raCB (n : Int) (lst (n : Int).toNat (dualF (n : Int).toNat L d))) with t2 | t2
    · have hd := dualB_yes t1 t2
      rw [Int.toNat_natCast] at t2 hd
      have hp := t1
      unfold raAB at hp
      simp only [Bool.and_eq_true] at hp
      obtain ⟨hG, _, _, hcon, _⟩ := raGB_good hp.1
      rw [Int.toNat_natCast] at hG hcon
      refine ⟨hG, (conB_iff hG).1 hcon, fun i hi => ?_, by rw [hd], t1, t2⟩
      have := (raCB_parts t2).2 _ (mem_lst.2 ⟨i, hi, rfl⟩)
      omega
    · rw [dualB_no2 t2] at h; cases h
  · rw [dualB_no1 t1] at h; cases h
theorem dual_small {n : Int} {L : List Lnk} {d : List Int} (h : (dualB n L d).2 = true) : n = (n.toNat : Int) := by
  rcases Bool.eq_false_or_eq_true (raAB n L d) with t1 | t1
  · unfold raAB at t1
    simp only [Bool.and_eq_true] at t1
    exact (raGB_good t1.1).2.1
  · rw [dualB_no1 t1] at h; cases h
/-- two truth values -/
def RetBB (w : World) (p : Bool × Bool) (e : Ending) (w' : World) : Prop := e = .returned (.tuple #[.bool p.1, .bool p.2]) ∧ Below w.heap.size w w'

set_option maxRecDepth 100000 in
set_option maxHeartbeats 1000000 in
theorem sIsSpecialChips_u (n : Int) (v : Value) (L : List Lnk) (u : Value) (d : List Int) (w : World) (h : RLinks w v L) (hd : RInts w u d) :
    Calls Try.prog 88 #[.int .i64 n, v, u] w (RetBB w (speB n L d)) := by
  have HR := hid h
  have HD := hid hd
  obtain ⟨a, cap, rfl⟩ := h.form
  obtain ⟨a2, cap2, rfl, _, _, hc⟩ := hd
  clear h hc
  rcases Bool.eq_false_or_eq_true (dualB n L d).2 with t | t
  · have hn := dual_small t
    obtain ⟨m, hm⟩ : ∃ m : Nat, n.toNat = m := ⟨_, rfl⟩
    rw [hm] at hn
    subst hn
    obtain ⟨hG, hcn, hsm, hl, _, _⟩ := dual_parts t
    have hspe := speB_yes t
    rw [Int.toNat_natCast] at hspe
    have HSPE := hid hspe
    have HSM := hid hsm
    have HL := hid hl
    clear hspe hsm hl hm
    go_enter Try.func88, Try.ntmps88
    go_wp2_with fail
    refine (sDualChips_u (m : Int) _ L _ d _ HR.out HD.out).mono ?_
    rintro e w1 ⟨q, rfl, hF, hb⟩
    rw [t]
    rw [HL.out] at hF
    have HF := hid hF.r
    have HB := hid hb
    have HR1 := hid (HR.out.keep hb)
    obtain ⟨a3, n3, c3, rfl⟩ := hF.form3
    clear hF hb
    go_wp2_with fail
    refine (rdWins_c m _ _ L (dualF m L d) _ HR1.out hG hcn HF.out HSM.out).mono ?_
    rintro e w2 ⟨rfl, hb2⟩
    have HB2 := hid (HB.out.trans (hb2.mono HB.out.size))
    clear hb2
    go_wp2
    go_ret2
    exact ⟨by rw [HSPE.out]; rfl, HB2.out⟩
  · have HE := hid (speB_no t)
    go_enter Try.func88, Try.ntmps88
    go_wp2_with fail
    refine (sDualChips_u n _ L _ d _ HR.out HD.out).mono ?_
    rintro e w1 ⟨q, rfl, hF, hb⟩
    rw [t]
    obtain ⟨a3, n3, c3, rfl⟩ := hF.form3
    clear hF
    go_wp2
    go_ret2
    exact ⟨by rw [HE.out]; rfl, hb⟩

set_option maxRecDepth 100000 in
set_option maxHeartbeats 1000000 in
theorem iIsSpecialChips_u (n : Int) (v : Value) (L : List Lnk) (u : Value) (d : List Int) (w : World) (h : RLinks w v L) (hd : RInts w u d) :
    Calls Try.prog 87 #[.int .i64 n, v, u] w (RetBB w (speB n L d)) := by
  have HR := hid h
  have HD := hid hd
  obtain ⟨a, cap, rfl⟩ := h.form
  obtain ⟨a2, cap2, rfl, _, _, hc⟩ := hd
  clear h hc
  rcases Bool.eq_false_or_eq_true (raAB n L d) with t1 | t1
  · have hp := t1
    unfold raAB at hp
    simp only [Bool.and_eq_true] at hp
    obtain ⟨_, hn, _⟩ := raGB_good hp.1
    obtain ⟨m, hm⟩ : ∃ m : Nat, n.toNat = m := ⟨_, rfl⟩
    rw [hm] at hn
    subst hn
    have HT := hid t1
    have hdual : (dualB (m : Int) L d).2 = raCB (m : Int) (lst m (dualF m L d)) := by
      rcases Bool.eq_false_or_eq_true (raCB (m : Int) (lst (m : Int).toNat (dualF (m : Int).toNat L d))) with t2 | t2
      · rw [dualB_yes t1 t2]; rw [Int.toNat_natCast] at t2; exact t2.symm
      · rw [dualB_no2 t2]; rw [Int.toNat_natCast] at t2; exact t2.symm
    have HDU := hid hdual
    clear hp hm t1 hdual
    go_enter Try.func87, Try.ntmps87
    go_wp2_with fail
    refine (withDual_yes m _ _ L d _ HR.out HD.out HT.out).mono ?_
    rintro e w1 ⟨g, q, rfl, hg, hF, hb1⟩
    have HF := hid hF.r
    have HG1 := hid hg
    have HB := hid hb1
    obtain ⟨a6, n6, c6, rfl⟩ := hF.form3
    clear hF hb1 hg
    rcases Bool.eq_false_or_eq_true (raCB (m : Int) (lst m (dualF m L d))) with t2 | t2
    · obtain ⟨hG, hcn, hsm, hl, _, _⟩ := dual_parts (HDU.out.trans t2)
      have hspe := speB_yes (HDU.out.trans t2)
      rw [Int.toNat_natCast] at hspe
      have HSPE := hid hspe
      have HSM := hid hsm
      clear hspe hsm hl
      rw [t2]
      go_wp2_with fail
      refine (isWinnable_c m _ _ L (dualF m L d) _ HG1.out hG hcn HF.out HSM.out).mono ?_
      rintro e w2 ⟨rfl, hb2⟩
      have HB2 := hid (HB.out.trans (hb2.mono HB.out.size))
      clear hb2
      go_wp2
      go_ret2
      exact ⟨by rw [HSPE.out]; rfl, HB2.out⟩
    · have HE := hid (speB_no (HDU.out.trans t2))
      rw [t2]
      go_wp2
      go_ret2
      exact ⟨by rw [HE.out]; rfl, HB.out⟩
  · have HE := hid (speB_no (n := n) (L := L) (d := d) (by rw [dualB_no1 t1]))
    go_enter Try.func87, Try.ntmps87
    go_wp2_with fail
    refine (withDual_no n _ _ L d _ HR.out HD.out t1).mono ?_
    rintro e w1 ⟨rfl, hb1⟩
    go_wp2
    go_ret2
    exact ⟨by rw [HE.out]; rfl, hb1⟩

end Go.Proofs.Ytlehhfmbdcmpoaa
