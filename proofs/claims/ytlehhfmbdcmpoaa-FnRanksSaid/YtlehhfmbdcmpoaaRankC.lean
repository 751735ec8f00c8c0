/- Ranks, breaking divisors: both. -/
import Derived.Test.YtlehhfmbdcmpoaaBreak
namespace Go.Proofs.Ytlehhfmbdcmpoaa
open Go.RowKit
open Go.Lib (hid)

/-- what a question with a good answer says -/
theorem ask_parts {n : Int} {L : List Lnk} {d : List Int} (h : raAB n L d = true) : ∃ m : Nat, n.toNat = m ∧ n = (m : Int) ∧ d.length = m ∧ small8 m (fun i => d.getD i 0) ∧ d.sum ≤ 8 ∧ ∃ (hG : GoodL m L), (grL m L hG).Conn 0 := by
  unfold raAB at h
  simp only [Bool.and_eq_true] at h
  obtain ⟨hG, hn, _, hcon, _⟩ := raGB_good h.1
  obtain ⟨hl, hb⟩ := raCB_parts h.2
  refine ⟨n.toNat, rfl, hn, by omega, fun i _ => (by have := getD_bound hb (by decide) i; dsimp only; omega), ?_, hG, (conB_iff hG).1 hcon⟩
  have h2 := h.2
  unfold raCB at h2
  simp only [Bool.and_eq_true, decide_eq_true_eq] at h2
  exact h2.2.2
/-- what BreakingChips returns -/
noncomputable def brkB (n : Int) (L : List Lnk) (d : List Int) (k : Int) : List Int × Bool := if raAB n L d && inB k 0 9 then optB (brkO n.toNat L (fun i => d.getD i 0) k.toNat) else ([], false)
theorem brkB_yes {n : Int} {L : List Lnk} {d : List Int} {k : Int} (h : raAB n L d = true) (h' : inB k 0 9 = true) : brkB n L d k = optB (brkO n.toNat L (fun i => d.getD i 0) k.toNat) := by unfold brkB; rw [h, h']; rfl
theorem brkB_no1 {n : Int} {L : List Lnk} {d : List Int} {k : Int} (h : raAB n L d = false) : brkB n L d k = ([], false) := by unfold brkB; rw [h]; rfl
theorem brkB_no2 {n : Int} {L : List Lnk} {d : List Int} {k : Int} (h' : inB k 0 9 = false) : brkB n L d k = ([], false) := by unfold brkB; rw [h', Bool.and_false]; rfl
theorem brkB_len (n : Int) (L : List Lnk) (d : List Int) (k : Int) : (brkB n L d k).1.length ≤ 1048576 := by
  rcases Bool.eq_false_or_eq_true (raAB n L d) with h | h
  · rcases Bool.eq_false_or_eq_true (inB k 0 9) with h' | h'
    · rw [brkB_yes h h']
      obtain ⟨m, hm, _, _, _, _, hG, _⟩ := ask_parts h
      have hn8 := hG.n8
      rw [hm]
      unfold optB
      cases hO : brkO m L (fun i => d.getD i 0) k.toNat with
      | none => simp
      | some e =>
        have := (allL_mem _ _ e (List.mem_of_find?_eq_some hO)).1
        simp; omega
    · rw [brkB_no2 h']; simp
  · rw [brkB_no1 h]; simp

set_option maxRecDepth 100000 in
set_option maxHeartbeats 1000000 in
theorem sBreakingChips_u (n : Int) (v : Value) (L : List Lnk) (u : Value) (d : List Int) (k : Int) (w : World) (h : RLinks w v L) (hd : RInts w u d) :
    Calls Try.prog 71 #[.int .i64 n, v, u, .int .i64 k] w (RetIB w (brkB n L d k)) := by
  have HR := hid h
  have HD := hid hd
  obtain ⟨a, cap, rfl⟩ := h.form
  obtain ⟨a2, cap2, rfl, _, _, hc⟩ := hd
  clear h hc
  rcases Bool.eq_false_or_eq_true (raAB n L d) with t1 | t1
  · rcases Bool.eq_false_or_eq_true (inB k 0 9) with t2 | t2
    · obtain ⟨m, hm, hn, hl, hs, -, hG, hcn⟩ := ask_parts t1
      have hy := brkB_yes t1 t2
      obtain ⟨j, hj⟩ : ∃ j : Nat, k.toNat = j := ⟨_, rfl⟩
      have hk9 := inB_iff.1 t2
      have hkj : k = (j : Int) := by omega
      have hj9 : j ≤ 15 := by omega
      have HDL := hid (rints_lst HD.out hl)
      rw [hm, hj] at hy
      subst hn hkj
      have HY := hid hy
      have HS := hid hs
      have HT := hid t2
      clear hy hs hm hj hk9 hl t2
      go_enter Try.func71, Try.ntmps71
      go_wp2_with fail
      refine (raAsked_c _ _ _ L d _ HR.out HD.out).mono ?_
      rintro e w1 ⟨rfl, hb1⟩
      rw [t1]
      have HB1 := hid hb1
      have HR1 := hid (HR.out.keep hb1)
      have HD1 := hid (HDL.out.keep hb1)
      clear hb1
      go_wp2_with (go_at_call 116; (with_reducible refine (l1In_c _ _ _ _).mono ?_); rintro e w' ⟨rfl, rfl⟩; rw [HT.out])
      refine (raBreaks_c m j _ _ L _ _ HR1.out hG hcn HD1.out HS.out hj9).mono ?_
      rintro e w2 ⟨q, rfl, hF, hb2⟩
      have HF := hid (And.intro (hF.mono HB1.out.size (Nat.le_refl _)) (HB1.out.trans (hb2.mono HB1.out.size)))
      obtain ⟨a6, n6, c6, rfl⟩ := hF.form3
      clear hF hb2
      go_wp2
      go_ret2
      exact ⟨_, by rw [HY.out]; rfl, by rw [HY.out]; exact HF.out.1, HF.out.2⟩
    · have HE := hid (brkB_no2 (n := n) (L := L) (d := d) t2)
      go_enter Try.func71, Try.ntmps71
      go_wp2_with fail
      refine (raAsked_c _ _ _ L d _ HR.out HD.out).mono ?_
      rintro e w1 ⟨rfl, hb1⟩
      rw [t1]
      go_wp2_with (go_at_call 116; (with_reducible refine (l1In_c _ _ _ _).mono ?_); rintro e w' ⟨rfl, rfl⟩; rw [t2])
      go_ret2
      exact ⟨_, by rw [HE.out]; rfl, by rw [HE.out]; exact ints_nil _ _ _, hb1⟩
  · have HE := hid (brkB_no1 (k := k) t1)
    go_enter Try.func71, Try.ntmps71
    go_wp2_with fail
    refine (raAsked_c _ _ _ L d _ HR.out HD.out).mono ?_
    rintro e w1 ⟨rfl, hb1⟩
    rw [t1]
    go_wp2
    go_ret2
    exact ⟨_, by rw [HE.out]; rfl, by rw [HE.out]; exact ints_nil _ _ _, hb1⟩

set_option maxRecDepth 100000 in
set_option maxHeartbeats 1000000 in
theorem iBreakingChips_u (n : Int) (v : Value) (L : List Lnk) (u : Value) (d : List Int) (k : Int) (w : World) (h : RLinks w v L) (hd : RInts w u d) :
    Calls Try.prog 70 #[.int .i64 n, v, u, .int .i64 k] w (RetIB w (brkB n L d k)) := by
  have HR := hid h
  have HD := hid hd
  obtain ⟨a, cap, rfl⟩ := h.form
  obtain ⟨a2, cap2, rfl, _, _, hc⟩ := hd
  clear h hc
  rcases Bool.eq_false_or_eq_true (raAB n L d) with t1 | t1
  · obtain ⟨m, hm, hn, hl, hs, -, hG, hcn⟩ := ask_parts t1
    have hy := brkB_yes (k := k) t1
    have HDL := hid (rints_lst HD.out hl)
    rw [hm] at hy
    subst hn
    have HY := hid hy
    have HS := hid hs
    clear hy hs hm hl
    rcases Bool.eq_false_or_eq_true (inB k 0 9) with t2 | t2
    · obtain ⟨j, hj⟩ : ∃ j : Nat, k.toNat = j := ⟨_, rfl⟩
      have hk9 := inB_iff.1 t2
      have hkj : k = (j : Int) := by omega
      have hj9 : j ≤ 15 := by omega
      have hy := HY.out t2
      rw [hj] at hy
      subst hkj
      have HY := hid hy
      have HT := hid t2
      clear hj hk9 t2 hy
      go_enter Try.func70, Try.ntmps70
      go_wp2_with fail
      refine (smallGame_yes m _ _ L d _ HR.out HD.out t1).mono ?_
      rintro e w1 ⟨g, rfl, hg, hb1⟩
      have HB1 := hid hb1
      have HG1 := hid hg
      have HD1 := hid (HDL.out.keep hb1)
      clear hb1 hg
      go_wp2_with (go_at_call 157; (with_reducible refine (within_c _ _ _ _).mono ?_); rintro e w' ⟨rfl, rfl⟩; rw [HT.out])
      refine (breaking_c m j _ _ L _ _ HG1.out hG hcn HD1.out HS.out hj9).mono ?_
      rintro e w2 ⟨q, rfl, hF, hb2⟩
      have HF := hid (And.intro (hF.mono HB1.out.size (Nat.le_refl _)) (HB1.out.trans (hb2.mono HB1.out.size)))
      obtain ⟨a6, n6, c6, rfl⟩ := hF.form3
      clear hF hb2
      go_wp2
      go_ret2
      exact ⟨_, by rw [HY.out]; rfl, by rw [HY.out]; exact HF.out.1, HF.out.2⟩
    · have HE := hid (brkB_no2 (n := (m : Int)) (L := L) (d := d) t2)
      go_enter Try.func70, Try.ntmps70
      go_wp2_with fail
      refine (smallGame_yes m _ _ L d _ HR.out HD.out t1).mono ?_
      rintro e w1 ⟨g, rfl, hg, hb1⟩
      go_wp2_with (go_at_call 157; (with_reducible refine (within_c _ _ _ _).mono ?_); rintro e w' ⟨rfl, rfl⟩; rw [t2])
      go_ret2
      exact ⟨_, by rw [HE.out]; rfl, by rw [HE.out]; exact ints_nil _ _ _, hb1⟩
  · have HE := hid (brkB_no1 (k := k) t1)
    go_enter Try.func70, Try.ntmps70
    go_wp2_with fail
    refine (smallGame_no n _ _ L d _ HR.out HD.out t1).mono ?_
    rintro e w1 ⟨g, rfl, hb1⟩
    go_wp2
    go_ret2
    exact ⟨_, by rw [HE.out]; rfl, by rw [HE.out]; exact ints_nil _ _ _, hb1⟩

end Go.Proofs.Ytlehhfmbdcmpoaa
