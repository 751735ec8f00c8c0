/- SplitLengths of both programs. -/
import Derived.Test.YtagjmakcooppoaaSplitsOf
namespace Go.Proofs.Ytagjmakcooppoaa
open Go.RowKit
open Go.Lib (hid)

def RetIntsT (w : World) (p : List Int × Bool) (e : Ending) (w' : World) : Prop := ∃ v, e = .returned (.tuple #[v, .bool p.2]) ∧ FInts w' w.heap.size w'.heap.size v p.1 ∧ Below w.heap.size w w'
def lengthsB (M : List (List Int)) : List Int × Bool := if treeB M then ((splL M).map (lenF M), true) else ([], false)
theorem lengthsB_yes {M : List (List Int)} (h : treeB M = true) : lengthsB M = ((splL M).map (lenF M), true) := by rw [lengthsB, h]; rfl
theorem lengthsB_no {M : List (List Int)} (h : treeB M = false) : lengthsB M = ([], false) := by rw [lengthsB, h]; rfl
theorem lengths_len (M : List (List Int)) : (lengthsB M).1.length ≤ 128 := by
  rcases Bool.eq_false_or_eq_true (treeB M) with t | t
  · rw [lengthsB_yes t]; simpa using (splL_small t).1
  · rw [lengthsB_no t]; simp

set_option maxHeartbeats 1000000 in
theorem iSplitLengths_u (v : Value) (M : List (List Int)) (w : World) (h : RMat w v M) :
    Calls Try.prog 43 #[v] w (RetIntsT w (lengthsB M)) := by
  rcases Bool.eq_false_or_eq_true (treeB M) with t | t
  · have HM := hid (lengthsB_yes t)
    have HT := hid t
    go_enter Try.func43, Try.ntmps43
    go_wp2_with fail
    refine (isTreeMetric_c _ M _ h).mono ?_
    rintro e w1 ⟨rfl, hb1⟩
    rw [t]
    have h1 := h.keep hb1
    have HB1 := hid hb1
    clear hb1
    go_wp2_with fail
    refine (splits_c _ M _ (treeB_met HT.out) h1).mono ?_
    rintro e w2 ⟨u, u2, rfl, _, hF, hb2⟩
    have HF := hid (hF.mono HB1.out.size (Nat.le_refl _))
    have HB2 := hid (HB1.out.trans (hb2.mono HB1.out.size))
    clear hF hb2
    go_wp2
    go_ret2
    exact ⟨u2, by rw [HM.out]; rfl, by rw [HM.out]; exact HF.out, HB2.out⟩
  · have HM := hid (lengthsB_no t)
    go_enter Try.func43, Try.ntmps43
    go_wp2_with fail
    refine (isTreeMetric_c _ M _ h).mono ?_
    rintro e w1 ⟨rfl, hb1⟩
    rw [t]
    go_wp2
    go_ret2
    exact ⟨_, by rw [HM.out]; rfl, by rw [HM.out]; exact ints_nil _ _ _, hb1⟩

theorem spl_in {M : List (List Int)} (hm : metB M = true) {s : List Int} (h : s ∈ splL M) : (∀ x ∈ s, 0 ≤ x ∧ x < (M.length : Int)) ∧ s.length ≤ 1048576 := by
  have hp := metB_parts hm
  have := sides_in (List.mem_filter.1 h).1 (show 1 ≤ M.length by omega)
  exact ⟨this.1, by omega⟩

set_option maxRecDepth 100000 in
set_option maxHeartbeats 2000000 in
theorem sSplitLengths_u (v : Value) (M : List (List Int)) (w : World) (h : RMat w v M) :
    Calls Try.prog 42 #[v] w (RetIntsT w (lengthsB M)) := by
  rcases Bool.eq_false_or_eq_true (treeB M) with t | t
  · have HM := hid (lengthsB_yes t)
    have HT := hid (treeB_met t)
    have HSM := hid (splL_small t).1
    go_enter Try.func42, Try.ntmps42
    go_wp2_with fail
    refine (slTree_c _ M _ h).mono ?_
    rintro e w1 ⟨rfl, hb1⟩
    rw [t]
    have H1 := hid (h.keep hb1)
    have HB1 := hid hb1
    clear hb1
    go_wp2_with fail
    refine (slOf_c _ M _ HT.out H1.out).mono ?_
    rintro e w2 ⟨u, rfl, hF, hb2⟩
    have H2 := hid (H1.out.keep hb2)
    have HB2 := hid (HB1.out.trans (hb2.mono HB1.out.size))
    obtain ⟨L, hL⟩ : ∃ L, splL M = L := ⟨_, rfl⟩
    have HIN : Hid (∀ s ∈ L, (∀ x ∈ s, 0 ≤ x ∧ x < (M.length : Int)) ∧ s.length ≤ 1048576) := fun s hs => spl_in HT.out (by rw [hL]; exact hs)
    rw [hL] at hF HM HSM
    have hsm := HSM.out
    have HFR := hid hF.r
    obtain ⟨a, cap, rfl⟩ := hF.form
    clear hF hb2 hL
    go_wp2
    go_loopg [4, 13] L.length (fun gk o iv wr => ∃ k : Nat, ∃ acc : List Int, k ≤ L.length ∧ gk = L.length - k ∧ iv = .int .i64 k ∧ acc.length ≤ k ∧ L.map (lenF M) = acc ++ (L.drop k).map (lenF M) ∧ FInts wr w2.heap.size wr.heap.size o acc ∧ Below w2.heap.size w2 wr)
    case atStart => exact ⟨0, [], Nat.zero_le _, rfl, rfl, Nat.zero_le _, rfl, ints_nil _ _ _, Below.refl _ _⟩
    case round =>
      obtain ⟨k, acc, hk, rfl, rfl, hacc, hr, hF, hb⟩ := hrel
      have HRR := hid hr
      have HB := hid hb
      obtain ⟨ao, co, rfl⟩ := hF.form
      have HF := hid hF
      clear hr hb hF
      by_cases hlt : k < L.length
      · have hltz : (k : Int) < (L.length : Int) := by omega
        obtain ⟨a', cap', hv, _, _, hc⟩ := HFR.out.keep HB.out
        simp only [Value.slice.injEq, true_and] at hv
        obtain ⟨rfl, rfl⟩ := hv
        obtain ⟨g, o, r, y, rfl, hcell, hy, HD, HX⟩ := mat_at hc hlt
        have HRZ := hid hy
        have HSI := hid (HIN.out y (by rw [← HX.out]; simp [List.getD, List.getElem?_eq_getElem hlt]))
        have H3 := H2.out.keep HB.out
        have HST : Hid (L.map (lenF M) = acc ++ lenF M y :: (L.drop (k + 1)).map (lenF M)) := by show _ = _; rw [HRR.out, HD.out]; rfl
        clear hc hy
        go_wp2_with fail
        refine (slTwice_c _ _ M y _ HT.out H3 HRZ.out HSI.out.1 HSI.out.2).mono ?_
        rintro e w3 ⟨rfl, hb3⟩
        obtain ⟨q, hq⟩ : ∃ q, lenF M y = q := ⟨_, rfl⟩
        rw [hq] at HST ⊢
        have hF3 := (HF.out.keep hb3).mono (Nat.le_refl _) hb3.size
        have hB3 := HB.out.trans (hb3.mono HB.out.size)
        obtain ⟨p1, p2, p3, p4, p5⟩ := push_round2 q (by omega) hF3 hB3 hB3.size
        have P5 := hid p5
        clear hF3 hB3 hb3 hcell H3 p5 hq
        go_wp2_with (at_builtin; refine wpList_append_ints rfl _ _ rfl _ _ _ _ _ [q] rfl rfl p1 p2 p3 p4 ?_; intro v' w' hF' hg hn')
        go_roundg (L.length - (k + 1))
        case rel => exact ⟨k + 1, acc ++ [q], by omega, rfl, by go_num, by simp; omega, by rw [HST.out, List.append_assoc]; rfl, hF', P5.out _ hg⟩
        case measure => omega
      · have HST : Hid (L.map (lenF M) = acc) := by show _ = _; rw [HRR.out, List.drop_eq_nil_of_le (show L.length ≤ k by omega)]; simp
        go_wp2
        go_ret2
        exact ⟨_, by rw [HM.out]; rfl, by rw [HM.out, HST.out]; exact HF.out.mono HB2.out.size (Nat.le_refl _), HB2.out.trans (HB.out.mono HB2.out.size)⟩
  · have HM := hid (lengthsB_no t)
    go_enter Try.func42, Try.ntmps42
    go_wp2_with fail
    refine (slTree_c _ M _ h).mono ?_
    rintro e w1 ⟨rfl, hb1⟩
    rw [t]
    go_wp2
    go_ret2
    exact ⟨_, by rw [HM.out]; rfl, by rw [HM.out]; exact ints_nil _ _ _, hb1⟩

end Go.Proofs.Ytagjmakcooppoaa
