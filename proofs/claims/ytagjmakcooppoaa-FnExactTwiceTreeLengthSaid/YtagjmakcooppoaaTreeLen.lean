/- TwiceTreeLength of both programs. -/
import Derived.Test.YtagjmakcooppoaaSplitLen
namespace Go.Proofs.Ytagjmakcooppoaa
open Go.RowKit
open Go.Lib (hid)

def sumI : List Int → Int
  | [] => 0
  | x :: xs => x + sumI xs
theorem sumI_cons (x : Int) (xs : List Int) : sumI (x :: xs) = x + sumI xs := rfl
theorem sumI_nil : sumI [] = 0 := rfl
theorem sumI_range {b : Int} : ∀ (l : List Int), (∀ x ∈ l, 0 ≤ x ∧ x ≤ b) → 0 ≤ sumI l ∧ sumI l ≤ b * l.length := by
  intro l
  induction l with
  | nil => intro _; simp [sumI]
  | cons x xs ih =>
    intro h
    have h1 := ih (fun y hy => h y (List.mem_cons_of_mem _ hy))
    have h2 := h x (List.mem_cons_self ..)
    rw [sumI_cons, List.length_cons]
    have h3 : b * ((xs.length + 1 : Nat) : Int) = b * xs.length + b := by rw [Int.natCast_add, Int.mul_add]; simp
    omega

theorem lfold_le (f : Int → Int → Int) (hf : ∀ x s, f x s ≤ s) : ∀ (l : List Int) (s : Int), lfold f l s ≤ s := by
  intro l
  induction l with
  | nil => intro s; exact Int.le_refl _
  | cons x xs ih => intro s; rw [lfold_cons]; exact Int.le_trans (ih _) (hf x s)
theorem lenF_range (M : List (List Int)) (S : List Int) : 0 ≤ lenF M S ∧ lenF M S ≤ 1000000000 := by
  have h1 := lfold_le (lenA M S (othF M.length S)) (fun a s => lfold_le _ (fun b s => lfold_le _ (fun c s => lfold_le _ (fun d s => by rw [lenD]; omega) _ s) _ s) _ s) S 1000000000
  rw [lenF]
  omega

def treeLenB (M : List (List Int)) : Int × Bool := if treeB M then (sumI ((splL M).map (lenF M)), true) else (0, false)
theorem treeLenB_yes {M : List (List Int)} (h : treeB M = true) : treeLenB M = (sumI ((splL M).map (lenF M)), true) := by rw [treeLenB, h]; rfl
theorem treeLenB_no {M : List (List Int)} (h : treeB M = false) : treeLenB M = (0, false) := by rw [treeLenB, h]; rfl

set_option maxHeartbeats 1000000 in
theorem total_c (v : Value) (l : List Int) (w : World) (h : RInts w v l) (hl : l.length ≤ 128) (hr : ∀ x ∈ l, 0 ≤ x ∧ x ≤ 1000000000) :
    Calls Try.prog 78 #[v] w fun e w' => e = .returned (.int .i64 (sumI l)) ∧ w = w' := by
  obtain ⟨a, cap, rfl, h1, h2, hc⟩ := h
  unfold maxLen at h2
  have HRG := hid hr
  clear hr
  go_enter Try.func78, Try.ntmps78
  go_wp2
  go_loopg [3, 8] l.length (fun gk sv iv wr => ∃ k : Nat, ∃ s : Int, k ≤ l.length ∧ gk = l.length - k ∧ iv = .int .i64 k ∧ sv = .int .i64 s ∧ sumI l = s + sumI (l.drop k) ∧ 0 ≤ s ∧ s ≤ 1000000000 * k ∧ wr = w)
  case atStart => exact ⟨0, 0, Nat.zero_le _, rfl, rfl, rfl, by simp, by omega, by omega, rfl⟩
  case round =>
    obtain ⟨k, s, hk, rfl, rfl, rfl, hr, hs0, hs1, rfl⟩ := hrel
    have HRR := hid hr
    clear hr
    by_cases hlt : k < l.length
    · have hltz : (k : Int) < (l.length : Int) := by omega
      obtain ⟨g, o, x, rfl, hcell, HD, HX⟩ := ints_at hc hlt
      have hx := HRG.out x (by rw [← HX.out]; simp [List.getD, List.getElem?_eq_getElem hlt])
      have HST : Hid (sumI l = s + x + sumI (l.drop (k + 1))) := by show _ = _; rw [HRR.out, HD.out, sumI_cons]; omega
      have HC := hid hc
      have f1 : IntKind.i64.wrap (s + x) = s + x := IntWalk.i64_in _ (by omega)
      clear hc
      go_wp2
      go_roundg (l.length - (k + 1))
      case rel => exact ⟨k + 1, s + x, by omega, rfl, by go_num, rfl, HST.out, by omega, by omega, rfl⟩
      case measure => omega
    · have HST : Hid (sumI l = s) := by show _ = _; rw [HRR.out, List.drop_eq_nil_of_le (show l.length ≤ k by omega), sumI_nil]; omega
      go_wp2
      go_ret
      exact ⟨ret_int (by rw [HST.out]), rfl⟩

theorem lens_range (M : List (List Int)) : ∀ x ∈ (splL M).map (lenF M), 0 ≤ x ∧ x ≤ 1000000000 := fun x hx => by
  obtain ⟨s, _, rfl⟩ := List.mem_map.1 hx
  exact lenF_range M s

set_option maxHeartbeats 1000000 in
theorem iTwiceTreeLength_u (v : Value) (M : List (List Int)) (w : World) (h : RMat w v M) :
    Calls Try.prog 39 #[v] w fun e w' => e = .returned (.tuple #[.int .i64 (treeLenB M).1, .bool (treeLenB M).2]) ∧ Below w.heap.size w w' := by
  rcases Bool.eq_false_or_eq_true (treeB M) with t | t
  · have HM := hid (treeLenB_yes t)
    have HT := hid t
    go_enter Try.func39, Try.ntmps39
    go_wp2_with fail
    refine (isTreeMetric_c _ M _ h).mono ?_
    rintro e w1 ⟨rfl, hb1⟩
    rw [t]
    have h1 := h.keep hb1
    have HB1 := hid hb1
    clear hb1
    go_wp2_with fail
    refine (splits_c _ M _ (treeB_met HT.out) h1).mono ?_
    rintro e w2 ⟨u, u2, rfl, _, hF, hb2⟩
    have HF := hid hF.r
    have HB2 := hid (HB1.out.trans (hb2.mono HB1.out.size))
    clear hF hb2
    go_wp2_with (go_at_call 78; refine (total_c _ _ _ HF.out (by rw [List.length_map]; exact (splL_small HT.out).1) (lens_range M)).mono ?_; rintro e w' ⟨rfl, rfl⟩)
    go_ret2
    exact ⟨by rw [HM.out]; rfl, HB2.out⟩
  · have HM := hid (treeLenB_no t)
    go_enter Try.func39, Try.ntmps39
    go_wp2_with fail
    refine (isTreeMetric_c _ M _ h).mono ?_
    rintro e w1 ⟨rfl, hb1⟩
    rw [t]
    go_wp2
    go_ret2
    exact ⟨by rw [HM.out]; rfl, hb1⟩

set_option maxRecDepth 100000 in
set_option maxHeartbeats 2000000 in
theorem sTwiceTreeLength_u (v : Value) (M : List (List Int)) (w : World) (h : RMat w v M) :
    Calls Try.prog 38 #[v] w fun e w' => e = .returned (.tuple #[.int .i64 (treeLenB M).1, .bool (treeLenB M).2]) ∧ Below w.heap.size w w' := by
  rcases Bool.eq_false_or_eq_true (treeB M) with t | t
  · have HM := hid (treeLenB_yes t)
    have HT := hid (treeB_met t)
    have HSM := hid (splL_small t).1
    go_enter Try.func38, Try.ntmps38
    go_wp2_with fail
    refine (slTree_c _ M _ h).mono ?_
    rintro e w1 ⟨rfl, hb1⟩
    rw [t]
    have H1 := hid (h.keep hb1)
    have HB1 := hid hb1
    clear hb1
    go_wp2_with fail
    refine (slOf_c _ M _ HT.out H1.out).mono ?_
    rintro e w2 ⟨u, rfl, hF, hb2⟩
    have H2 := hid (H1.out.keep hb2)
    have HB2 := hid (HB1.out.trans (hb2.mono HB1.out.size))
    obtain ⟨L, hL⟩ : ∃ L, splL M = L := ⟨_, rfl⟩
    have HIN : Hid (∀ s ∈ L, (∀ x ∈ s, 0 ≤ x ∧ x < (M.length : Int)) ∧ s.length ≤ 1048576) := fun s hs => spl_in HT.out (by rw [hL]; exact hs)
    rw [hL] at hF HM HSM
    have hsm := HSM.out
    have HFR := hid hF.r
    obtain ⟨a, cap, rfl⟩ := hF.form
    clear hF hb2 hL
    go_wp2
    go_loopg [4, 13] L.length (fun gk sv iv wr => ∃ k : Nat, ∃ s : Int, k ≤ L.length ∧ gk = L.length - k ∧ iv = .int .i64 k ∧ sv = .int .i64 s ∧ sumI (L.map (lenF M)) = s + sumI ((L.drop k).map (lenF M)) ∧ 0 ≤ s ∧ s ≤ 1000000000 * k ∧ Below w2.heap.size w2 wr)
    case atStart => exact ⟨0, 0, Nat.zero_le _, rfl, rfl, rfl, by simp, by omega, by omega, Below.refl _ _⟩
    case round =>
      obtain ⟨k, s, hk, rfl, rfl, rfl, hr, hs0, hs1, hb⟩ := hrel
      have HRR := hid hr
      have HB := hid hb
      clear hr hb
      by_cases hlt : k < L.length
      · have hltz : (k : Int) < (L.length : Int) := by omega
        obtain ⟨a', cap', hv, _, _, hc⟩ := HFR.out.keep HB.out
        simp only [Value.slice.injEq, true_and] at hv
        obtain ⟨rfl, rfl⟩ := hv
        obtain ⟨g, o, r, y, rfl, hcell, hy, HD, HX⟩ := mat_at hc hlt
        have HRZ := hid hy
        have HSI := hid (HIN.out y (by rw [← HX.out]; simp [List.getD, List.getElem?_eq_getElem hlt]))
        have H3 := H2.out.keep HB.out
        have HST : Hid (sumI (L.map (lenF M)) = s + lenF M y + sumI ((L.drop (k + 1)).map (lenF M))) := by show _ = _; rw [HRR.out, HD.out, List.map_cons, sumI_cons]; omega
        have hq := lenF_range M y
        clear hc hy
        go_wp2_with fail
        refine (slTwice_c _ _ M y _ HT.out H3 HRZ.out HSI.out.1 HSI.out.2).mono ?_
        rintro e w3 ⟨rfl, hb3⟩
        have HB3 := hid (HB.out.trans (hb3.mono HB.out.size))
        obtain ⟨q, hqq⟩ : ∃ q, lenF M y = q := ⟨_, rfl⟩
        rw [hqq] at HST hq ⊢
        have f1 : IntKind.i64.wrap (s + q) = s + q := IntWalk.i64_in _ (by omega)
        clear hb3 hcell H3 hqq
        go_wp2
        go_roundg (L.length - (k + 1))
        case rel => exact ⟨k + 1, s + q, by omega, rfl, by go_num, rfl, HST.out, by omega, by omega, HB3.out⟩
        case measure => omega
      · have HST : Hid (sumI (L.map (lenF M)) = s) := by show _ = _; rw [HRR.out, List.drop_eq_nil_of_le (show L.length ≤ k by omega)]; simp [sumI]
        go_wp2
        go_ret2
        exact ⟨by rw [HM.out, HST.out]; rfl, HB2.out.trans (HB.out.mono HB2.out.size)⟩
  · have HM := hid (treeLenB_no t)
    go_enter Try.func38, Try.ntmps38
    go_wp2_with fail
    refine (slTree_c _ M _ h).mono ?_
    rintro e w1 ⟨rfl, hb1⟩
    rw [t]
    go_wp2
    go_ret2
    exact ⟨by rw [HM.out]; rfl, hb1⟩

end Go.Proofs.Ytagjmakcooppoaa
