/- The critical chain, whole: both programs' functions. -/
import Derived.Test.YtegeelldcomnnaaCrit2
namespace Go.Proofs.Ytegeelldcomnnaa
open Go.RowKit
open Go.Lib (hid)

/-- the first chain from a task that starts at 0, from task i on -/
def chnL (f : Nat → Option (List Int)) : Nat → List Int → Option (List Int)
  | _, [] => none
  | i, x :: xs => if x == 0 then (match f i with | some r => some r | none => chnL f (i + 1) xs) else chnL f (i + 1) xs
theorem chnL_nil (f : Nat → Option (List Int)) (i : Nat) : chnL f i [] = none := rfl
theorem chnL_no {f : Nat → Option (List Int)} {i : Nat} {x : Int} {xs : List Int} (h : (x == 0) = false) : chnL f i (x :: xs) = chnL f (i + 1) xs := by rw [chnL, h]; rfl
theorem chnL_none {f : Nat → Option (List Int)} {i : Nat} {x : Int} {xs : List Int} (h : f i = none) : chnL f i (x :: xs) = chnL f (i + 1) xs := by rw [chnL, h]; split <;> rfl
theorem chnL_some {f : Nat → Option (List Int)} {i : Nat} {x : Int} {xs r : List Int} (h : (x == 0) = true) (h1 : f i = some r) : chnL f i (x :: xs) = some r := by rw [chnL, h, h1]; rfl
theorem chnL_len {f : Nat → Option (List Int)} {d : Nat} (hf : ∀ i r, f i = some r → r.length ≤ d) : ∀ (xs : List Int) (i : Nat) (r : List Int), chnL f i xs = some r → r.length ≤ d := by
  intro xs
  induction xs with
  | nil => intro i r h; rw [chnL_nil] at h; cases h
  | cons x xs ih =>
    intro i r h
    rcases Bool.eq_false_or_eq_true (x == 0) with t | t
    · cases hk : f i with
      | none => rw [chnL_none hk] at h; exact ih _ _ h
      | some r' => rw [chnL_some t hk] at h; cases h; exact hf _ _ hk
    · rw [chnL_no t] at h; exact ih _ _ h
def optB : Option (List Int) → List Int × Bool
  | none => ([], false)
  | some r => (r, true)
def chnF (L : List Tsk) : Option (List Int) := chnL (critF L (earlyF L) (endF L (earlyF L)) L.length) 0 (earlyF L)
def chnB (L : List Tsk) : List Int × Bool := if tasksB L then optB (chnF L) else ([], false)
theorem chnB_no {L : List Tsk} (h : tasksB L = false) : chnB L = ([], false) := by rw [chnB, h]; rfl
theorem chnB_some {L : List Tsk} (h : tasksB L = true) {r : List Int} (h1 : chnF L = some r) : chnB L = (r, true) := by rw [chnB, h, h1]; rfl
theorem chnB_none {L : List Tsk} (h : tasksB L = true) (h1 : chnF L = none) : chnB L = ([], false) := by rw [chnB, h, h1]; rfl
theorem chnB_len (L : List Tsk) : (chnB L).1.length ≤ 12 := by
  rcases Bool.eq_false_or_eq_true (tasksB L) with h | h
  · cases hc : chnF L with
    | none => rw [chnB_none h hc]; simp
    | some r =>
      rw [chnB_some h hc]
      have := chnL_len (d := L.length) (fun i r h => critF_len _ _ _ h) _ _ _ hc
      have := (tasksB_at h).1
      show r.length ≤ 12
      omega
  · rw [chnB_no h]; simp

set_option maxRecDepth 100000 in
set_option maxHeartbeats 2000000 in
theorem sCriticalChain_u (v : Value) (L : List Tsk) (w : World) (h : RTasks w v L) :
    Calls Try.prog 49 #[v] w (RetIntsB w (chnB L)) := by
  rcases Bool.eq_false_or_eq_true (tasksB L) with t | t
  · have HG := hid (good_of_tasksB t)
    have HTB := hid t
    have HOK := hid (earlyF_ok HG.out)
    have hl12 := HG.out.1
    have HR := hid h
    obtain ⟨a', cap', rfl, q1', q2', hcc⟩ := h
    clear hcc
    unfold maxLen at q2'
    have hnil := fun (w : World) (a : Option Addr) (n c : Nat) => Go.run_neq_slice_nil_any (P := Try.prog) w 36 3 a n c 0 0 Try.underlying36
    go_enter Try.func49, Try.ntmps49
    go_wp2_with fail
    refine (pjGood_c _ L _ HR.out).mono ?_
    rintro e w1 ⟨rfl, hb1⟩
    rw [t]
    have H1 := hid (HR.out.keep hb1)
    have HB1 := hid hb1
    clear hb1
    go_wp2_with fail
    refine (pjEarly_c _ L _ H1.out HG.out).mono ?_
    rintro e w2 ⟨u, rfl, hF, hb2⟩
    have H2 := hid (H1.out.keep hb2)
    have hU := hF.r
    have HU := hid hU
    have HB2 := hid (HB1.out.trans (hb2.mono HB1.out.size))
    obtain ⟨b, capb, rfl, z1, z2, hcu⟩ := hU
    unfold maxLen at z2
    have hSl := HOK.out.1
    rw [hSl] at z1 HU
    rw [hSl]
    have HSL := hid hSl
    obtain ⟨E, hE⟩ : ∃ E, endF L (earlyF L) = E := ⟨_, rfl⟩
    have HE := hid hE
    have HCF : Hid (chnF L = chnL (critF L (earlyF L) E L.length) 0 (earlyF L)) := by show _ = _; rw [chnF, hE]
    clear hb2 hF hcu hSl hE
    go_wp2
    go_loopg [16] L.length (fun gk iv wr => ∃ k : Nat, k ≤ L.length ∧ gk = L.length - k ∧ iv = .int .i64 k ∧ chnF L = chnL (critF L (earlyF L) E L.length) k ((earlyF L).drop k) ∧ Below w2.heap.size w2 wr)
    case atStart => exact ⟨0, Nat.zero_le _, rfl, rfl, by rw [List.drop_zero]; exact HCF.out, Below.refl _ _⟩
    case round =>
      obtain ⟨k, hk, rfl, rfl, hr, hb⟩ := hrel
      have HRR := hid hr
      have HB := hid hb
      have HBW := hid (HB2.out.trans (hb.mono HB2.out.size))
      clear hr hb
      by_cases hlt : k < L.length
      · obtain ⟨b', capb', hv, _, _, hcu⟩ := HU.out.keep HB.out
        rw [HSL.out] at hv
        simp only [Value.slice.injEq, true_and] at hv
        obtain ⟨rfl, rfl⟩ := hv
        obtain ⟨gs, os, x, rfl, e1, HD, HX⟩ := ints_at hcu (show k < (earlyF L).length by rw [HSL.out]; exact hlt)
        have HTA := hid (H2.out.keep HB.out)
        have HUA := hid (HU.out.keep HB.out)
        have hltz : (k : Int) < (L.length : Int) := by omega
        clear hcu
        rcases Bool.eq_false_or_eq_true (x == 0) with t2 | t2
        · have t3 := bne_of_true t2
          go_wp2_with fail
          refine (pjEnd_c _ _ L _ _ HTA.out HUA.out HOK.out.1 (startsOk_bound HOK.out.2 (by rw [HOK.out.1]; exact hl12)) (good_times HG.out)).mono ?_
          rintro e w3 ⟨rfl, hb3⟩
          rw [HE.out]
          have HB3 := hid (HB.out.trans (hb3.mono HB.out.size))
          clear e1 hb3
          have HL3 := hid (one_lit w3 w2.heap.size HB3.out.size (k : Int))
          have HB4 := hid (HB3.out.alloc HB3.out.size (.cells #[.int .i64 (k : Int)] 3))
          go_wp2_with fail
          refine (pjChain_c _ _ L _ E w2 w2.heap.size H2.out HU.out HG.out HSL.out HOK.out.2 L.length k [] _ _ HB4.out hl12 hlt (by omega) (by show 0 + _ ≤ _; omega) HB4.out.size (fints_new HL3.out)).mono ?_
          intro e' w5 hret
          rcases hret with ⟨ho, rfl, hb5⟩ | ⟨xs, v5, ho, rfl, hF5, hb5⟩
          · rw [Option.map_eq_none_iff] at ho
            have HST : Hid (chnL (critF L (earlyF L) E L.length) k ((earlyF L).drop k) = chnL (critF L (earlyF L) E L.length) (k + 1) ((earlyF L).drop (k + 1))) := by show _ = _; rw [HD.out, chnL_none ho]
            have HB5 := hid (HB4.out.trans (hb5.mono HB4.out.size))
            clear ho hb5
            go_wp2
            go_roundg (L.length - (k + 1))
            case rel => exact ⟨k + 1, by omega, rfl, by go_num, by rw [HRR.out, HST.out], HB5.out⟩
            case measure => omega
          · obtain ⟨ys, hys, hxs⟩ := Option.map_eq_some_iff.1 ho
            have hxs' : ys = xs := by simpa using hxs
            subst hxs'
            have HST := hid (chnB_some HTB.out (by rw [HRR.out, HD.out, chnL_some t2 hys]))
            have HB5 := hid (HB2.out.trans ((HB4.out.trans (hb5.mono HB4.out.size)).mono HB2.out.size))
            have HF5 := hid (hF5.mono HB2.out.size (Nat.le_refl _))
            clear ho hys hxs hb5 hF5
            go_wp2
            go_ret2
            exact ⟨v5, by rw [HST.out]; rfl, by rw [HST.out]; exact HF5.out, HB5.out⟩
        · have t3 := bne_of_false t2
          have HST : Hid (chnL (critF L (earlyF L) E L.length) k ((earlyF L).drop k) = chnL (critF L (earlyF L) E L.length) (k + 1) ((earlyF L).drop (k + 1))) := by show _ = _; rw [HD.out, chnL_no t2]
          go_wp2_with fail
          go_roundg (L.length - (k + 1))
          case rel => exact ⟨k + 1, by omega, rfl, by go_num, by rw [HRR.out, HST.out], HB.out⟩
          case measure => omega
      · have HST := hid (chnB_none HTB.out (by rw [HRR.out, List.drop_eq_nil_of_le (by rw [HSL.out]; omega), chnL_nil]))
        go_wp2
        go_ret2
        exact retIntsB_no HBW.out HST.out _ rfl
  · have HB := hid (chnB_no t)
    go_enter Try.func49, Try.ntmps49
    go_wp2_with fail
    refine (pjGood_c _ L _ h).mono ?_
    rintro e w1 ⟨rfl, hb1⟩
    rw [t]
    go_wp2
    go_ret2
    exact retIntsB_no hb1 HB.out _ rfl

set_option maxRecDepth 100000 in
set_option maxHeartbeats 2000000 in
theorem iCriticalChain_u (v : Value) (L : List Tsk) (w : World) (h : RTasks w v L) :
    Calls Try.prog 48 #[v] w (RetIntsB w (chnB L)) := by
  rcases Bool.eq_false_or_eq_true (tasksB L) with t | t
  · have HG := hid (good_of_tasksB t)
    have HTB := hid t
    have HOK := hid (earlyF_ok HG.out)
    have hl12 := HG.out.1
    have HR := hid h
    obtain ⟨a', cap', rfl, q1', q2', hcc⟩ := h
    clear hcc
    unfold maxLen at q2'
    have hnil := fun (w : World) (a : Option Addr) (n c : Nat) => Go.run_neq_slice_nil_any (P := Try.prog) w 36 3 a n c 0 0 Try.underlying36
    go_enter Try.func48, Try.ntmps48
    go_wp2_with fail
    refine (areTasks_c _ L _ HR.out).mono ?_
    rintro e w1 ⟨rfl, hb1⟩
    rw [t]
    have H1 := hid (HR.out.keep hb1)
    have HB1 := hid hb1
    clear hb1
    go_wp2_with fail
    refine (earliest_c _ L _ H1.out HG.out).mono ?_
    rintro e w2 ⟨u, rfl, hF, hb2⟩
    have H2 := hid (H1.out.keep hb2)
    have hU := hF.r
    have HU := hid hU
    have HB2 := hid (HB1.out.trans (hb2.mono HB1.out.size))
    obtain ⟨b, capb, rfl, z1, z2, hcu⟩ := hU
    unfold maxLen at z2
    have hSl := HOK.out.1
    rw [hSl] at z1 HU
    rw [hSl]
    have HSL := hid hSl
    obtain ⟨E, hE⟩ : ∃ E, endF L (earlyF L) = E := ⟨_, rfl⟩
    have HE := hid hE
    have HCF : Hid (chnF L = chnL (critF L (earlyF L) E L.length) 0 (earlyF L)) := by show _ = _; rw [chnF, hE]
    clear hb2 hF hcu hSl hE
    go_wp2
    go_loopg [15] L.length (fun gk iv wr => ∃ k : Nat, k ≤ L.length ∧ gk = L.length - k ∧ iv = .int .i64 k ∧ chnF L = chnL (critF L (earlyF L) E L.length) k ((earlyF L).drop k) ∧ Below w2.heap.size w2 wr)
    case atStart => exact ⟨0, Nat.zero_le _, rfl, rfl, by rw [List.drop_zero]; exact HCF.out, Below.refl _ _⟩
    case round =>
      obtain ⟨k, hk, rfl, rfl, hr, hb⟩ := hrel
      have HRR := hid hr
      have HB := hid hb
      have HBW := hid (HB2.out.trans (hb.mono HB2.out.size))
      clear hr hb
      by_cases hlt : k < L.length
      · obtain ⟨b', capb', hv, _, _, hcu⟩ := HU.out.keep HB.out
        rw [HSL.out] at hv
        simp only [Value.slice.injEq, true_and] at hv
        obtain ⟨rfl, rfl⟩ := hv
        obtain ⟨gs, os, x, rfl, e1, HD, HX⟩ := ints_at hcu (show k < (earlyF L).length by rw [HSL.out]; exact hlt)
        have HTA := hid (H2.out.keep HB.out)
        have HUA := hid (HU.out.keep HB.out)
        have hltz : (k : Int) < (L.length : Int) := by omega
        clear hcu
        rcases Bool.eq_false_or_eq_true (x == 0) with t2 | t2
        · have t3 := bne_of_true t2
          go_wp2_with fail
          refine (endOf_c _ _ L _ _ HTA.out HUA.out HOK.out.1 (startsOk_bound HOK.out.2 (by rw [HOK.out.1]; exact hl12)) (good_times HG.out)).mono ?_
          rintro e w3 ⟨rfl, hb3⟩
          rw [HE.out]
          have HB3 := hid (HB.out.trans (hb3.mono HB.out.size))
          clear e1 hb3
          go_wp2_with fail
          refine (criticalChain_c _ _ L _ E w2 H2.out HU.out HG.out HSL.out HOK.out.2 L.length k _ HB3.out hl12 hlt (by omega)).mono ?_
          intro e' w5 hret
          rcases hret with ⟨ho, rfl, hb5⟩ | ⟨xs, g5, c5, ho, rfl, hF5, hb5⟩
          · have HST : Hid (chnL (critF L (earlyF L) E L.length) k ((earlyF L).drop k) = chnL (critF L (earlyF L) E L.length) (k + 1) ((earlyF L).drop (k + 1))) := by show _ = _; rw [HD.out, chnL_none ho]
            have HB5 := hid (HB3.out.trans (hb5.mono HB3.out.size))
            clear ho hb5
            go_wp2
            go_roundg (L.length - (k + 1))
            case rel => exact ⟨k + 1, by omega, rfl, by go_num, by rw [HRR.out, HST.out], HB5.out⟩
            case measure => omega
          · have HST := hid (chnB_some HTB.out (by rw [HRR.out, HD.out, chnL_some t2 ho]))
            have HB5 := hid (HB2.out.trans ((HB3.out.trans (hb5.mono HB3.out.size)).mono HB2.out.size))
            have HF5 := hid (hF5.mono (Nat.le_trans HB2.out.size HB3.out.size) (Nat.le_refl _))
            clear ho hb5 hF5
            go_wp2
            go_ret2
            exact ⟨_, by rw [HST.out]; rfl, by rw [HST.out]; exact HF5.out, HB5.out⟩
        · have t3 := bne_of_false t2
          have HST : Hid (chnL (critF L (earlyF L) E L.length) k ((earlyF L).drop k) = chnL (critF L (earlyF L) E L.length) (k + 1) ((earlyF L).drop (k + 1))) := by show _ = _; rw [HD.out, chnL_no t2]
          go_wp2_with fail
          go_roundg (L.length - (k + 1))
          case rel => exact ⟨k + 1, by omega, rfl, by go_num, by rw [HRR.out, HST.out], HB.out⟩
          case measure => omega
      · have HST := hid (chnB_none HTB.out (by rw [HRR.out, List.drop_eq_nil_of_le (by rw [HSL.out]; omega), chnL_nil]))
        go_wp2
        go_ret2
        exact retIntsB_no HBW.out HST.out _ rfl
  · have HB := hid (chnB_no t)
    go_enter Try.func48, Try.ntmps48
    go_wp2_with fail
    refine (areTasks_c _ L _ h).mono ?_
    rintro e w1 ⟨rfl, hb1⟩
    rw [t]
    go_wp2
    go_ret2
    exact retIntsB_no hb1 HB.out _ rfl

end Go.Proofs.Ytegeelldcomnnaa
