/- TreeDifference: both programs'. -/
import Derived.Test.YtcgcgmlonhganaaGreatInnerOf
import Derived.Test.YtcgcgmlonhganaaGreatSame
import Derived.Test.YtcgcgmlonhganaaGreatFuncsB
import Derived.Test.YtcgcgmlonhganaaGreatLawQ
namespace Go.Proofs.YtcgcgmlonhganaaGreat
open Go.RowKit
open Go.Lib (hid)

/-- how many of A are not in B -/
def inL (B : List (List Int)) (x : List Int) : Bool := B.any fun y => decide (x = y)
def missL (B : List (List Int)) : List (List Int) → Nat
  | [] => 0
  | x :: xs => missL B xs + if inL B x then 0 else 1
theorem missL_le (B : List (List Int)) : ∀ A : List (List Int), missL B A ≤ A.length
  | [] => Nat.le_refl _
  | x :: xs => by have := missL_le B xs; simp only [missL, List.length_cons]; split <;> omega
def tdB (A B : List (List Int)) : Int × Bool := if treeB A && (treeB B && decide (A.length = B.length)) then (((missL (innerL B) (innerL A) + missL (innerL A) (innerL B) : Nat) : Int), true) else (0, false)
theorem tdB_yes {A B : List (List Int)} (h1 : treeB A = true) (h2 : treeB B = true) (h3 : A.length = B.length) : tdB A B = (((missL (innerL B) (innerL A) + missL (innerL A) (innerL B) : Nat) : Int), true) := by unfold tdB; rw [h1, h2, decide_eq_true h3]; rfl
theorem tdB_no1 {A B : List (List Int)} (h1 : treeB A = false) : tdB A B = (0, false) := by unfold tdB; rw [h1]; rfl
theorem tdB_no2 {A B : List (List Int)} (h1 : treeB B = false) : tdB A B = (0, false) := by unfold tdB; rw [h1]; simp
theorem tdB_no3 {A B : List (List Int)} (h1 : ¬ A.length = B.length) : tdB A B = (0, false) := by unfold tdB; rw [decide_eq_false h1]; simp
def missFrom (B A : List (List Int)) (k : Nat) (n : Nat) : Prop := missL B A = n + missL B (A.drop k)

set_option maxRecDepth 100000 in
set_option maxHeartbeats 2000000 in
theorem slMissing_c (v u : Value) (A B : List (List Int)) (w : World) (h : RMat w v A) (h' : RMat w u B) (hA : A.length ≤ 128) (hB : B.length ≤ 128) :
    Calls Tryz.prog 27 #[v, u] w fun e w' => e = .returned (.int .i64 ((missL B A : Nat) : Int)) ∧ Below w.heap.size w w' := by
  have HA := hid h
  have HB := hid h'
  obtain ⟨a, cap, rfl, _, _, hc0⟩ := h
  obtain ⟨b, capb, rfl, _, _, hc1⟩ := h'
  clear hc0 hc1
  go_enter Tryz.func27, Tryz.ntmps27
  go_wp2
  go_loopg [5, 13] A.length (fun gk nv iv wr => ∃ k n : Nat, k ≤ A.length ∧ gk = A.length - k ∧ iv = .int .i64 k ∧ nv = .int .i64 n ∧ n ≤ k ∧ Hid (missL B A = n + missL B (A.drop k)) ∧ Below w.heap.size w wr)
  case atStart => exact ⟨0, 0, Nat.zero_le _, rfl, rfl, rfl, Nat.le_refl _, hid (by rw [List.drop_zero]; omega), Below.refl _ _⟩
  case round =>
    obtain ⟨wo, rfl⟩ : ∃ w' : World, w' = wr := ⟨_, rfl⟩
    obtain ⟨k, n, hk, rfl, rfl, rfl, hn, HM, hb⟩ := hrel
    have HBW := hid hb
    by_cases hlt : k < A.length
    · obtain ⟨a', cap', hv, _, _, hc⟩ := HA.out.keep hb
      simp only [Value.slice.injEq, true_and] at hv
      obtain ⟨rfl, rfl⟩ := hv
      obtain ⟨g, o, r, x, rfl, c1, hr, HD, _⟩ := mat_at hc hlt
      have HR := hid hr
      obtain ⟨ar, nr, cr, rfl⟩ := hr.form3
      have HB2 := hid (HB.out.keep hb)
      have hltz : (k : Int) < (A.length : Int) := by omega
      clear hc hb hr
      go_wp2
      go_loopg [8, 19] B.length (fun gk fv jv wr => ∃ (j : Nat) (f : Bool), j ≤ B.length ∧ gk = B.length - j ∧ jv = .int .i64 j ∧ fv = .bool f ∧ Hid (inL B x = (f || inL (B.drop j) x)) ∧ Below wo.heap.size wo wr)
      case atStart => exact ⟨0, false, Nat.zero_le _, rfl, rfl, rfl, hid (by rw [List.drop_zero]; simp), Below.refl _ _⟩
      case round =>
        obtain ⟨j, f, hj, rfl, rfl, rfl, HI, hb⟩ := hrel
        by_cases hltj : j < B.length
        · obtain ⟨b', capb', hv, _, _, hc⟩ := HB2.out.keep hb
          simp only [Value.slice.injEq, true_and] at hv
          obtain ⟨rfl, rfl⟩ := hv
          obtain ⟨g2, o2, r2, y, rfl, c2, hr2, HD2, _⟩ := mat_at hc hltj
          have HR2 := hid hr2
          obtain ⟨ar2, nr2, cr2, rfl⟩ := hr2.form3
          have HRX := hid (HR.out.keep hb)
          have hltz2 : (j : Int) < (B.length : Int) := by omega
          have HBB := hid hb
          clear hc hb hr2 c1
          have hst : inL B x = ((f || decide (x = y)) || inL (B.drop (j + 1)) x) := by
            rw [HI.out, HD2.out]; unfold inL; rw [List.any_cons, Bool.or_assoc]
          have HST := hid hst
          clear hst
          cases f
          · go_wp2_with fail
            refine (l1Same_c _ _ x y _ HRX.out HR2.out).mono ?_
            rintro e w' ⟨rfl, q, rfl⟩
            go_wp2
            go_roundg (B.length - (j + 1))
            case rel => exact ⟨j + 1, decide (x = y), by omega, rfl, by go_num, rfl, hid (by rw [HST.out]; simp), below_drewN HBB.out _⟩
            case measure => omega
          · go_wp2
            go_roundg (B.length - (j + 1))
            case rel => exact ⟨j + 1, true, by omega, rfl, by go_num, rfl, hid (by rw [HST.out]; simp), HBB.out⟩
            case measure => omega
        · have HE : Hid (inL B x = f) := by show _ = _; rw [HI.out, List.drop_eq_nil_of_le (by omega)]; simp [inL]
          have HBE := hid (HBW.out.trans (hb.mono HBW.out.size))
          have HSTEP : Hid (missL B A = (n + if inL B x then 0 else 1) + missL B (A.drop (k + 1))) := by
            show _ = _
            rw [HM.out, HD.out]; simp only [missL]; omega
          have f1 : IntKind.i64.wrap ((n : Int) + 1) = (n : Int) + 1 := IntWalk.i64_in _ (by omega)
          clear hb c1
          cases f
          · go_wp2
            go_roundg (A.length - (k + 1))
            case rel => exact ⟨k + 1, n + 1, by omega, rfl, by go_num, by go_num, by omega, hid (by rw [HSTEP.out, HE.out]; rfl), HBE.out⟩
            case measure => omega
          · go_wp2
            go_roundg (A.length - (k + 1))
            case rel => exact ⟨k + 1, n, by omega, rfl, by go_num, rfl, by omega, hid (by rw [HSTEP.out, HE.out]; rfl), HBE.out⟩
            case measure => omega
    · have HE : Hid (missL B A = n) := by show _ = _; rw [HM.out, List.drop_eq_nil_of_le (by omega)]; rfl
      clear hb
      go_wp2
      go_ret
      exact ⟨by rw [HE.out]; rfl, HBW.out⟩

set_option maxHeartbeats 1000000 in
theorem missF_c (r : Value) (x : List Int) (g : Nat) (s : Value) (y : List Int) (w : World) (hc : w.cell? ⟨g, 0, none⟩ = some s) (hs : RInts w s y) (hr : RInts w r x) :
    Calls Tryz.prog 51 (#[r] ++ #[.pointer (some ⟨g, 0, none⟩)]) w fun e w' => e = .returned (.bool (decide (y = x))) ∧ Below w.heap.size w w' := by
  show Calls Tryz.prog 51 #[r, .pointer (some ⟨g, 0, none⟩)] w _
  have HS := hid hs
  have HR := hid hr
  obtain ⟨a, n, c, rfl⟩ : ∃ a n c, s = .slice a n c := by obtain ⟨a, cap, rfl, _⟩ := hs; exact ⟨_, _, _, rfl⟩
  obtain ⟨a2, n2, c2, rfl⟩ : ∃ a n c, r = .slice a n c := by obtain ⟨a, cap, rfl, _⟩ := hr; exact ⟨_, _, _, rfl⟩
  clear hs hr
  go_enter Tryz.func51, Tryz.ntmps51
  go_wp2_with fail
  refine (equal_c _ _ y x _ HS.out HR.out).mono ?_
  rintro e w' ⟨rfl, q, rfl⟩
  go_wp2
  go_ret
  exact ⟨rfl, below_drewN (Below.refl _ _) _⟩
set_option maxRecDepth 100000 in
set_option maxHeartbeats 2000000 in
theorem countMissing_c (v u : Value) (A B : List (List Int)) (w : World) (h : RMat w v A) (h' : RMat w u B) (hA : A.length ≤ 128) (_ : B.length ≤ 128) :
    Calls Tryz.prog 25 #[v, u] w fun e w' => e = .returned (.int .i64 ((missL B A : Nat) : Int)) ∧ Below w.heap.size w w' := by
  have HA := hid h
  have HB := hid h'
  obtain ⟨a, cap, rfl, _, _, hc0⟩ := h
  obtain ⟨b, capb, rfl, _, _, hc1⟩ := h'
  clear hc0 hc1
  go_enter Tryz.func25, Tryz.ntmps25
  go_wp2
  go_loopg [5, 10] A.length (fun gk nv iv wr => ∃ k n : Nat, k ≤ A.length ∧ gk = A.length - k ∧ iv = .int .i64 k ∧ nv = .int .i64 n ∧ n ≤ k ∧ Hid (missL B A = n + missL B (A.drop k)) ∧ Below w.heap.size w wr)
  case atStart => exact ⟨0, 0, Nat.zero_le _, rfl, rfl, rfl, Nat.le_refl _, hid (by rw [List.drop_zero]; omega), Below.refl _ _⟩
  case round =>
    obtain ⟨wo, rfl⟩ : ∃ w' : World, w' = wr := ⟨_, rfl⟩
    obtain ⟨k, n, hk, rfl, rfl, rfl, hn, HM, hb⟩ := hrel
    have HBW := hid hb
    by_cases hlt : k < A.length
    · obtain ⟨a', cap', hv, _, _, hc⟩ := HA.out.keep hb
      simp only [Value.slice.injEq, true_and] at hv
      obtain ⟨rfl, rfl⟩ := hv
      obtain ⟨g, o, r, x, rfl, c1, hr, HD, _⟩ := mat_at hc hlt
      obtain ⟨ar, nr, cr, rfl⟩ := hr.form3
      have hal : Below wo.heap.size wo (wo.alloc (.cells #[.slice ar nr cr] 33)) := (Below.refl _ _).alloc (Nat.le_refl _) _
      have HR := hid (hr.keep hal)
      have HB2 := hid ((HB.out.keep hb).keep hal)
      have HCN := hid (cell_new wo (.slice ar nr cr) 33)
      have HAL := hid (HBW.out.trans (hal.mono HBW.out.size))
      obtain ⟨wa, hwa⟩ : ∃ wa, wo.alloc (.cells #[.slice ar nr cr] 33) = wa := ⟨_, rfl⟩
      obtain ⟨gb, hgb⟩ : ∃ gb, wo.heap.size = gb := ⟨_, rfl⟩
      have hltz : (k : Int) < (A.length : Int) := by omega
      have f1 : IntKind.i64.wrap ((n : Int) + 1) = (n : Int) + 1 := IntWalk.i64_in _ (by omega)
      have HSTEP : Hid (missL B A = (n + if inL B x then 0 else 1) + missL B (A.drop (k + 1))) := by
        show _ = _
        rw [HM.out, HD.out]; simp only [missL]; omega
      have HF : Hid (∀ r' x' w', Below wa.heap.size wa w' → RInts w' r' x' → x' ∈ B → Calls Tryz.prog 51 (#[r'] ++ #[.pointer (some ⟨gb, 0, none⟩)]) w' fun e w'' => e = .returned (.bool (decide (x = x'))) ∧ Below w'.heap.size w' w'') := fun r' x' w' hb' hr' _ => by
        rw [← hwa, ← hgb] at *
        exact missF_c r' x' wo.heap.size _ x w' ((hb'.cell (p := ⟨wo.heap.size, 0, none⟩) (cell_lt HCN.out)).trans HCN.out) (HR.out.keep hb') hr'
      have HWA := hid hwa
      have HGB := hid hgb
      have HB3 : Hid (RMat wa (.slice b B.length capb) B) := by show RMat _ _ _; rw [← hwa]; exact HB2.out
      have HAL3 : Hid (Below w.heap.size w wa) := by show Below _ _ _; rw [← hwa]; exact HAL.out
      clear hc hb hr hal hwa hgb HB2 HAL HCN
      go_wp2_with fail
      rw [HGB.out, HWA.out]
      refine (containsFuncMB_c _ B _ _ _ (fun y => decide (x = y)) HB3.out Tryz.call51 HF.out).mono ?_
      rintro e w5 ⟨rfl, hb5⟩
      have HBE := hid (HAL3.out.trans (hb5.mono HAL3.out.size))
      clear hb5
      obtain ⟨f, hf⟩ : ∃ f, (B.any fun y => decide (x = y)) = f := ⟨_, rfl⟩
      rw [hf]
      have HE : Hid (inL B x = f) := hf
      clear hf c1
      cases f
      · go_wp2
        go_roundg (A.length - (k + 1))
        case rel => exact ⟨k + 1, n + 1, by omega, rfl, by go_num, by go_num, by omega, hid (by rw [HSTEP.out, HE.out]; rfl), HBE.out⟩
        case measure => omega
      · go_wp2
        go_roundg (A.length - (k + 1))
        case rel => exact ⟨k + 1, n, by omega, rfl, by go_num, rfl, by omega, hid (by rw [HSTEP.out, HE.out]; rfl), HBE.out⟩
        case measure => omega
    · have HE : Hid (missL B A = n) := by show _ = _; rw [HM.out, List.drop_eq_nil_of_le (by omega)]; rfl
      clear hb
      go_wp2
      go_ret
      exact ⟨by rw [HE.out]; rfl, HBW.out⟩

theorem miss_small {A B : List (List Int)} (hA : A.length ≤ 128) (hB : B.length ≤ 128) : missL B A ≤ 128 ∧ missL A B ≤ 128 := ⟨Nat.le_trans (missL_le B A) hA, Nat.le_trans (missL_le A B) hB⟩
set_option maxRecDepth 100000 in
set_option maxHeartbeats 2000000 in
theorem sTreeDifference_u (v : Value) (A : List (List Int)) (u : Value) (B : List (List Int)) (w : World) (h : RMat w v A) (h' : RMat w u B) :
    Calls Tryz.prog 6 #[v, u] w fun e w' => e = .returned (.tuple #[.int .i64 (tdB A B).1, .bool (tdB A B).2]) ∧ Below w.heap.size w w' := by
  have HA := hid h
  have HB := hid h'
  obtain ⟨a, cap, rfl, hA1, hA2, hc0⟩ := h
  obtain ⟨b, capb, rfl, hB1, hB2, hc1⟩ := h'
  unfold maxLen at hA2 hB2
  clear hc0 hc1
  obtain ⟨nA, hnA⟩ : ∃ nA, A.length = nA := ⟨_, rfl⟩
  obtain ⟨nB, hnB⟩ : ∃ nB, B.length = nB := ⟨_, rfl⟩
  rw [hnA] at HA hA1 ⊢
  rw [hnB] at HB hB1 ⊢
  have HNA := hid hnA
  have HNB := hid hnB
  clear hnA hnB
  rcases Bool.eq_false_or_eq_true (treeB A) with t1 | t1
  · rcases Bool.eq_false_or_eq_true (treeB B) with t2 | t2
    · have HT1 := hid t1
      have HT2 := hid t2
      have hm1 := (metB_parts (treeB_met t1)).2.1
      have hm2 := (metB_parts (treeB_met t2)).2.1
      have h7 : nA ≤ 7 ∧ nB ≤ 7 := by have h1 : A.length = nA := HNA.out; have h2 : B.length = nB := HNB.out; omega
      clear hm1 hm2 t1 t2
      by_cases hl : nA = nB
      · subst hl
        have hy := tdB_yes HT1.out HT2.out (HNA.out.trans HNB.out.symm)
        have hs1 := (innerL_small HT1.out).1
        have hs2 := (innerL_small HT2.out).1
        have hms := miss_small hs1 hs2
        have HS1 := hid hs1
        have HS2 := hid hs2
        obtain ⟨m1, hm1⟩ : ∃ m, missL (innerL B) (innerL A) = m := ⟨_, rfl⟩
        obtain ⟨m2, hm2⟩ : ∃ m, missL (innerL A) (innerL B) = m := ⟨_, rfl⟩
        rw [hm1, hm2] at hy
        rw [hm1] at hms
        have hms2 : m2 ≤ 128 := by rw [← hm2]; exact (miss_small HS1.out HS2.out).2
        have HY := hid hy
        have HM1 := hid hm1
        have HM2 := hid hm2
        have hz : ((nA : Int) != (nA : Int)) = false := by simp
        have hm1b := hms.1
        have f1 : IntKind.i64.wrap ((m1 : Int) + (m2 : Int)) = (m1 : Int) + (m2 : Int) := IntWalk.i64_in _ (by omega)
        clear hy hm1 hm2 hs1 hs2 hms
        go_enter Tryz.func6, Tryz.ntmps6
        go_wp2_with fail
        refine (slTree_c _ A _ HA.out).mono ?_
        rintro e w1 ⟨rfl, hb1⟩
        have HBw1 := hid hb1
        have A_w1 := hid (HA.out.keep hb1)
        have B_w1 := hid (HB.out.keep hb1)
        clear hb1
        rw [HT1.out]
        go_wp2_with fail
        refine (slTree_c _ B _ B_w1.out).mono ?_
        rintro e w2 ⟨rfl, hb2⟩
        have HBw2 := hid (HBw1.out.trans (hb2.mono HBw1.out.size))
        have A_w2 := hid (A_w1.out.keep hb2)
        have B_w2 := hid (B_w1.out.keep hb2)
        clear hb2
        rw [HT2.out]
        go_wp2_with fail
        refine (slInner_c _ A _ (treeB_met HT1.out) A_w2.out).mono ?_
        rintro e w3 ⟨u3, rfl, hF3, hb3⟩
        have HBw3 := hid (HBw2.out.trans (hb3.mono HBw2.out.size))
        have A_w3 := hid (A_w2.out.keep hb3)
        have B_w3 := hid (B_w2.out.keep hb3)
        have I_w3 := hid (hF3.r : _)
        obtain ⟨a3, n3, c3, rfl⟩ := hF3.form3
        clear hF3
        clear hb3
        go_wp2_with fail
        refine (slInner_c _ B _ (treeB_met HT2.out) B_w3.out).mono ?_
        rintro e w4 ⟨u4, rfl, hF4, hb4⟩
        have HBw4 := hid (HBw3.out.trans (hb4.mono HBw3.out.size))
        have A_w4 := hid (A_w3.out.keep hb4)
        have B_w4 := hid (B_w3.out.keep hb4)
        have I_w4 := hid (I_w3.out.keep hb4)
        have J_w4 := hid (hF4.r : _)
        obtain ⟨a4, n4, c4, rfl⟩ := hF4.form3
        clear hF4
        clear hb4
        go_wp2_with fail
        refine (slMissing_c _ _ (innerL A) (innerL B) _ I_w4.out J_w4.out HS1.out HS2.out).mono ?_
        rintro e w5 ⟨rfl, hb5⟩
        have HBw5 := hid (HBw4.out.trans (hb5.mono HBw4.out.size))
        have A_w5 := hid (A_w4.out.keep hb5)
        have B_w5 := hid (B_w4.out.keep hb5)
        have I_w5 := hid (I_w4.out.keep hb5)
        have J_w5 := hid (J_w4.out.keep hb5)
        clear hb5
        rw [HM1.out]
        go_wp2_with fail
        refine (slInner_c _ B _ (treeB_met HT2.out) B_w5.out).mono ?_
        rintro e w6 ⟨u6, rfl, hF6, hb6⟩
        have HBw6 := hid (HBw5.out.trans (hb6.mono HBw5.out.size))
        have A_w6 := hid (A_w5.out.keep hb6)
        have B_w6 := hid (B_w5.out.keep hb6)
        have J_w6 := hid (hF6.r : _)
        obtain ⟨a6, n6, c6, rfl⟩ := hF6.form3
        clear hF6
        clear hb6
        go_wp2_with fail
        refine (slInner_c _ A _ (treeB_met HT1.out) A_w6.out).mono ?_
        rintro e w7 ⟨u7, rfl, hF7, hb7⟩
        have HBw7 := hid (HBw6.out.trans (hb7.mono HBw6.out.size))
        have A_w7 := hid (A_w6.out.keep hb7)
        have B_w7 := hid (B_w6.out.keep hb7)
        have J_w7 := hid (J_w6.out.keep hb7)
        have I_w7 := hid (hF7.r : _)
        obtain ⟨a7, n7, c7, rfl⟩ := hF7.form3
        clear hF7
        clear hb7
        go_wp2_with fail
        refine (slMissing_c _ _ (innerL B) (innerL A) _ J_w7.out I_w7.out HS2.out HS1.out).mono ?_
        rintro e w8 ⟨rfl, hb8⟩
        have HBw8 := hid (HBw7.out.trans (hb8.mono HBw7.out.size))
        have A_w8 := hid (A_w7.out.keep hb8)
        have B_w8 := hid (B_w7.out.keep hb8)
        have J_w8 := hid (J_w7.out.keep hb8)
        have I_w8 := hid (I_w7.out.keep hb8)
        clear hb8
        rw [HM2.out]
        go_wp2
        go_ret2
        exact ⟨by rw [HY.out]; push_cast; rfl, HBw8.out⟩
      · have HE := hid (tdB_no3 (A := A) (B := B) (by have h1 : A.length = nA := HNA.out; have h2 : B.length = nB := HNB.out; omega))
        have hz : ((nA : Int) != (nB : Int)) = true := bne_nat_true hl
        go_enter Tryz.func6, Tryz.ntmps6
        go_wp2_with fail
        refine (slTree_c _ A _ HA.out).mono ?_
        rintro e w1 ⟨rfl, hb1⟩
        have HBw1 := hid hb1
        have A_w1 := hid (HA.out.keep hb1)
        have B_w1 := hid (HB.out.keep hb1)
        clear hb1
        rw [HT1.out]
        go_wp2_with fail
        refine (slTree_c _ B _ B_w1.out).mono ?_
        rintro e w2 ⟨rfl, hb2⟩
        have HBw2 := hid (HBw1.out.trans (hb2.mono HBw1.out.size))
        have A_w2 := hid (A_w1.out.keep hb2)
        have B_w2 := hid (B_w1.out.keep hb2)
        clear hb2
        rw [HT2.out]
        go_wp2
        go_ret2
        exact ⟨by rw [HE.out]; rfl, HBw2.out⟩
    · have HE := hid (tdB_no2 (A := A) t2)
      have HT1 := hid t1
      have HT2 := hid t2
      clear t1 t2
      go_enter Tryz.func6, Tryz.ntmps6
      go_wp2_with fail
      refine (slTree_c _ A _ HA.out).mono ?_
      rintro e w1 ⟨rfl, hb1⟩
      have HBw1 := hid hb1
      have A_w1 := hid (HA.out.keep hb1)
      have B_w1 := hid (HB.out.keep hb1)
      clear hb1
      rw [HT1.out]
      go_wp2_with fail
      refine (slTree_c _ B _ B_w1.out).mono ?_
      rintro e w2 ⟨rfl, hb2⟩
      have HBw2 := hid (HBw1.out.trans (hb2.mono HBw1.out.size))
      have A_w2 := hid (A_w1.out.keep hb2)
      have B_w2 := hid (B_w1.out.keep hb2)
      clear hb2
      rw [HT2.out]
      go_wp2
      go_ret2
      exact ⟨by rw [HE.out]; rfl, HBw2.out⟩
  · have HE := hid (tdB_no1 (B := B) t1)
    have HT1 := hid t1
    clear t1
    go_enter Tryz.func6, Tryz.ntmps6
    go_wp2_with fail
    refine (slTree_c _ A _ HA.out).mono ?_
    rintro e w1 ⟨rfl, hb1⟩
    have HBw1 := hid hb1
    have A_w1 := hid (HA.out.keep hb1)
    have B_w1 := hid (HB.out.keep hb1)
    clear hb1
    rw [HT1.out]
    go_wp2
    go_ret2
    exact ⟨by rw [HE.out]; rfl, HBw1.out⟩
set_option maxRecDepth 100000 in
set_option maxHeartbeats 2000000 in
theorem iTreeDifference_u (v : Value) (A : List (List Int)) (u : Value) (B : List (List Int)) (w : World) (h : RMat w v A) (h' : RMat w u B) :
    Calls Tryz.prog 5 #[v, u] w fun e w' => e = .returned (.tuple #[.int .i64 (tdB A B).1, .bool (tdB A B).2]) ∧ Below w.heap.size w w' := by
  have HA := hid h
  have HB := hid h'
  obtain ⟨a, cap, rfl, hA1, hA2, hc0⟩ := h
  obtain ⟨b, capb, rfl, hB1, hB2, hc1⟩ := h'
  unfold maxLen at hA2 hB2
  clear hc0 hc1
  obtain ⟨nA, hnA⟩ : ∃ nA, A.length = nA := ⟨_, rfl⟩
  obtain ⟨nB, hnB⟩ : ∃ nB, B.length = nB := ⟨_, rfl⟩
  rw [hnA] at HA hA1 ⊢
  rw [hnB] at HB hB1 ⊢
  have HNA := hid hnA
  have HNB := hid hnB
  clear hnA hnB
  rcases Bool.eq_false_or_eq_true (treeB A) with t1 | t1
  · rcases Bool.eq_false_or_eq_true (treeB B) with t2 | t2
    · have HT1 := hid t1
      have HT2 := hid t2
      have hm1 := (metB_parts (treeB_met t1)).2.1
      have hm2 := (metB_parts (treeB_met t2)).2.1
      have h7 : nA ≤ 7 ∧ nB ≤ 7 := by have h1 : A.length = nA := HNA.out; have h2 : B.length = nB := HNB.out; omega
      clear hm1 hm2 t1 t2
      by_cases hl : nA = nB
      · subst hl
        have hy := tdB_yes HT1.out HT2.out (HNA.out.trans HNB.out.symm)
        have hs1 := (innerL_small HT1.out).1
        have hs2 := (innerL_small HT2.out).1
        have hms := miss_small hs1 hs2
        have HS1 := hid hs1
        have HS2 := hid hs2
        obtain ⟨m1, hm1⟩ : ∃ m, missL (innerL B) (innerL A) = m := ⟨_, rfl⟩
        obtain ⟨m2, hm2⟩ : ∃ m, missL (innerL A) (innerL B) = m := ⟨_, rfl⟩
        rw [hm1, hm2] at hy
        rw [hm1] at hms
        have hms2 : m2 ≤ 128 := by rw [← hm2]; exact (miss_small HS1.out HS2.out).2
        have HY := hid hy
        have HM1 := hid hm1
        have HM2 := hid hm2
        have hz : ((nA : Int) != (nA : Int)) = false := by simp
        have hm1b := hms.1
        have f1 : IntKind.i64.wrap ((m1 : Int) + (m2 : Int)) = (m1 : Int) + (m2 : Int) := IntWalk.i64_in _ (by omega)
        clear hy hm1 hm2 hs1 hs2 hms
        go_enter Tryz.func5, Tryz.ntmps5
        go_wp2_with fail
        refine (isTreeMetric_c _ A _ HA.out).mono ?_
        rintro e w1 ⟨rfl, hb1⟩
        have HBw1 := hid hb1
        have A_w1 := hid (HA.out.keep hb1)
        have B_w1 := hid (HB.out.keep hb1)
        clear hb1
        rw [HT1.out]
        go_wp2_with fail
        refine (isTreeMetric_c _ B _ B_w1.out).mono ?_
        rintro e w2 ⟨rfl, hb2⟩
        have HBw2 := hid (HBw1.out.trans (hb2.mono HBw1.out.size))
        have A_w2 := hid (A_w1.out.keep hb2)
        have B_w2 := hid (B_w1.out.keep hb2)
        clear hb2
        rw [HT2.out]
        go_wp2_with fail
        refine (innerSplits_c _ A _ (treeB_met HT1.out) A_w2.out).mono ?_
        rintro e w3 ⟨u3, rfl, hF3, hb3⟩
        have HBw3 := hid (HBw2.out.trans (hb3.mono HBw2.out.size))
        have A_w3 := hid (A_w2.out.keep hb3)
        have B_w3 := hid (B_w2.out.keep hb3)
        have I_w3 := hid (hF3.r : _)
        obtain ⟨a3, n3, c3, rfl⟩ := hF3.form3
        clear hF3
        clear hb3
        go_wp2_with fail
        refine (innerSplits_c _ B _ (treeB_met HT2.out) B_w3.out).mono ?_
        rintro e w4 ⟨u4, rfl, hF4, hb4⟩
        have HBw4 := hid (HBw3.out.trans (hb4.mono HBw3.out.size))
        have A_w4 := hid (A_w3.out.keep hb4)
        have B_w4 := hid (B_w3.out.keep hb4)
        have I_w4 := hid (I_w3.out.keep hb4)
        have J_w4 := hid (hF4.r : _)
        obtain ⟨a4, n4, c4, rfl⟩ := hF4.form3
        clear hF4
        clear hb4
        go_wp2_with fail
        refine (countMissing_c _ _ (innerL A) (innerL B) _ I_w4.out J_w4.out HS1.out HS2.out).mono ?_
        rintro e w5 ⟨rfl, hb5⟩
        have HBw5 := hid (HBw4.out.trans (hb5.mono HBw4.out.size))
        have A_w5 := hid (A_w4.out.keep hb5)
        have B_w5 := hid (B_w4.out.keep hb5)
        have I_w5 := hid (I_w4.out.keep hb5)
        have J_w5 := hid (J_w4.out.keep hb5)
        clear hb5
        rw [HM1.out]
        go_wp2_with fail
        refine (countMissing_c _ _ (innerL B) (innerL A) _ J_w5.out I_w5.out HS2.out HS1.out).mono ?_
        rintro e w6 ⟨rfl, hb6⟩
        have HBw6 := hid (HBw5.out.trans (hb6.mono HBw5.out.size))
        have A_w6 := hid (A_w5.out.keep hb6)
        have B_w6 := hid (B_w5.out.keep hb6)
        have I_w6 := hid (I_w5.out.keep hb6)
        have J_w6 := hid (J_w5.out.keep hb6)
        clear hb6
        rw [HM2.out]
        go_wp2
        go_ret2
        exact ⟨by rw [HY.out]; push_cast; rfl, HBw6.out⟩
      · have HE := hid (tdB_no3 (A := A) (B := B) (by have h1 : A.length = nA := HNA.out; have h2 : B.length = nB := HNB.out; omega))
        have hz : ((nA : Int) != (nB : Int)) = true := bne_nat_true hl
        go_enter Tryz.func5, Tryz.ntmps5
        go_wp2_with fail
        refine (isTreeMetric_c _ A _ HA.out).mono ?_
        rintro e w1 ⟨rfl, hb1⟩
        have HBw1 := hid hb1
        have A_w1 := hid (HA.out.keep hb1)
        have B_w1 := hid (HB.out.keep hb1)
        clear hb1
        rw [HT1.out]
        go_wp2_with fail
        refine (isTreeMetric_c _ B _ B_w1.out).mono ?_
        rintro e w2 ⟨rfl, hb2⟩
        have HBw2 := hid (HBw1.out.trans (hb2.mono HBw1.out.size))
        have A_w2 := hid (A_w1.out.keep hb2)
        have B_w2 := hid (B_w1.out.keep hb2)
        clear hb2
        rw [HT2.out]
        go_wp2
        go_ret2
        exact ⟨by rw [HE.out]; rfl, HBw2.out⟩
    · have HE := hid (tdB_no2 (A := A) t2)
      have HT1 := hid t1
      have HT2 := hid t2
      clear t1 t2
      go_enter Tryz.func5, Tryz.ntmps5
      go_wp2_with fail
      refine (isTreeMetric_c _ A _ HA.out).mono ?_
      rintro e w1 ⟨rfl, hb1⟩
      have HBw1 := hid hb1
      have A_w1 := hid (HA.out.keep hb1)
      have B_w1 := hid (HB.out.keep hb1)
      clear hb1
      rw [HT1.out]
      go_wp2_with fail
      refine (isTreeMetric_c _ B _ B_w1.out).mono ?_
      rintro e w2 ⟨rfl, hb2⟩
      have HBw2 := hid (HBw1.out.trans (hb2.mono HBw1.out.size))
      have A_w2 := hid (A_w1.out.keep hb2)
      have B_w2 := hid (B_w1.out.keep hb2)
      clear hb2
      rw [HT2.out]
      go_wp2
      go_ret2
      exact ⟨by rw [HE.out]; rfl, HBw2.out⟩
  · have HE := hid (tdB_no1 (B := B) t1)
    have HT1 := hid t1
    clear t1
    go_enter Tryz.func5, Tryz.ntmps5
    go_wp2_with fail
    refine (isTreeMetric_c _ A _ HA.out).mono ?_
    rintro e w1 ⟨rfl, hb1⟩
    have HBw1 := hid hb1
    have A_w1 := hid (HA.out.keep hb1)
    have B_w1 := hid (HB.out.keep hb1)
    clear hb1
    rw [HT1.out]
    go_wp2
    go_ret2
    exact ⟨by rw [HE.out]; rfl, HBw1.out⟩

end Go.Proofs.YtcgcgmlonhganaaGreat
