/- The cherries, by the reference. -/
import Derived.Test.YtcgcgmlonhganaaCherI
namespace Go.Proofs.Ytcgcgmlonhganaa
open Go.RowKit
open Go.Lib (hid)

theorem foldG_len {β : Type} {f : Nat → List β → List β} {n : Nat} (hf : ∀ j s, s.length ≤ (f j s).length) : ∀ (m k : Nat) (s : List β), k + m = n → s.length ≤ (foldG n k f s).length := by
  intro m
  induction m with
  | zero => intro k s h; rw [foldG_ge _ _ (by omega)]; exact Nat.le_refl _
  | succ m ih =>
    intro k s h
    rw [foldG_lt _ _ (by omega)]
    exact Nat.le_trans (hf k s) (ih (k + 1) _ (by omega))
theorem cheK_len (M : List (List Int)) (i j : Nat) (s : List (List Int)) : s.length ≤ (cheK M i j s).length := by unfold cheK; split <;> simp
theorem foldG_len' {β : Type} {f : Nat → List β → List β} {n k : Nat} (hf : ∀ j s, s.length ≤ (f j s).length) (s : List β) : s.length ≤ (foldG n k f s).length := by
  by_cases h : k ≤ n
  · exact foldG_len hf (n - k) k s (by omega)
  · rw [foldG_ge _ _ (by omega)]; exact Nat.le_refl _
theorem cheI_len (M : List (List Int)) (i : Nat) (s : List (List Int)) : s.length ≤ (cheI M i s).length := foldG_len' (fun j s => cheK_len M i j s) s
theorem two_fints (w : World) (lo : Nat) (hlo : lo ≤ w.heap.size) (a b : Int) : FInts (w.alloc (.cells #[.int .i64 a, .int .i64 b] 3)) lo (w.heap.size + 1) (.slice (some ⟨w.heap.size, 0, none⟩) 2 2) [a, b] := by
  have := ints_lit w lo hlo [a, b] (by simp)
  simpa using this

set_option maxRecDepth 100000 in
set_option maxHeartbeats 2000000 in
theorem sCherriesOf_u (v : Value) (M : List (List Int)) (w : World) (h : RMat w v M) :
    Calls Try.prog 16 #[v] w (RetMatB w (cherriesB M)) := by
  have HR := hid h
  have hML := h.len
  obtain ⟨a, cap, hv, q1, q2, hc⟩ := h
  subst hv
  clear hc
  unfold maxLen at q2
  rcases Bool.eq_false_or_eq_true (metB M) with t | t
  · have hn7 := (metB_parts t).2.1
    have HMT := hid t
    by_cases h3 : 3 ≤ M.length
    · have h3z : ¬ (M.length : Int) < 3 := by omega
      have HQ := hid (getL_zero M)
      go_enter Try.func16, Try.ntmps16
      go_wp2_with fail
      refine (meGood_b _ M _ HR.out).mono ?_
      rintro e w1 ⟨rfl, hb1⟩
      rw [t]
      have h1 := HR.out.keep hb1
      have HB1 := hid hb1
      clear hb1
      go_wp2_with fail
      refine (meBad_c _ M _ HMT.out h1).mono ?_
      rintro e w2 ⟨u, rfl, hF, hb2⟩
      have h2 := h1.keep hb2
      have HB2 := hid (HB1.out.trans (hb2.mono HB1.out.size))
      obtain ⟨au, nu, cu, rfl⟩ := hF.form3
      have hnu := fints_len3 hF
      rw [← hnu] at HQ
      have H2 := hid h2
      clear hF hb2 hnu h1 h2
      cases hbad : (badF M).isNone with
      | true =>
        obtain rfl : nu = 0 := by have := HQ.out; rw [hbad] at this; simpa using this
        clear HQ
        have HM := hid (cherriesB_yes (M := M) (by rw [treeB, t, hbad]; rfl) h3)
        have HCL := hid (cheL_len M (by omega))
        clear hbad t
        go_wp2
        go_loopg [4, 23] M.length (fun gk ov iv wr => ∃ i : Nat, ∃ R : List (List Int), i ≤ M.length ∧ gk = M.length - i ∧ iv = .int .i64 i ∧ FMat wr w2.heap.size wr.heap.size ov R ∧ foldG M.length i (cheI M) R = cheL M ∧ Below w.heap.size w wr ∧ w.heap.size ≤ wr.heap.size ∧ Below w2.heap.size w2 wr)
        case atStart => exact ⟨0, [], Nat.zero_le _, rfl, rfl, mat_nil _ _ _, cheL_fold M, HB2.out, HB2.out.size, Below.refl _ _⟩
        case round =>
          obtain ⟨i, R, hi, rfl, rfl, hF, hr, hb, hsz, hbw⟩ := hrel
          have HRR := hid hr
          have HB := hid hb
          have HBW := hid hbw
          have HF := hid hF
          obtain ⟨ao, no, co, rfl⟩ := hF.form3
          clear hr hb hbw hF
          by_cases hlt : i < M.length
          · have hltz : (i : Int) < (M.length : Int) := by omega
            have f0 : IntKind.i64.wrap ((i : Int) + 1) = ((i + 1 : Nat) : Int) := by rw [IntWalk.i64_in _ (by omega)]; omega
            go_wp2
            go_loopg [4, 6] (M.length - (i + 1)) (fun gk ov jv wr => ∃ j : Nat, ∃ R : List (List Int), j ≤ M.length ∧ gk = M.length - j ∧ jv = .int .i64 j ∧ FMat wr w2.heap.size wr.heap.size ov R ∧ foldG M.length (i + 1) (cheI M) (foldG M.length j (cheK M i) R) = cheL M ∧ Below w.heap.size w wr ∧ w.heap.size ≤ wr.heap.size ∧ Below w2.heap.size w2 wr)
            case atStart => exact ⟨i + 1, R, by omega, rfl, by go_num, HF.out, by rw [← HRR.out, foldG_lt _ _ hlt]; rfl, HB.out, hsz, HBW.out⟩
            case round =>
              obtain ⟨j, R', hj, rfl, rfl, hF', hr', hb', hsz', hbw'⟩ := hrel
              have HRJ := hid hr'
              have HBJ := hid hb'
              have HBWJ := hid hbw'
              have HFJ := hid hF'
              have HRM := hid (H2.out.keep hbw')
              obtain ⟨ao', no', co', rfl⟩ := hF'.form3
              have HRL : Hid (R'.length ≤ 1099511627776) := by
                show _ ≤ _
                have h1 := foldG_len' (n := M.length) (k := j) (fun j s => cheK_len M i j s) R'
                have h2 := foldG_len' (n := M.length) (k := i + 1) (fun j s => cheI_len M j s) (foldG M.length j (cheK M i) R')
                rw [hr'] at h2
                have := HCL.out
                omega
              clear hr' hb' hbw' hF'
              by_cases hltj : j < M.length
              · have hltjz : (j : Int) < (M.length : Int) := by omega
                have f1 : IntKind.i64.wrap ((j : Int) + 1) = ((j + 1 : Nat) : Int) := by rw [IntWalk.i64_in _ (by omega)]; omega
                go_wp2_with fail
                refine (meCherry_c _ M _ HMT.out HRM.out i j hlt hltj).mono ?_
                rintro e w3 ⟨rfl, hb3⟩
                have hF3 := HFJ.out.keep hb3
                have HB3 := hid (HBJ.out.trans (hb3.mono hsz'))
                have HBW3 := hid (HBWJ.out.trans (hb3.mono HBWJ.out.size))
                have hsz3 : w.heap.size ≤ w3.heap.size := Nat.le_trans hsz' hb3.size
                have HS3 := hid hb3.size
                clear hb3
                rcases Bool.eq_false_or_eq_true (cheP M i j) with tc | tc
                · have HST : Hid (foldG M.length (i + 1) (cheI M) (foldG M.length (j + 1) (cheK M i) (R' ++ [[(i : Int), (j : Int)]])) = cheL M) := by
                    show _ = _; rw [← HRJ.out, foldG_lt (cheK M i) R' hltj, cheK, if_pos tc]
                  rw [tc]
                  have hr1 := two_fints w3 w3.heap.size (Nat.le_refl _) (i : Int) (j : Int)
                  have ha1 : Below w3.heap.size w3 (w3.alloc (.cells #[.int .i64 (i : Int), .int .i64 (j : Int)] 3)) := (Below.refl _ _).alloc (Nat.le_refl _) _
                  have hsa : (w3.alloc (.cells #[.int .i64 (i : Int), .int .i64 (j : Int)] 3)).heap.size = w3.heap.size + 1 := by simp
                  have ha2 : Below (w3.heap.size + 1) (w3.alloc (.cells #[.int .i64 (i : Int), .int .i64 (j : Int)] 3)) ((w3.alloc (.cells #[.int .i64 (i : Int), .int .i64 (j : Int)] 3)).alloc (.cells #[.slice (some ⟨w3.heap.size, 0, none⟩) 2 2] 24)) := (Below.refl _ _).alloc (by rw [hsa]; exact Nat.le_refl _) _
                  have q1 := (hF3.keep ha1).keep (ha2.mono (by rw [hsa]; exact Nat.le_refl _))
                  have q2 := hr1.keep (ha2.mono (by rw [hsa]; exact Nat.le_refl _))
                  have q3 := cell_new (w3.alloc (.cells #[.int .i64 (i : Int), .int .i64 (j : Int)] 3)) (.slice (some ⟨w3.heap.size, 0, none⟩) 2 2) 24
                  rw [hsa] at q3
                  have hsz3' : w2.heap.size ≤ w3.heap.size := HBW3.out.size
                  have HQ4 : Hid (w2.heap.size ≤ ((w3.alloc (.cells #[.int .i64 (i : Int), .int .i64 (j : Int)] 3)).alloc (.cells #[.slice (some ⟨w3.heap.size, 0, none⟩) 2 2] 24)).heap.size) := by show _ ≤ _; simp; omega
                  have HQ5 := hid (HB3.out.trans ((ha1.trans (ha2.mono (Nat.le_succ _))).mono hsz3))
                  have HQ6 := hid (HBW3.out.trans ((ha1.trans (ha2.mono (Nat.le_succ _))).mono HBW3.out.size))
                  have hs33 := HS3.out
                  clear ha1 ha2 hr1 hF3 hsa
                  have hkl := HRL.out
                  go_wp2_with (at_builtin; refine wpList_append_row rfl _ _ rfl _ _ _ _ _ _ _ _ _ [(i : Int), (j : Int)] rfl rfl q1 q2 q3 hs33 hsz3' hkl HQ4.out ?_; intro v' w' hF' hg hn)
                  have hB' := HQ5.out.grown hg (Nat.le_trans HB2.out.size HQ4.out) (fun k hk => Nat.le_trans HB2.out.size (own_blocks q1 k hk))
                  have hBW' := HQ6.out.grown hg HQ4.out (own_blocks q1)
                  go_roundg (M.length - (j + 1))
                  case rel => exact ⟨j + 1, _, by omega, rfl, by go_num, hF', HST.out, hB', by have := hB'.size; omega, hBW'⟩
                  case measure => omega
                · have HST : Hid (foldG M.length (i + 1) (cheI M) (foldG M.length (j + 1) (cheK M i) R') = cheL M) := by
                    show _ = _; rw [← HRJ.out, foldG_lt (cheK M i) R' hltj, cheK, if_neg (by simp [tc])]
                  rw [tc]
                  have HF3 := hid (hF3.mono (Nat.le_refl _) HS3.out)
                  clear hF3
                  go_wp2
                  go_roundg (M.length - (j + 1))
                  case rel => exact ⟨j + 1, R', by omega, rfl, by go_num, HF3.out, HST.out, HB3.out, hsz3, HBW3.out⟩
                  case measure => omega
              · have HST : Hid (foldG M.length (i + 1) (cheI M) R' = cheL M) := by show _ = _; rw [← HRJ.out, foldG_ge (cheK M i) R' (by omega)]
                go_wp2
                go_roundg (M.length - (i + 1))
                case rel => exact ⟨i + 1, R', by omega, rfl, by go_num, HFJ.out, HST.out, HBJ.out, hsz', HBWJ.out⟩
                case measure => omega
          · have HST : Hid (R = cheL M) := by show _ = _; rw [← HRR.out, foldG_ge _ _ (by omega)]
            go_wp2
            go_ret2
            exact ⟨_, by rw [HM.out]; rfl, by rw [HM.out, ← HST.out]; exact HF.out.mono HB2.out.size (Nat.le_refl _), HB.out⟩
      | false =>
        have hz : ((nu : Int) > 0) := by
          have := HQ.out; rw [hbad] at this
          simp at this; omega
        have HM := hid (cherriesB_no1 (M := M) (by rw [treeB, hbad, Bool.and_false]))
        clear hbad t HQ
        go_wp2
        go_ret2
        exact retMatB_no HB2.out HM.out _ rfl
    · have h3z : (M.length : Int) < 3 := by omega
      have HM := hid (cherriesB_no2 h3)
      go_enter Try.func16, Try.ntmps16
      go_wp2_with fail
      refine (meGood_b _ M _ HR.out).mono ?_
      rintro e w1 ⟨rfl, hb1⟩
      rw [t]
      have HB1 := hid hb1
      clear hb1
      go_wp2
      go_ret2
      exact retMatB_no HB1.out HM.out _ rfl
  · have HM := hid (cherriesB_no1 (M := M) (by rw [treeB, t, Bool.false_and]))
    go_enter Try.func16, Try.ntmps16
    go_wp2_with fail
    refine (meGood_b _ M _ HR.out).mono ?_
    rintro e w1 ⟨rfl, hb1⟩
    rw [t]
    have HB1 := hid hb1
    clear hb1
    go_wp2
    go_ret2
    exact retMatB_no HB1.out HM.out _ rfl

end Go.Proofs.Ytcgcgmlonhganaa
