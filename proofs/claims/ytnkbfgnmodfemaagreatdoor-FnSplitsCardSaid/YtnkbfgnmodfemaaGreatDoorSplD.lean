/- Drawn splits (printed by wip/splitdraw.py). -/
import Derived.Test.YtnkbfgnmodfemaaGreatDoorDrawL
import Derived.Test.YtnkbfgnmodfemaaGreatDoorPool
namespace Go.Proofs.YtnkbfgnmodfemaaGreatDoor
open Go.RowKit
open Go.Lib (hid)

theorem FMat.tch {w w' : World} {lo b : Nat} {v : Value} {M : List (List Int)} (h : FMat w lo w.heap.size v M) (ht : Touch b (b + 1) w w') (hb : b < lo) : FMat w' lo w'.heap.size v M :=
  (h.same (.of_touch ht (.inr hb))).mono (Nat.le_refl _) ht.size
theorem FMat.grw {w w' : World} {lo : Nat} {v : Value} {M : List (List Int)} (h : FMat w lo w.heap.size v M) (hb : Below w.heap.size w w') : FMat w' lo w'.heap.size v M :=
  (h.keep hb).mono (Nat.le_refl _) hb.size
theorem FMat.dr {w w' : World} {lo b : Nat} {v : Value} {M : List (List Int)} (h : FMat w lo w.heap.size v M) (hd : Dr b w.heap.size w w') (hb : b < lo) : FMat w' lo w'.heap.size v M :=
  (h.same (fun k h1 h2 _ => hd.block k h2 (by omega))).mono (Nat.le_refl _) hd.size
def RetCI (b k lo : Nat) (w : World) (e : Ending) (w' : World) : Prop := ∃ x : Int, e = .returned (.int .i64 x) ∧ Cur w' b k ∧ Dr b lo w w'
def RetNXY (w : World) (e : Ending) (w' : World) : Prop := ∃ (n : Int) (v u : Value) (xs ys : List Int), e = .returned (.tuple #[.int .i64 n, v, u]) ∧ RInts w' v xs ∧ RInts w' u ys ∧ Below w.heap.size w w'
def RetNL (w : World) (e : Ending) (w' : World) : Prop := ∃ (n : Int) (v : Value) (L : List (List Int)), e = .returned (.tuple #[.int .i64 n, v]) ∧ RMat w' v L ∧ Below w.heap.size w w'

set_option maxRecDepth 100000 in
set_option maxHeartbeats 4000000 in
theorem side_c (b k : Nat) (n : Int) (w : World) (h : Cur w b k) (hk : k ≤ 700000000000) :
    Calls Tryz.prog 50 #[.pointer (some ⟨b, 0, none⟩), .int .i64 n] w (RetNumsL b (k + 100) w.heap.size w) := by
  have HC0 := hid h
  have hlt0 := h.lt
  obtain ⟨lo, hlo⟩ : ∃ lo, w.heap.size = lo := ⟨_, rfl⟩
  rw [hlo] at hlt0
  have HS0 : Hid (lo ≤ w.heap.size) := Nat.le_of_eq hlo.symm
  have HD0 : Hid (Dr b lo w w) := Dr.refl _ _ _
  have HLO := hid hlo
  clear h hlo
  rw [HLO.out]
  go_enter Tryz.func50, Tryz.ntmps50
  go_wp2
  go_loopg [5, 6] 11 (fun gk av iv wr => ∃ (a3 : Option Addr) (p c3 i s : Nat) (xs : List Int), av = .slice a3 p c3 ∧ iv = .int .i64 i ∧ 1 ≤ i ∧ i ≤ 12 ∧ gk = 12 - i ∧ xs.length = p ∧ p ≤ i ∧ s ≤ k + 2 * i ∧ FInts wr lo wr.heap.size (.slice a3 p c3) xs ∧ Cur wr b s ∧ Dr b lo w wr ∧ lo ≤ wr.heap.size)
  case atStart => exact ⟨none, 0, 0, 1, k, [], rfl, rfl, Nat.le_refl _, by omega, by omega, rfl, by omega, by omega, ints_nil _ _ _, HC0.out, HD0.out, HS0.out⟩
  case round =>
    obtain ⟨a3, p, c3, i, s, xs, rfl, rfl, hi1, hi2, rfl, hlk, hpi, hs, hF, hc, hd, hsz⟩ := hrel
    obtain ⟨w1, rfl⟩ : ∃ w1 : World, w1 = wr := ⟨_, rfl⟩
    have HLK := hid hlk
    have F_1 := hid hF
    have HC1 := hid hc
    have HD1 := hid hd
    have HS1 : Hid (lo ≤ w1.heap.size) := hsz
    clear hF hc hd hsz hlk
    by_cases hcnd : (i : Int) < n ∧ i < 12
    · obtain ⟨h1, h2⟩ := hcnd
      have h2z : (i : Int) < 12 := by omega
      go_wp2_with fail
      refine (one_c b s 2 _ HC1.out (by omega) (by omega)).mono ?_
      rintro e w2 ⟨x, rfl, hc2, ht2⟩
      have HC2 := hid (hc2.more (show _ ≤ (s + 2) by omega))
      have HD2 := hid (HD1.out.touch HS0.out ht2)
      have F_2 := hid (F_1.out.tch ht2 hlt0)
      have HS2 : Hid (lo ≤ w2.heap.size) := Nat.le_trans HS1.out ht2.size
      clear hc2 ht2
      cases x
      · go_wp2
        go_roundg (12 - (i + 1))
        case rel => exact ⟨a3, p, c3, i + 1, s + 2, xs, rfl, by go_num, by omega, by omega, rfl, HLK.out, by omega, by omega, F_2.out, HC2.out, HD2.out, HS2.out⟩
        case measure => omega
      · go_wp2_with (at_builtin; (refine wpList_push_dr (W0 := w) rfl _ _ rfl b (k := (s + 2)) lo (.slice a3 p c3) xs (i : Int) rfl rfl F_2.out HD2.out HC2.out hlt0 HS2.out p HLK (by omega) ?_; intro g8 c8 w8 hF8 hd8 hc8 hs8; have HF8 := hid hF8; have HD8 := hid hd8; have HC8 := hid hc8; have HS8 := hid hs8; clear hF8 hd8 hc8 hs8))
        go_wp2
        go_roundg (12 - (i + 1))
        case rel => exact ⟨_, p + 1, _, i + 1, s + 2, xs ++ [(i : Int)], rfl, by go_num, by omega, by omega, rfl, by rw [List.length_append, HLK.out]; rfl, by omega, by omega, HF8.out, HC8.out, HD8.out, HS8.out⟩
        case measure => omega
    · have hex : ¬ (i : Int) < n ∨ ((i : Int) < n ∧ ¬ (i : Int) < 12) := by omega
      clear hcnd
      rcases hex with h1 | ⟨h1, h2⟩
      all_goals
        by_cases hz : p = 0 ∧ 1 < n
        · obtain ⟨rfl, hn1⟩ := hz
          have hn1' : n > 1 := hn1
          obtain ⟨wl, hwl⟩ : ∃ wl : World, wl = w1.alloc (.cells #[.int .i64 1] 3) := ⟨_, rfl⟩
          have hal : Below w1.heap.size w1 wl := by rw [hwl]; exact (Below.refl _ _).alloc (Nat.le_refl _) _
          have hFl : FInts wl lo wl.heap.size (.slice (some ⟨w1.heap.size, 0, none⟩) 1 1) [1] := by
            have := ints_lit w1 lo HS1.out [1] (by simp)
            rw [hwl]
            simpa using this
          have HCl := hid (HC1.out.keep hal)
          have HDl := hid (HD1.out.below (hal.mono HS1.out))
          have HSl : Hid (lo ≤ wl.heap.size) := Nat.le_trans HS1.out hal.size
          have F_l := hid hFl
          have HWL := hid hwl
          clear hal hFl hwl HLK
          obtain ⟨a3, ha3⟩ : ∃ a3, (some ⟨w1.heap.size, 0, none⟩ : Option Addr) = a3 := ⟨_, rfl⟩
          obtain ⟨p, hp1⟩ : ∃ p : Nat, p = 1 := ⟨_, rfl⟩
          obtain ⟨c3, hc3⟩ : ∃ c3 : Nat, c3 = 1 := ⟨_, rfl⟩
          obtain ⟨xs, hxs⟩ : ∃ xs : List Int, xs = [1] := ⟨_, rfl⟩
          have HLK : Hid (xs.length = p) := by show _ = _; rw [hxs, hp1]; rfl
          have F_l : Hid (FInts wl lo wl.heap.size (.slice a3 p c3) xs) := by show FInts _ _ _ _ _; rw [← ha3, hp1, hc3, hxs]; exact F_l.out
          go_wp2_with fail
          rw [← HWL.out]
          refine (pick_c b s 24 _ HCl.out (by omega) (by omega)).mono ?_
          rintro e w2 ⟨y, rfl, ⟨hy1, hy2⟩, hc2, ht2⟩
          have HC2 := hid (hc2.more (show _ ≤ (s + 2) by omega))
          have HD2 := hid (HDl.out.touch HS0.out ht2)
          have F_2 := hid (F_l.out.tch ht2 hlt0)
          have HS2 : Hid (lo ≤ w2.heap.size) := Nat.le_trans HSl.out ht2.size
          clear hc2 ht2
          have f3 : (1 : Nat) = p := hp1.symm
          have f4 : (1 : Nat) = c3 := hc3.symm
          rcases Bool.eq_false_or_eq_true (y == 0) with t0 | t0
          · subst hp1 hc3 hxs ha3
            clear f3 f4
            have HLTq := hid (ints_lit w2 w2.heap.size (Nat.le_refl _) [0, n, 1] (by simp)).r
            have HALq : Hid (Below w2.heap.size w2 _) := (Below.refl w2.heap.size w2).alloc (Nat.le_refl _) (.cells ([0, n, 1].map (.int .i64 ·)).toArray 3)
            go_wp2_with fail
            refine (among_c b (s + 2) _ [0, n, 1] _ (HC2.out.keep HALq.out) (by omega) HLTq.out (by simp) (by simp) (fun p hp => by simp [Value.ownBlock] at hp; have := HS2.out; omega)).mono ?_
            rintro e wq3 ⟨z, rfl, _, hcq3, htq3⟩
            have HCq3 := hid (hcq3.more (show _ ≤ (s + 4) by omega))
            have HDq3 := hid ((HD2.out.below (HALq.out.mono HS2.out)).touch HS0.out htq3)
            have F_q3 := hid (F_2.out.grw HALq.out |>.tch htq3 hlt0)
            have HSq3 : Hid (lo ≤ wq3.heap.size) := Nat.le_trans (Nat.le_trans HS2.out HALq.out.size) htq3.size
            clear hcq3 htq3 HLTq HALq
            go_wp2_with (at_builtin; (refine wpList_push_dr (W0 := w) rfl _ _ rfl b (k := (s + 4)) lo (.slice (some ⟨w1.heap.size, 0, none⟩) 1 1) [1] z rfl rfl F_q3.out HDq3.out HCq3.out hlt0 HSq3.out 1 HLK (by omega) ?_; intro g8 c8 w8 hF8 hd8 hc8 hs8; have HF8 := hid hF8; have HD8 := hid hd8; have HC8 := hid hc8; have HS8 := hid hs8; clear hF8 hd8 hc8 hs8))
            go_wp2
            go_ret
            exact retNums_mk ([1] ++ [z]) (by simp) HF8.out (HC8.out.more (by omega)) HD8.out
          · subst hp1 hc3 hxs ha3
            clear f3 f4
            rcases Bool.eq_false_or_eq_true (y == 1) with t1 | t1
            · go_wp2
              go_ret
              exact retNums_mk [] (by simp) (ints_nil _ _ _) (HC2.out.more (by omega)) HD2.out
            · go_wp2
              go_ret
              exact retNums_mk [1] (by simp) F_2.out (HC2.out.more (by omega)) HD2.out
        · have hzz : ((p : Int) == 0) = false ∨ (((p : Int) == 0) = true ∧ ¬ n > 1) := by
            by_cases hp0 : p = 0
            · right; exact ⟨by rw [hp0]; rfl, fun h => hz ⟨hp0, h⟩⟩
            · left; rw [beq_eq_false_iff_ne]; omega
          clear hz
          rcases hzz with hz1 | ⟨hz1, hz2⟩
          all_goals try (exfalso; omega; done)
          all_goals
            go_wp2_with fail
            refine (pick_c b s 24 _ HC1.out (by omega) (by omega)).mono ?_
            rintro e w2 ⟨y, rfl, ⟨hy1, hy2⟩, hc2, ht2⟩
            have HC2 := hid (hc2.more (show _ ≤ (s + 2) by omega))
            have HD2 := hid (HD1.out.touch HS0.out ht2)
            have F_2 := hid (F_1.out.tch ht2 hlt0)
            have HS2 : Hid (lo ≤ w2.heap.size) := Nat.le_trans HS1.out ht2.size
            clear hc2 ht2
            rcases Bool.eq_false_or_eq_true (y == 0) with t0 | t0
            · have HLTq := hid (ints_lit w2 w2.heap.size (Nat.le_refl _) [0, n, 1] (by simp)).r
              have HALq : Hid (Below w2.heap.size w2 _) := (Below.refl w2.heap.size w2).alloc (Nat.le_refl _) (.cells ([0, n, 1].map (.int .i64 ·)).toArray 3)
              go_wp2_with fail
              refine (among_c b (s + 2) _ [0, n, 1] _ (HC2.out.keep HALq.out) (by omega) HLTq.out (by simp) (by simp) (fun p hp => by simp [Value.ownBlock] at hp; have := HS2.out; omega)).mono ?_
              rintro e wq3 ⟨z, rfl, _, hcq3, htq3⟩
              have HCq3 := hid (hcq3.more (show _ ≤ (s + 4) by omega))
              have HDq3 := hid ((HD2.out.below (HALq.out.mono HS2.out)).touch HS0.out htq3)
              have F_q3 := hid (F_2.out.grw HALq.out |>.tch htq3 hlt0)
              have HSq3 : Hid (lo ≤ wq3.heap.size) := Nat.le_trans (Nat.le_trans HS2.out HALq.out.size) htq3.size
              clear hcq3 htq3 HLTq HALq
              go_wp2_with (at_builtin; (refine wpList_push_dr (W0 := w) rfl _ _ rfl b (k := (s + 4)) lo (.slice a3 p c3) xs z rfl rfl F_q3.out HDq3.out HCq3.out hlt0 HSq3.out p HLK (by omega) ?_; intro g8 c8 w8 hF8 hd8 hc8 hs8; have HF8 := hid hF8; have HD8 := hid hd8; have HC8 := hid hc8; have HS8 := hid hs8; clear hF8 hd8 hc8 hs8))
              go_wp2
              go_ret
              exact retNums_mk (xs ++ [z]) (by rw [List.length_append, HLK.out]; simp; omega) HF8.out (HC8.out.more (by omega)) HD8.out
            · rcases Bool.eq_false_or_eq_true (y == 1) with t1 | t1
              · go_wp2
                go_ret
                exact retNums_mk [] (by simp) (ints_nil _ _ _) (HC2.out.more (by omega)) HD2.out
              · go_wp2
                go_ret
                exact retNums_mk xs (by rw [HLK.out]; omega) F_2.out (HC2.out.more (by omega)) HD2.out

set_option maxRecDepth 100000 in
set_option maxHeartbeats 4000000 in
theorem taxa_c (b k : Nat) (w : World) (h : Cur w b k) (hk : k ≤ 700000000000) :
    Calls Tryz.prog 49 #[.pointer (some ⟨b, 0, none⟩)] w (RetCI b (k + 10) w.heap.size w) := by
  have HC0 := hid h
  have hlt0 := h.lt
  obtain ⟨lo, hlo⟩ : ∃ lo, w.heap.size = lo := ⟨_, rfl⟩
  rw [hlo] at hlt0
  have HS0 : Hid (lo ≤ w.heap.size) := Nat.le_of_eq hlo.symm
  have HD0 : Hid (Dr b lo w w) := Dr.refl _ _ _
  have HLO := hid hlo
  clear h hlo
  rw [HLO.out]
  go_enter Tryz.func49, Tryz.ntmps49
  have HLT := hid (ints_lit w w.heap.size (Nat.le_refl _) [4, 1, 8] (by simp)).r
  have HAL : Hid (Below w.heap.size w _) := (Below.refl w.heap.size w).alloc (Nat.le_refl _) (.cells ([4, 1, 8].map (.int .i64 ·)).toArray 3)
  go_wp2_with fail
  refine (among_c b k _ [4, 1, 8] _ (HC0.out.keep HAL.out) (by omega) HLT.out (by simp) (by simp) (fun p hp => by simp [Value.ownBlock] at hp; have := HS0.out; omega)).mono ?_
  rintro e w1 ⟨y, rfl, _, hc1, ht1⟩
  have HC1 := hid (hc1.more (show _ ≤ (k + 2) by omega))
  have HD1 := hid ((HD0.out.below (HAL.out.mono HS0.out)).touch HS0.out ht1)
  have HS1 : Hid (lo ≤ w1.heap.size) := Nat.le_trans (Nat.le_trans HS0.out HAL.out.size) ht1.size
  clear hc1 ht1 HLT HAL
  have HLTr := hid (ints_lit w1 w1.heap.size (Nat.le_refl _) [3, 4, 4, 5, 5, 6, 2, 7, y] (by simp)).r
  have HALr : Hid (Below w1.heap.size w1 _) := (Below.refl w1.heap.size w1).alloc (Nat.le_refl _) (.cells ([3, 4, 4, 5, 5, 6, 2, 7, y].map (.int .i64 ·)).toArray 3)
  go_wp2_with fail
  refine (among_c b (k + 2) _ [3, 4, 4, 5, 5, 6, 2, 7, y] _ (HC1.out.keep HALr.out) (by omega) HLTr.out (by simp) (by simp) (fun p hp => by simp [Value.ownBlock] at hp; have := HS1.out; omega)).mono ?_
  rintro e wr2 ⟨x, rfl, _, hcr2, htr2⟩
  have HCr2 := hid (hcr2.more (show _ ≤ (k + 4) by omega))
  have HDr2 := hid ((HD1.out.below (HALr.out.mono HS1.out)).touch HS0.out htr2)
  have HSr2 : Hid (lo ≤ wr2.heap.size) := Nat.le_trans (Nat.le_trans HS1.out HALr.out.size) htr2.size
  clear hcr2 htr2 HLTr HALr
  go_wp2
  go_ret
  exact ⟨x, rfl, HCr2.out.more (by omega), HDr2.out⟩

end Go.Proofs.YtnkbfgnmodfemaaGreatDoor
