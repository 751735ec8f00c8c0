/- Drawn piles (text printed by wip/chipsgen.py). -/
import Derived.Test.YtlehhfmbdcmpoaaChipsD
namespace Go.Proofs.Ytlehhfmbdcmpoaa
open Go.RowKit
open Go.Lib (hid)

set_option maxRecDepth 100000 in
set_option maxHeartbeats 4000000 in
theorem pile_c (b k : Nat) (n : Int) (q : Int) (w : World) (h : Cur w b k) (hk : k ≤ 800000000000) (hn : n ≤ 12) :
    Calls Try.prog 126 #[.pointer (some ⟨b, 0, none⟩), .int .i64 n, .int .i64 q] w (RetNums b (k + 100) w) := by
  have HH := hid h
  have hlt0 := h.lt
  obtain ⟨lo, hlo⟩ : ∃ lo, w.heap.size = lo := ⟨_, rfl⟩
  have HLO := hid hlo
  rw [hlo] at hlt0
  have HS0 : Hid (lo ≤ w.heap.size) := Nat.le_of_eq hlo.symm
  clear h hlo
  show Calls _ _ _ _ (RetNumsL b (k + 100) w.heap.size w)
  rw [HLO.out]
  have HC0 := HH
  have HD0 : Hid (Dr b lo w w) := Dr.refl _ _ _
  have HF0 : Hid (FInts w lo w.heap.size (.slice none 0 0) []) := ints_nil _ _ _
  go_enter Try.func126, Try.ntmps126
  have HLT := hid (ints_lit w w.heap.size (Nat.le_refl _) [2, 3, 6] (by simp)).r
  have HAL : Hid (Below w.heap.size w _) := (Below.refl w.heap.size w).alloc (Nat.le_refl _) (.cells ([2, 3, 6].map (.int .i64 ·)).toArray 3)
  go_wp2_with fail
  refine (among_c b (k) _ [2, 3, 6] _ (HC0.out.keep HAL.out) (by omega) HLT.out (by simp) (by simp) (fun p hp => by simp [Value.ownBlock] at hp; have := HS0.out; omega)).mono ?_
  rintro e w5 ⟨x5, rfl, hx5, hc5, ht5⟩
  have HC5 := hid hc5
  have HD5 := hid ((HD0.out.below (HAL.out.mono HS0.out)).touch HS0.out ht5)
  have HF5 := hid ((HF0.out.grw HAL.out).tch ht5 hlt0)
  have HS5 : Hid (lo ≤ w5.heap.size) := Nat.le_trans (Nat.le_trans HS0.out HAL.out.size) ht5.size
  clear hc5 ht5
  have hx6 : x5 ≤ 6 := by simp at hx5; omega
  clear hx5
  go_wp2
  go_loopg [7] 14 (fun gk out wr => ∃ (a : Option Addr) (p c : Nat) (xs : List Int) (s : Nat), out = .slice a p c ∧ p ≤ 13 ∧ gk = 14 - p ∧ xs.length = p ∧ s ≤ k + 10 + 4 * p ∧ FInts wr lo wr.heap.size (.slice a p c) xs ∧ Cur wr b s ∧ Dr b lo w wr ∧ lo ≤ wr.heap.size)
  case atStart => exact ⟨none, 0, 0, [], k + 2, rfl, by omega, rfl, rfl, by omega, ints_nil _ _ _, HC5.out, HD5.out, HS5.out⟩
  case round =>
    obtain ⟨w1, rfl⟩ : ∃ w' : World, w' = wr := ⟨_, rfl⟩
    obtain ⟨a3, p, c3, xs, s, rfl, hp, rfl, hlk, hs, hF, hc, hd, hsz⟩ := hrel
    have HF1 := hid hF
    have HC1 := hid hc
    have HD1 := hid hd
    have HS1 := hid hsz
    have HLK := hid hlk
    clear hF hc hd hsz hlk
    by_cases hlt : (p : Int) < n
    · go_wp2_with fail
      refine (pick_c b (s) x5 _ HC1.out (by omega) (by omega)).mono ?_
      rintro e w2 ⟨y, rfl, ⟨hy1, hy2⟩, hc2, ht2⟩
      have HC2 := hid hc2
      have HD2 := hid (HD1.out.touch HS0.out ht2)
      have HF2 := hid (HF1.out.tch ht2 hlt0)
      have HS2 : Hid (lo ≤ w2.heap.size) := Nat.le_trans HS1.out ht2.size
      clear hc2 ht2
      go_wp2_with (at_builtin; (refine wpList_push_dr (W0 := w) rfl _ _ rfl b (k := s + 2) lo (.slice a3 p c3) xs y rfl rfl HF2.out HD2.out HC2.out hlt0 HS2.out p HLK ?_ ?_))
      · omega
      intro g7 c7 w7 hF7 hd7 hc7 hs7
      have HF7 := hid hF7; have HD7 := hid hd7; have HC7 := hid hc7; have HS7 := hid hs7
      clear hF7 hd7 hc7 hs7
      go_wp2
      go_roundg (14 - (p + 1))
      case rel => exact ⟨_, p + 1, _, xs ++ [y], _, rfl, by omega, by omega, by rw [List.length_append, HLK.out]; rfl, by omega, HF7.out, HC7.out, HD7.out, HS7.out⟩
      case measure => omega
    · have f1 : IntKind.i64.wrap ((p : Int) - 1) = (p : Int) - 1 := IntWalk.i64_in _ (by omega)
      go_wp2_with fail
      refine (l1In_c _ _ _ _).mono ?_
      rintro e w2 ⟨rfl, rfl⟩
      rcases Bool.eq_false_or_eq_true (inB q 0 ((p : Int) - 1)) with tq | tq
      · obtain ⟨j, rfl⟩ : ∃ j : Nat, q = j := ⟨q.toNat, by have := inB_iff.1 tq; omega⟩
        have hj : j < p := by have := inB_iff.1 tq; omega
        have hjz : (j : Int) < (p : Int) := by omega
        rw [tq]
        obtain ⟨g, z, rfl, hg1, hg2, hcl, hfr, _⟩ := HF1.out.at (i := j) (by have := HLK.out; omega)
        have hst := HF1.out.set j 0
        have hbl : Below lo w1 (w1.setCell ⟨g, j, none⟩ (.int .i64 0)) := (Below.refl _ _).setCell hg1 _
        have HD2 := hid (HD1.out.below hbl)
        have HC2 := hid (HC1.out.low (hbl.mono hlt0))
        have HF2 := hid (hst.1.mono (Nat.le_refl _) (Nat.le_of_eq hst.2.2.symm))
        have HS2 : Hid (lo ≤ (w1.setCell ⟨g, j, none⟩ (.int .i64 0)).heap.size) := Nat.le_trans HS1.out hbl.size
        clear hst hbl
        have HLX : Hid ((xs.set j 0).length = p) := by show _ = _; rw [List.length_set, HLK.out]
        go_wp2_with fail
        refine (pick_c b (s) 30 _ HC2.out (by omega) (by omega)).mono ?_
        rintro e w4 ⟨x, rfl, ⟨hx1, hx2⟩, hc4, ht4⟩
        have HC4 := hid hc4
        have HD4 := hid (HD2.out.touch HS0.out ht4)
        have HF4 := hid (HF2.out.tch ht4 hlt0)
        have HS4 : Hid (lo ≤ w4.heap.size) := Nat.le_trans HS2.out ht4.size
        clear hc4 ht4
        rcases Bool.eq_false_or_eq_true (x == 0) with t0 | t0
        · go_wp2_with (at_builtin; (refine wpList_push_dr (W0 := w) rfl _ _ rfl b (k := s + 2) lo (.slice (some ⟨g, 0, none⟩) p c3) (xs.set j 0) 0 rfl rfl HF4.out HD4.out HC4.out hlt0 HS4.out p HLX ?_ ?_))
          · omega
          intro g6 c6 w6 hF6 hd6 hc6 hs6
          have HF6 := hid hF6; have HD6 := hid hd6; have HC6 := hid hc6; have HS6 := hid hs6
          clear hF6 hd6 hc6 hs6
          go_wp2
          go_ret
          exact retNums_mk ((xs.set j 0) ++ [0]) (by rw [List.length_append, HLX.out]; simp; omega) HF6.out (HC6.out.more (by omega)) HD6.out
        · rcases Bool.eq_false_or_eq_true (x == 1) with t1 | t1
          · by_cases hp0 : (p : Int) > 0
            · go_wp2_with fail
              refine (pick_c b (s + 2) p _ HC4.out (by omega) (by omega)).mono ?_
              rintro e w3 ⟨y, rfl, ⟨hy1, hy2⟩, hc3, ht3⟩
              have HC3 := hid hc3
              have HD3 := hid (HD4.out.touch HS0.out ht3)
              have HF3 := hid (HF4.out.tch ht3 hlt0)
              have HS3 : Hid (lo ≤ w3.heap.size) := Nat.le_trans HS4.out ht3.size
              clear hc3 ht3
              obtain ⟨i, rfl⟩ : ∃ i : Nat, y = i := ⟨y.toNat, by omega⟩
              have hi : i < p := by omega
              have hiz : (i : Int) < (p : Int) := by omega
              have HLT := hid (ints_lit w3 w3.heap.size (Nat.le_refl _) [50, 51, -1, 1] (by simp)).r
              have HAL : Hid (Below w3.heap.size w3 _) := (Below.refl w3.heap.size w3).alloc (Nat.le_refl _) (.cells ([50, 51, -1, 1].map (.int .i64 ·)).toArray 3)
              go_wp2_with fail
              refine (among_c b (s + 4) _ [50, 51, -1, 1] _ (HC3.out.keep HAL.out) (by omega) HLT.out (by simp) (by simp) (fun p hp => by simp [Value.ownBlock] at hp; have := HS3.out; omega)).mono ?_
              rintro e w8 ⟨x8, rfl, _, hc8, ht8⟩
              have HC8 := hid hc8
              have HD8 := hid ((HD3.out.below (HAL.out.mono HS3.out)).touch HS0.out ht8)
              have HF8 := hid ((HF3.out.grw HAL.out).tch ht8 hlt0)
              have HS8 : Hid (lo ≤ w8.heap.size) := Nat.le_trans (Nat.le_trans HS3.out HAL.out.size) ht8.size
              clear hc8 ht8
              obtain ⟨g8, z8, he8, hg81, hg82, hcl8, hfr8, _⟩ := HF8.out.at (i := i) (by have := HLX.out; omega)
              have hgg : g8 = g := (by simpa using he8.symm); rw [hgg] at hcl8 hfr8; clear hgg he8; have hst := HF8.out.set i x8
              have hbl : Below lo w8 (w8.setCell ⟨g, i, none⟩ (.int .i64 x8)) := (Below.refl _ _).setCell hg1 _
              have HD9 := hid (HD8.out.below hbl)
              have HC9 := hid (HC8.out.low (hbl.mono hlt0))
              have HF9 := hid (hst.1.mono (Nat.le_refl _) (Nat.le_of_eq hst.2.2.symm))
              have HS9 : Hid (lo ≤ (w8.setCell ⟨g, i, none⟩ (.int .i64 x8)).heap.size) := Nat.le_trans HS8.out hbl.size
              clear hst hbl
              go_wp2
              go_ret
              exact retNums_mk (((xs.set j 0)).set i x8) (by rw [List.length_set, HLX.out]; omega) HF9.out (HC9.out.more (by omega)) HD9.out
            · exfalso; omega
          · go_wp2
            go_ret
            exact retNums_mk ((xs.set j 0)) (by rw [HLX.out]; omega) HF4.out (HC4.out.more (by omega)) HD4.out
      · rw [tq]
        have HLX := HLK
        go_wp2_with fail
        refine (pick_c b (s) 30 _ HC1.out (by omega) (by omega)).mono ?_
        rintro e w4 ⟨x, rfl, ⟨hx1, hx2⟩, hc4, ht4⟩
        have HC4 := hid hc4
        have HD4 := hid (HD1.out.touch HS0.out ht4)
        have HF4 := hid (HF1.out.tch ht4 hlt0)
        have HS4 : Hid (lo ≤ w4.heap.size) := Nat.le_trans HS1.out ht4.size
        clear hc4 ht4
        rcases Bool.eq_false_or_eq_true (x == 0) with t0 | t0
        · go_wp2_with (at_builtin; (refine wpList_push_dr (W0 := w) rfl _ _ rfl b (k := s + 2) lo (.slice a3 p c3) xs 0 rfl rfl HF4.out HD4.out HC4.out hlt0 HS4.out p HLX ?_ ?_))
          · omega
          intro g6 c6 w6 hF6 hd6 hc6 hs6
          have HF6 := hid hF6; have HD6 := hid hd6; have HC6 := hid hc6; have HS6 := hid hs6
          clear hF6 hd6 hc6 hs6
          go_wp2
          go_ret
          exact retNums_mk (xs ++ [0]) (by rw [List.length_append, HLX.out]; simp; omega) HF6.out (HC6.out.more (by omega)) HD6.out
        · rcases Bool.eq_false_or_eq_true (x == 1) with t1 | t1
          · by_cases hp0 : (p : Int) > 0
            · go_wp2_with fail
              refine (pick_c b (s + 2) p _ HC4.out (by omega) (by omega)).mono ?_
              rintro e w3 ⟨y, rfl, ⟨hy1, hy2⟩, hc3, ht3⟩
              have HC3 := hid hc3
              have HD3 := hid (HD4.out.touch HS0.out ht3)
              have HF3 := hid (HF4.out.tch ht3 hlt0)
              have HS3 : Hid (lo ≤ w3.heap.size) := Nat.le_trans HS4.out ht3.size
              clear hc3 ht3
              obtain ⟨i, rfl⟩ : ∃ i : Nat, y = i := ⟨y.toNat, by omega⟩
              have hi : i < p := by omega
              have hiz : (i : Int) < (p : Int) := by omega
              have HLT := hid (ints_lit w3 w3.heap.size (Nat.le_refl _) [50, 51, -1, 1] (by simp)).r
              have HAL : Hid (Below w3.heap.size w3 _) := (Below.refl w3.heap.size w3).alloc (Nat.le_refl _) (.cells ([50, 51, -1, 1].map (.int .i64 ·)).toArray 3)
              go_wp2_with fail
              refine (among_c b (s + 4) _ [50, 51, -1, 1] _ (HC3.out.keep HAL.out) (by omega) HLT.out (by simp) (by simp) (fun p hp => by simp [Value.ownBlock] at hp; have := HS3.out; omega)).mono ?_
              rintro e w8 ⟨x8, rfl, _, hc8, ht8⟩
              have HC8 := hid hc8
              have HD8 := hid ((HD3.out.below (HAL.out.mono HS3.out)).touch HS0.out ht8)
              have HF8 := hid ((HF3.out.grw HAL.out).tch ht8 hlt0)
              have HS8 : Hid (lo ≤ w8.heap.size) := Nat.le_trans (Nat.le_trans HS3.out HAL.out.size) ht8.size
              clear hc8 ht8
              obtain ⟨g, z, rfl, hg1, hg2, hcl, hfr, _⟩ := HF8.out.at (i := i) (by have := HLX.out; omega)
              have hst := HF8.out.set i x8
              have hbl : Below lo w8 (w8.setCell ⟨g, i, none⟩ (.int .i64 x8)) := (Below.refl _ _).setCell hg1 _
              have HD9 := hid (HD8.out.below hbl)
              have HC9 := hid (HC8.out.low (hbl.mono hlt0))
              have HF9 := hid (hst.1.mono (Nat.le_refl _) (Nat.le_of_eq hst.2.2.symm))
              have HS9 : Hid (lo ≤ (w8.setCell ⟨g, i, none⟩ (.int .i64 x8)).heap.size) := Nat.le_trans HS8.out hbl.size
              clear hst hbl
              go_wp2
              go_ret
              exact retNums_mk ((xs).set i x8) (by rw [List.length_set, HLX.out]; omega) HF9.out (HC9.out.more (by omega)) HD9.out
            · go_wp2
              go_ret
              exact retNums_mk (xs) (by rw [HLX.out]; omega) HF4.out (HC4.out.more (by omega)) HD4.out
          · go_wp2
            go_ret
            exact retNums_mk (xs) (by rw [HLX.out]; omega) HF4.out (HC4.out.more (by omega)) HD4.out

end Go.Proofs.Ytlehhfmbdcmpoaa
