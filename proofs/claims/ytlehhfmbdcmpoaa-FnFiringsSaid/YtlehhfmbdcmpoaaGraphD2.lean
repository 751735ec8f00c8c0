/- Drawn graphs: anyGraph. -/
import Derived.Test.YtlehhfmbdcmpoaaGraphD
namespace Go.Proofs.Ytlehhfmbdcmpoaa
open Go.RowKit
open Go.Lib (hid)

theorem olinks_cell {w : World} {lo : Nat} {a : Option Addr} {n cap : Nat} {L : List Lnk} (h : OLinks w lo (.slice a n cap) L) (hl : 0 < L.length) : ∃ g, a = some ⟨g, 0, none⟩ ∧ n = L.length := by
  obtain ⟨g, h1, h2, _⟩ := h.set hl
  exact ⟨g, h1, h2⟩

set_option maxRecDepth 100000 in
set_option maxHeartbeats 4000000 in
theorem anyGraph_c (b k : Nat) (w : World) (h : Cur w b k) (hk : k ≤ 800000000000) :
    Calls Try.prog 99 #[.pointer (some ⟨b, 0, none⟩)] w (RetGraph b (k + 2000) w) := by
  have HH := hid h
  have hlt0 := h.lt
  obtain ⟨lo, hlo⟩ : ∃ lo, w.heap.size = lo := ⟨_, rfl⟩
  have HLO := hid hlo
  rw [hlo] at hlt0
  clear h hlo
  unfold RetGraph
  rw [HLO.out]
  go_enter Try.func99, Try.ntmps99
  go_wp2_with fail
  refine (graph_c b k _ HH.out (by omega)).mono ?_
  rintro e w1 ⟨n, v, L, rfl, hn1, hn8, hl, hO, hc, hd⟩
  rw [HLO.out] at hO hd
  have HS1 : Hid (lo ≤ w1.heap.size) := by have := hd.size; have := HLO.out; show _ ≤ _; omega
  have HO1 := hid hO
  have HC1 := hid hc
  have HT1 := hid hd
  obtain ⟨a1, c1, rfl⟩ := hO.form2
  clear hO hc hd
  go_wp2_with fail
  refine (pick_c b (k + 1000) 30 _ HC1.out (by omega) (by omega)).mono ?_
  rintro e w2 ⟨x, rfl, ⟨hx1, hx2⟩, hc2, ht2⟩
  have HC2 := hid hc2
  have HT2 := hid (HT1.out.touch (Nat.le_of_eq HLO.out.symm) ht2)
  have HO2 := hid (HO1.out.touch ht2 hlt0)
  have HS2 : Hid (lo ≤ w2.heap.size) := Nat.le_trans HS1.out ht2.size
  have f1 : IntKind.i64.wrap (n - 1) = n - 1 := IntWalk.i64_in _ (by omega)
  have f2 : IntKind.i64.wrap (n + 1) = n + 1 := IntWalk.i64_in _ (by omega)
  clear hc2 ht2
  rcases Bool.eq_false_or_eq_true (x == 0) with t0 | t0
  · have HLT := hid (ints_lit w2 w2.heap.size (Nat.le_refl _) [0, -1, 9, n - 1] (by simp)).r
    have HAL : Hid (Below w2.heap.size w2 _) := (Below.refl w2.heap.size w2).alloc (Nat.le_refl _) (.cells ([0, -1, 9, n - 1].map (.int .i64 ·)).toArray 3)
    go_wp2_with fail
    refine (among_c b (k + 1000 + 2) _ [0, -1, 9, n - 1] _ (HC2.out.keep HAL.out) (by omega) HLT.out (by simp) (by simp) (fun p hp => by simp [Value.ownBlock] at hp; have := HS2.out; omega)).mono ?_
    rintro e w8 ⟨x8, rfl, hx8, hc8, ht8⟩
    have HC8 := hid hc8
    have HT8 := hid ((HT2.out.below (HAL.out.mono HS2.out)).touch (Nat.le_of_eq HLO.out.symm) ht8)
    have HO8 := hid ((HO2.out.keep HAL.out).touch ht8 hlt0)
    have hx9 : -1 ≤ x8 ∧ x8 ≤ 9 := by simp at hx8; omega
    clear hc8 ht8 hx8
    go_wp2
    go_ret2
    exact ⟨_, _, _, rfl, hx9.1, hx9.2, by omega, HO8.out, HC8.out.more (by omega), HT8.out⟩
  · rcases Bool.eq_false_or_eq_true (x == 1) with t1 | t1
    · go_wp2_with fail
      refine (pick_c b (k + 1000 + 2) 3 _ HC2.out (by omega) (by omega)).mono ?_
      rintro e w3 ⟨y, rfl, _, hc3, ht3⟩
      have HC3 := hid hc3
      have HT3 := hid (HT2.out.touch (Nat.le_of_eq HLO.out.symm) ht3)
      have HO3 := hid (HO2.out.touch ht3 hlt0)
      have HS3 : Hid (lo ≤ w3.heap.size) := Nat.le_trans HS2.out ht3.size
      clear hc3 ht3
      go_wp2_with fail
      refine (pick_c b (k + 1000 + 4) (n + 1) _ HC3.out (by omega) (by omega)).mono ?_
      rintro e w4 ⟨z, rfl, _, hc4, ht4⟩
      have HC4 := hid hc4
      have HT4 := hid (HT3.out.touch (Nat.le_of_eq HLO.out.symm) ht4)
      have HO4 := hid (HO3.out.touch ht4 hlt0)
      have HS4 : Hid (lo ≤ w4.heap.size) := Nat.le_trans HS3.out ht4.size
      clear hc4 ht4
      go_wp2_with (at_builtin; (refine wpList_push_link (W0 := w) rfl _ _ rfl b (k := k + 1006) lo _ L y z 1 ?_ ?_ HO4.out HT4.out HC4.out hlt0 HS4.out ?_ ?_))
      · rfl
      · rfl
      · omega
      intro v9 w9 hO9 hd9 hc9 hs9
      have HO9 := hid hO9; have HT9 := hid hd9; have HC9 := hid hc9
      clear hO9 hd9 hc9 hs9
      go_wp2
      go_ret2
      exact ⟨_, _, _, rfl, by omega, by omega, by rw [List.length_append]; simp; omega, HO9.out, HC9.out.more (by omega), HT9.out⟩
    · rcases Bool.eq_false_or_eq_true (x == 2) with t2 | t2
      · by_cases hl0 : 0 < L.length
        · have hlz : (L.length : Int) > 0 := by omega
          go_wp2_with fail
          refine (pick_c b (k + 1000 + 2) L.length _ HC2.out (by omega) (by omega)).mono ?_
          rintro e w3 ⟨y, rfl, ⟨hy1, hy2⟩, hc3, ht3⟩
          have HC3 := hid hc3
          have HT3 := hid (HT2.out.touch (Nat.le_of_eq HLO.out.symm) ht3)
          have HO3 := hid (HO2.out.touch ht3 hlt0)
          have HS3 : Hid (lo ≤ w3.heap.size) := Nat.le_trans HS2.out ht3.size
          clear hc3 ht3
          obtain ⟨i, rfl⟩ : ∃ i : Nat, y = i := ⟨y.toNat, by omega⟩
          have hi : i < L.length := by omega
          have HLT := hid (ints_lit w3 w3.heap.size (Nat.le_refl _) [0, 6, -1] (by simp)).r
          have HAL : Hid (Below w3.heap.size w3 _) := (Below.refl w3.heap.size w3).alloc (Nat.le_refl _) (.cells ([0, 6, -1].map (.int .i64 ·)).toArray 3)
          go_wp2_with fail
          refine (among_c b (k + 1000 + 4) _ [0, 6, -1] _ (HC3.out.keep HAL.out) (by omega) HLT.out (by simp) (by simp) (fun p hp => by simp [Value.ownBlock] at hp; have := HS3.out; omega)).mono ?_
          rintro e w8 ⟨x8, rfl, hx8, hc8, ht8⟩
          have hO8 := (HO3.out.keep HAL.out).touch ht8 hlt0
          have hs8 : lo ≤ w8.heap.size := Nat.le_trans (Nat.le_trans HS3.out HAL.out.size) ht8.size
          obtain ⟨g, rfl, _, hg1, hg2, ⟨q, hq⟩, hfz, hset⟩ := hO8.set hi
          have hst := hset x8
          have HT8 := hid ((HT3.out.below (HAL.out.mono HS3.out)).touch (Nat.le_of_eq HLO.out.symm) ht8)
          have hbl : Below lo w8 (w8.setCell ⟨g, i * 3 + 2, none⟩ (.int .i64 x8)) := (Below.refl _ _).setCell hg1 _
          have HT9 := hid (HT8.out.below hbl)
          have HC9 := hid (hc8.low (hbl.mono hlt0))
          have HO9 := hid hst
          have HQ := hid (And.intro hq hfz)
          have hiz : (i : Int) < (L.length : Int) := by omega
          clear hO8 hs8 hq hfz hset hst hc8 ht8 hbl hx8
          obtain ⟨hq, hfz⟩ := HQ.out
          go_wp2
          go_ret2
          exact ⟨_, _, _, rfl, by omega, by omega, by rw [List.length_set]; omega, HO9.out, HC9.out.more (by omega), HT9.out⟩
        · have hlz : ¬ (L.length : Int) > 0 := by omega
          go_wp2
          go_ret2
          exact ⟨_, _, _, rfl, by omega, by omega, by omega, HO2.out, HC2.out.more (by omega), HT2.out⟩
      · go_wp2
        go_ret2
        exact ⟨_, _, _, rfl, by omega, by omega, by omega, HO2.out, HC2.out.more (by omega), HT2.out⟩

end Go.Proofs.Ytlehhfmbdcmpoaa
