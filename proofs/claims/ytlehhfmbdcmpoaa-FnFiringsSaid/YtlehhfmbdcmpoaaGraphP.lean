/- Drawn graphs with a sink: pileGraph (printed by wip/pilegen.py). -/
import Derived.Test.YtlehhfmbdcmpoaaGraphS
namespace Go.Proofs.Ytlehhfmbdcmpoaa
open Go.RowKit
open Go.Lib (hid)

def RetPG (b k : Nat) (w : World) (e : Ending) (w' : World) : Prop := ∃ (n : Int) (v : Value) (L : List Lnk) (q : Int), e = .returned (.tuple #[.int .i64 n, v, .int .i64 q]) ∧ -1 ≤ n ∧ n ≤ 9 ∧ L.length ≤ 101 ∧ OLinks w' w.heap.size v L ∧ Cur w' b k ∧ Dr b w.heap.size w w'

set_option maxRecDepth 100000 in
set_option maxHeartbeats 4000000 in
theorem pileGraph_c (b k : Nat) (w : World) (h : Cur w b k) (hk : k ≤ 700000000000) :
    Calls Try.prog 151 #[.pointer (some ⟨b, 0, none⟩)] w (RetPG b (k + 3000) w) := by
  have HH := hid h
  have hlt0 := h.lt
  obtain ⟨lo, hlo⟩ : ∃ lo, w.heap.size = lo := ⟨_, rfl⟩
  have HLO := hid hlo
  rw [hlo] at hlt0
  have HC0 := HH
  have HT0 : Hid (Dr b lo w w) := Dr.refl _ _ _
  have HO0 : Hid (OLinks w lo (.slice none 0 0) []) := olinks_nil _ _
  have HS0 : Hid (lo ≤ w.heap.size) := Nat.le_of_eq hlo.symm
  clear h hlo
  unfold RetPG
  rw [HLO.out]
  go_enter Try.func151, Try.ntmps151
  go_wp2_with fail
  refine (pick_c b k 4 _ HC0.out (by omega) (by omega)).mono ?_
  rintro e w2 ⟨n0, rfl, ⟨hn1, hn2⟩, hc2, ht2⟩
  have HC2 := hid hc2
  have HT2 := hid (HT0.out.touch (Nat.le_of_eq HLO.out.symm) ht2)
  have HO2 := hid (HO0.out.touch ht2 hlt0)
  have HS2 : Hid (lo ≤ w2.heap.size) := Nat.le_trans HS0.out ht2.size
  clear hc2 ht2
  have f1 : IntKind.i64.wrap (1 + n0) = 1 + n0 := IntWalk.i64_in _ (by omega)
  go_wp2_with fail
  refine (one_c b (k + 2) 12 _ HC2.out (by omega) (by omega)).mono ?_
  rintro e w3 ⟨x, rfl, hc3, ht3⟩
  have HC3 := hid hc3
  have HT3 := hid (HT2.out.touch (Nat.le_of_eq HLO.out.symm) ht3)
  have HO3 := hid (HO2.out.touch ht3 hlt0)
  have HS3 : Hid (lo ≤ w3.heap.size) := Nat.le_trans HS2.out ht3.size
  clear hc3 ht3
  cases x
  case' false => obtain ⟨m, hm, hm1, hm8⟩ : ∃ m : Nat, 1 + n0 = m ∧ 1 ≤ m ∧ m ≤ 8 := ⟨(1 + n0).toNat, by omega, by omega, by omega⟩
  case' true => obtain ⟨m, hm, hm1, hm8⟩ : ∃ m : Nat, (5 : Int) = m ∧ 1 ≤ m ∧ m ≤ 8 := ⟨5, rfl, by omega, by omega⟩
  all_goals
    go_wp2
    try rw [hm]
    clear hm
    go_loopg [6, 7] m (fun gk lv iv wr => ∃ (i : Nat) (L : List Lnk) (s : Nat), iv = .int .i64 i ∧ i ≤ m ∧ gk = m - i ∧ Cur wr b s ∧ s ≤ k + 10 + i * 80 ∧ OLinks wr lo lv L ∧ L.length ≤ i * 8 ∧ Dr b lo w wr ∧ lo ≤ wr.heap.size)
    case atStart => exact ⟨0, [], _, rfl, by omega, rfl, HC3.out, by omega, olinks_nil _ _, by simp, HT3.out, HS3.out⟩
    case round =>
      obtain ⟨i, L0, s, rfl, hi, rfl, hc, hs, hO, hl, hd, hsz⟩ := hrel
      have HC4 := hid hc
      have HO4 := hid hO
      have HT4 := hid hd
      have HS4 := hid hsz
      clear hc hO hd hsz
      by_cases hlt : i < m
      · have hltz : (i : Int) < (m : Int) := by omega
        have f4 : IntKind.i64.wrap ((i : Int) + 1) = (i : Int) + 1 := IntWalk.i64_in _ (by omega)
        go_wp2
        go_loopg [6, 8] (m - (i + 1)) (fun gk lv jv wr => ∃ (j : Nat) (L : List Lnk) (q : Nat), jv = .int .i64 j ∧ j ≤ m ∧ i < j ∧ gk = m - j ∧ Cur wr b q ∧ q ≤ k + 10 + i * 80 + j * 8 ∧ OLinks wr lo lv L ∧ L.length ≤ i * 8 + (j - i - 1) ∧ Dr b lo w wr ∧ lo ≤ wr.heap.size)
        case atStart => exact ⟨i + 1, L0, s, by go_num, by omega, by omega, by omega, HC4.out, by omega, HO4.out, by omega, HT4.out, HS4.out⟩
        case round =>
          obtain ⟨w5, rfl⟩ : ∃ w' : World, w' = wr := ⟨_, rfl⟩
          obtain ⟨j, L, q, rfl, hj, hij, rfl, hc, hq, hO, hl5, hd, hsz⟩ := hrel
          have HC5 := hid hc
          have HO5 := hid hO
          have HT5 := hid hd
          have HS5 := hid hsz
          clear hc hO hd hsz
          by_cases hltj : j < m
          · have hltzj : (j : Int) < (m : Int) := by omega
            rcases Bool.eq_false_or_eq_true ((j : Int) == (i : Int) + 1) with tb | tb
            · have HLT := hid (ints_lit w5 w5.heap.size (Nat.le_refl _) [1, 1, 1, 2] (by simp)).r
              have HAL : Hid (Below w5.heap.size w5 _) := (Below.refl w5.heap.size w5).alloc (Nat.le_refl _) (.cells ([1, 1, 1, 2].map (.int .i64 ·)).toArray 3)
              go_wp2_with fail
              refine (among_c b (q) _ [1, 1, 1, 2] _ (HC5.out.keep HAL.out) (by omega) HLT.out (by simp) (by simp) (fun p hp => by simp [Value.ownBlock] at hp; have := HS5.out; omega)).mono ?_
              rintro e w8 ⟨x8, rfl, _, hc8, ht8⟩
              have HC8 := hid hc8
              have HT8 := hid ((HT5.out.below (HAL.out.mono HS5.out)).touch (Nat.le_of_eq HLO.out.symm) ht8)
              have HO8 := hid ((HO5.out.keep HAL.out).touch ht8 hlt0)
              have HS8 : Hid (lo ≤ w8.heap.size) := Nat.le_trans (Nat.le_trans HS5.out HAL.out.size) ht8.size
              clear hc8 ht8
              go_wp2_with (at_builtin; (refine wpList_push_link (W0 := w) rfl _ _ rfl b (k := q + 2) lo _ L (i : Int) (j : Int) x8 ?_ ?_ HO8.out HT8.out HC8.out hlt0 HS8.out ?_ ?_))
              · rfl
              · rfl
              · omega
              intro v9 w9 hO9 hd9 hc9 hs9
              have HO9 := hid hO9; have HT9 := hid hd9; have HC9 := hid hc9; have HS9 := hid hs9
              clear hO9 hd9 hc9 hs9
              go_wp2
              go_roundg (m - (j + 1))
              case rel => exact ⟨j + 1, _, _, by go_num, by omega, by omega, by omega, HC9.out, by omega, HO9.out, by rw [List.length_append]; simp; omega, HT9.out, HS9.out⟩
              case measure => omega
            · go_wp2_with fail
              refine (one_c b (q) 3 _ HC5.out (by omega) (by omega)).mono ?_
              rintro e w6 ⟨z, rfl, hc6, ht6⟩
              have HC6 := hid hc6
              have HT6 := hid (HT5.out.touch (Nat.le_of_eq HLO.out.symm) ht6)
              have HO6 := hid (HO5.out.touch ht6 hlt0)
              have HS6 : Hid (lo ≤ w6.heap.size) := Nat.le_trans HS5.out ht6.size
              clear hc6 ht6
              cases z
              · go_wp2
                go_roundg (m - (j + 1))
                case rel => exact ⟨j + 1, L, _, by go_num, by omega, by omega, by omega, HC6.out, by omega, HO6.out, by omega, HT6.out, HS6.out⟩
                case measure => omega
              · have HLT := hid (ints_lit w6 w6.heap.size (Nat.le_refl _) [1, 1, 1, 2] (by simp)).r
                have HAL : Hid (Below w6.heap.size w6 _) := (Below.refl w6.heap.size w6).alloc (Nat.le_refl _) (.cells ([1, 1, 1, 2].map (.int .i64 ·)).toArray 3)
                go_wp2_with fail
                refine (among_c b (q + 2) _ [1, 1, 1, 2] _ (HC6.out.keep HAL.out) (by omega) HLT.out (by simp) (by simp) (fun p hp => by simp [Value.ownBlock] at hp; have := HS6.out; omega)).mono ?_
                rintro e w8 ⟨x8, rfl, _, hc8, ht8⟩
                have HC8 := hid hc8
                have HT8 := hid ((HT6.out.below (HAL.out.mono HS6.out)).touch (Nat.le_of_eq HLO.out.symm) ht8)
                have HO8 := hid ((HO6.out.keep HAL.out).touch ht8 hlt0)
                have HS8 : Hid (lo ≤ w8.heap.size) := Nat.le_trans (Nat.le_trans HS6.out HAL.out.size) ht8.size
                clear hc8 ht8
                go_wp2_with (at_builtin; (refine wpList_push_link (W0 := w) rfl _ _ rfl b (k := q + 4) lo _ L (i : Int) (j : Int) x8 ?_ ?_ HO8.out HT8.out HC8.out hlt0 HS8.out ?_ ?_))
                · rfl
                · rfl
                · omega
                intro v9 w9 hO9 hd9 hc9 hs9
                have HO9 := hid hO9; have HT9 := hid hd9; have HC9 := hid hc9; have HS9 := hid hs9
                clear hO9 hd9 hc9 hs9
                go_wp2
                go_roundg (m - (j + 1))
                case rel => exact ⟨j + 1, _, _, by go_num, by omega, by omega, by omega, HC9.out, by omega, HO9.out, by rw [List.length_append]; simp; omega, HT9.out, HS9.out⟩
                case measure => omega
          · obtain rfl : j = m := by omega
            go_wp2
            go_roundg (j - (i + 1))
            case rel => exact ⟨i + 1, L, q, by go_num, by omega, rfl, HC5.out, by omega, HO5.out, by omega, HT5.out, HS5.out⟩
            case measure => omega
      · obtain rfl : i = m := by omega
        obtain ⟨w4, rfl⟩ : ∃ w' : World, w' = wr := ⟨_, rfl⟩
        go_wp2_with fail
        refine (one_c b (s) 16 _ HC4.out (by omega) (by omega)).mono ?_
        rintro e w1 ⟨x1, rfl, hc1, ht1⟩
        have HC1 := hid hc1
        have HT1 := hid (HT4.out.touch (Nat.le_of_eq HLO.out.symm) ht1)
        have HO1 := hid (HO4.out.touch ht1 hlt0)
        have HS1 : Hid (lo ≤ w1.heap.size) := Nat.le_trans HS4.out ht1.size
        clear hc1 ht1
        cases x1
        · go_wp2_with fail
          refine (pick_c b (s + 2) i _ HC1.out (by omega) (by omega)).mono ?_
          rintro e w2 ⟨y, rfl, _, hc2, ht2⟩
          have HC2 := hid hc2
          have HT2 := hid (HT1.out.touch (Nat.le_of_eq HLO.out.symm) ht2)
          have HO2 := hid (HO1.out.touch ht2 hlt0)
          have HS2 : Hid (lo ≤ w2.heap.size) := Nat.le_trans HS1.out ht2.size
          clear hc2 ht2
          go_wp2_with fail
          refine (one_c b (s + 4) 30 _ HC2.out (by omega) (by omega)).mono ?_
          rintro e w3 ⟨x3, rfl, hc3, ht3⟩
          have HC3 := hid hc3
          have HT3 := hid (HT2.out.touch (Nat.le_of_eq HLO.out.symm) ht3)
          have HO3 := hid (HO2.out.touch ht3 hlt0)
          have HS3 : Hid (lo ≤ w3.heap.size) := Nat.le_trans HS2.out ht3.size
          clear hc3 ht3
          cases x3
          · go_wp2
            go_ret3
            exact ⟨_, _, _, _, rfl, by omega, by omega, by omega, HO3.out, HC3.out.more (by omega), HT3.out⟩
          · have HLT := hid (ints_lit w3 w3.heap.size (Nat.le_refl _) [(i : Int), -1] (by simp)).r
            have HAL : Hid (Below w3.heap.size w3 _) := (Below.refl w3.heap.size w3).alloc (Nat.le_refl _) (.cells ([(i : Int), -1].map (.int .i64 ·)).toArray 3)
            go_wp2_with fail
            refine (among_c b (s + 6) _ [(i : Int), -1] _ (HC3.out.keep HAL.out) (by omega) HLT.out (by simp) (by simp) (fun p hp => by simp [Value.ownBlock] at hp; have := HS3.out; omega)).mono ?_
            rintro e w8 ⟨x8, rfl, _, hc8, ht8⟩
            have HC8 := hid hc8
            have HT8 := hid ((HT3.out.below (HAL.out.mono HS3.out)).touch (Nat.le_of_eq HLO.out.symm) ht8)
            have HO8 := hid ((HO3.out.keep HAL.out).touch ht8 hlt0)
            clear hc8 ht8
            go_wp2
            go_ret3
            exact ⟨_, _, _, _, rfl, by omega, by omega, by omega, HO8.out, HC8.out.more (by omega), HT8.out⟩
        · go_wp2_with fail
          refine (anyGraph_c b (s + 2) _ HC1.out (by omega)).mono ?_
          rintro e w2 ⟨n, v, L, rfl, hn1, hn9, hl9, hO, hc, hd⟩
          have HO2 := hid (hO.mono HS1.out)
          have HT2 := hid (HT1.out.trans (hd.low HS1.out))
          have HC2 := hid hc
          clear hO hc hd
          go_wp2_with fail
          refine (pick_c b (s + 2 + 2000) 3 _ HC2.out (by omega) (by omega)).mono ?_
          rintro e w3 ⟨y, rfl, _, hc3, ht3⟩
          have HC3 := hid hc3
          have HT3 := hid (HT2.out.touch (Nat.le_of_eq HLO.out.symm) ht3)
          have HO3 := hid (HO2.out.touch ht3 hlt0)
          clear hc3 ht3
          go_wp2
          go_ret3
          exact ⟨_, _, _, _, rfl, hn1, hn9, hl9, HO3.out, HC3.out.more (by omega), HT3.out⟩

end Go.Proofs.Ytlehhfmbdcmpoaa
