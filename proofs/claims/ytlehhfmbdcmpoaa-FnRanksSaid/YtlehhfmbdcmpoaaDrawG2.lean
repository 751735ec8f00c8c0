/- Small divisors with their bounds; DrawDualChips, DrawBreakingChips (printed by wip/drawg2.py). -/
import Derived.Test.YtlehhfmbdcmpoaaDrawG
import Derived.Test.YtlehhfmbdcmpoaaRankF
namespace Go.Proofs.Ytlehhfmbdcmpoaa
open Go.RowKit
open Go.Lib (hid)

set_option maxRecDepth 100000 in
set_option maxHeartbeats 2000000 in
theorem raLessG_c (n m : Nat) (v u : Value) (f g : Nat → Int) (w : World) (hf : RInts w v (lst n f)) (hg : RInts w u (lst m g)) (hnm : n ≤ m) (hn : n ≤ 1000) (bf : ∀ i, i < n → -10000 ≤ f i ∧ f i ≤ 10000) (bg : ∀ i, i < m → -10000 ≤ g i ∧ g i ≤ 10000) :
    Calls Try.prog 199 #[v, u] w (RetInts w (lst n (fun i => f i - g i))) := by
  have HU := hid hg
  have BF := hid bf; clear bf
  have BG := hid bg; clear bg
  obtain ⟨a1, c1, rfl, _, _, hc1⟩ := hf
  have HF := hid (show RInts w (.slice a1 (lst n f).length c1) (lst n f) from ⟨a1, c1, rfl, ‹_›, ‹_›, hc1⟩)
  obtain ⟨a2, c2, rfl, _, _, hc2⟩ := hg
  clear hc1 hc2
  rw [lst_len] at HF HU ⊢
  rw [lst_len]
  go_enter Try.func199, Try.ntmps199
  go_wp2_with fail
  refine (l1Own_c _ (lst n f) _ HF.out (by rw [lst_len]; omega)).mono ?_
  rintro e w1 ⟨u1, rfl, hF, hb1⟩
  have HB1 := hid hb1
  have HU1 := hid (HU.out.keep hb1)
  have hsz := hb1.size
  by_cases hn0 : n = 0
  · subst hn0
    obtain ⟨a3, c3, rfl⟩ := hF.form
    have HFF := hid hF
    clear hF hb1
    rw [lst_len]
    go_wp2
    go_loopg [11] 0 (fun gk i wr => gk = 0 ∧ i = .int .i64 (0 : Nat) ∧ wr = w1)
    case atStart => exact ⟨rfl, rfl, rfl⟩
    case round =>
      obtain ⟨rfl, rfl, rfl⟩ := hrel
      go_wp2
      go_ret
      exact ⟨_, rfl, by have := HFF.out; rw [lst_len] at this; exact this, HB1.out⟩
  · obtain ⟨g1, c3, rfl, hlo, hhi⟩ := fi_form hF (by omega)
    obtain ⟨gu, ou, cu, hvu, hcu1, hcu2, hcell⟩ := ri_open HU1.out (by omega)
    simp only [Value.slice.injEq] at hvu
    obtain ⟨rfl, _, rfl⟩ := hvu
    have HCELL := hid hcell
    have HFF := hid hF
    clear hF hb1 hcell
    go_wp2
    go_loopg [11] n (fun gk i wr => ∃ k : Nat, k ≤ n ∧ gk = n - k ∧ i = .int .i64 k ∧ FInts wr w.heap.size w1.heap.size (.slice (some ⟨g1, 0, none⟩) n c3) (lst n (fun i => if i < k then f i - g i else f i)) ∧ Touch w.heap.size w1.heap.size w1 wr)
    case atStart => exact ⟨0, Nat.zero_le _, rfl, rfl, by have := HFF.out; rw [lst_congr (g := f) (fun i _ => by rw [if_neg (by omega)])]; exact this, Touch.refl _ _ _⟩
    case round =>
      obtain ⟨k, hk, rfl, rfl, hF, hT⟩ := hrel
      by_cases hlt : k < n
      · have hbr : Below w.heap.size w wr := HB1.out.trans (hT.below (Nat.le_refl _) hsz)
        obtain ⟨wq, hwq⟩ : ∃ wq : World, wq = wr.drew := ⟨_, rfl⟩
        obtain ⟨hc, _, hset⟩ := fi_open hF
        have d1 : wq.cell? ⟨g1, k, none⟩ = some (.int .i64 (f k)) := by rw [hwq]; have := (hc k hlt).1; rw [if_neg (Nat.lt_irrefl k)] at this; exact this
        have d2 : wq.frozen? ⟨g1, k, none⟩ = false := by rw [hwq]; exact (hc k hlt).2
        have d3 : wq.cell? ⟨gu, ou + k, none⟩ = some (.int .i64 (g k)) := by
          rw [hwq]
          have h1 := HCELL.out k (by omega)
          have h2 := HU.out
          have h3 := (hT.cell (b := gu) (o := ou + k) (by
            intro hh
            obtain ⟨a', c', e', _, _, hc'⟩ := HU.out
            simp only [Value.slice.injEq] at e'
            obtain ⟨rfl, _, _⟩ := e'
            obtain ⟨g', o', e', hcell'⟩ := hc' k (by rw [lst_len]; omega)
            simp only [Option.some.injEq, Addr.mk.injEq, and_true] at e'
            obtain ⟨rfl, rfl⟩ := e'
            have := cell_lt hcell'
            omega) h1)
          exact h3
        have b1 := BF.out k hlt
        have b2 := BG.out k (by omega)
        have hst := hset k (f k - g k) hlt
        have hlst : lst n (upd (fun i => if i < k then f i - g i else f i) k (f k - g k)) = lst n (fun i => if i < k + 1 then f i - g i else f i) := lst_congr (fun i _ => by
          unfold upd
          dsimp only
          by_cases e : i = k
          · subst e; rw [if_pos rfl, if_pos (by omega)]
          · rw [if_neg e]
            by_cases e2 : i < k
            · rw [if_pos e2, if_pos (by omega)]
            · rw [if_neg e2, if_neg (by omega)])
        rw [hlst] at hst
        obtain ⟨x, hx⟩ : ∃ x, f k = x := ⟨_, rfl⟩
        obtain ⟨y, hy⟩ : ∃ y, g k = y := ⟨_, rfl⟩
        rw [hx] at d1 hst b1
        rw [hy] at d3 hst b2
        have HO : Hid (FInts (wq.setCell ⟨g1, k, none⟩ (.int .i64 (x - y))) w.heap.size w1.heap.size (.slice (some ⟨g1, 0, none⟩) n c3) (lst n (fun i => if i < k + 1 then f i - g i else f i)) ∧ Touch w.heap.size w1.heap.size w1 (wq.setCell ⟨g1, k, none⟩ (.int .i64 (x - y)))) := by
          rw [hwq]; exact ⟨hst.1, hT.trans ⟨hst.2.os, hst.2.tape, hst.2.output, hst.2.size, hst.2.block⟩⟩
        have HWQ := hid hwq
        have hkz : (k : Int) < (n : Int) := by omega
        have hkmz : (k : Int) < (m : Int) := by omega
        clear hF hT hbr hc hset hst hlst hx hy hwq
        have f1 : IntKind.i64.wrap (x - y) = x - y := IntWalk.i64_in _ (by omega)
        go_wp2
        refine wp_region_still_tail 10 (by kernel_rfl) (by kernel_rfl) ?_
        change wpStill _ _ wr.drew _ _ _
        rw [← HWQ.out]
        simp only [List.take_succ_cons, List.take_zero, List.drop_succ_cons, List.drop_zero]
        repeat still_step
        refine wpStill_nil ?_
        change wpList _ _ _ _ _ wr.drew
        rw [← HWQ.out]
        clear f1
        go_wp2
        go_roundg (n - (k + 1))
        case rel => exact ⟨k + 1, by omega, rfl, by go_num, HO.out⟩
        case measure => omega
      · obtain rfl : k = n := by omega
        rw [lst_congr (g := fun i => f i - g i) (fun i hi => by rw [if_pos hi])] at hF
        have HO := hid (And.intro hF hT)
        clear hF hT
        go_wp2
        go_ret
        exact ⟨_, rfl, HO.out.1.mono (Nat.le_refl _) HO.out.2.size, HB1.out.trans (HO.out.2.below (Nat.le_refl _) hsz)⟩


set_option maxRecDepth 100000 in
set_option maxHeartbeats 2000000 in
theorem raDualG_c (n : Nat) (v u : Value) (L : List Lnk) (d : List Int) (w : World) (h : RLinks w v L) (hG : GoodL n L) (hd : RInts w u d) (hl : n ≤ d.length) (hb : ∀ x ∈ d, -9 ≤ x ∧ x ≤ 9) :
    Calls Try.prog 164 #[.int .i64 n, v, u] w (RetInts w (lst n (dualF n L d))) := by
  have HR := hid h
  have HD := hid (rints_lst hd rfl)
  have HDB := hid hb
  obtain ⟨a, cap, rfl⟩ := h.form
  obtain ⟨a2, cap2, rfl, _, _, hcc⟩ := hd
  have hn8 := hG.n8
  have hn1 := hG.n1
  have HG := hid hG
  have HV := hid (fun i (hi : i < n) => valV_bound hG hi)
  have HLE := hid hl
  clear h hcc hb hG hl
  go_enter Try.func164, Try.ntmps164
  go_wp2_with fail
  refine (chValences_c n _ L _ HR.out HG.out).mono ?_
  rintro e w1 ⟨u1, rfl, hF, hb1⟩
  have HB1 := hid hb1
  have HD1 := hid (HD.out.keep hb1)
  have hsz := hb1.size
  obtain ⟨g1, c3, rfl, hlo, hhi⟩ := fi_form hF (by omega)
  have HFF := hid hF
  clear hF hb1
  go_wp2
  go_loopg [14] n (fun gk i wr => ∃ k : Nat, k ≤ n ∧ gk = n - k ∧ i = .int .i64 k ∧ FInts wr w.heap.size w1.heap.size (.slice (some ⟨g1, 0, none⟩) n c3) (lst n (fun i => if i < k then valV n L i - 2 else valV n L i)) ∧ Touch w.heap.size w1.heap.size w1 wr)
  case atStart => exact ⟨0, Nat.zero_le _, rfl, rfl, by have := HFF.out; rw [lst_congr (g := valV n L) (fun i _ => by rw [if_neg (by omega)])]; exact this, Touch.refl _ _ _⟩
  case round =>
    obtain ⟨k, hk, rfl, rfl, hF, hT⟩ := hrel
    by_cases hlt : k < n
    · obtain ⟨hc, _, hset⟩ := fi_open hF
      have d1 := (hc k hlt).1
      rw [if_neg (Nat.lt_irrefl k)] at d1
      have d2 := (hc k hlt).2
      have b1 := HV.out k hlt
      have hst := hset k (valV n L k - 2) hlt
      have hlst : lst n (upd (fun i => if i < k then valV n L i - 2 else valV n L i) k (valV n L k - 2)) = lst n (fun i => if i < k + 1 then valV n L i - 2 else valV n L i) := lst_congr (fun i _ => by
        unfold upd
        dsimp only
        by_cases e : i = k
        · subst e; rw [if_pos rfl, if_pos (by omega)]
        · rw [if_neg e]
          by_cases e2 : i < k
          · rw [if_pos e2, if_pos (by omega)]
          · rw [if_neg e2, if_neg (by omega)])
      rw [hlst] at hst
      obtain ⟨x, hx⟩ : ∃ x, valV n L k = x := ⟨_, rfl⟩
      rw [hx] at d1 hst b1
      have HO : Hid (FInts (wr.setCell ⟨g1, k, none⟩ (.int .i64 (x - 2))) w.heap.size w1.heap.size (.slice (some ⟨g1, 0, none⟩) n c3) (lst n (fun i => if i < k + 1 then valV n L i - 2 else valV n L i)) ∧ Touch w.heap.size w1.heap.size w1 (wr.setCell ⟨g1, k, none⟩ (.int .i64 (x - 2)))) :=
        ⟨hst.1, hT.trans hst.2⟩
      have hkz : (k : Int) < (n : Int) := by omega
      clear hF hT hc hset hst hlst hx
      go_wp2
      go_roundg (n - (k + 1))
      case rel => exact ⟨k + 1, by omega, rfl, by go_num, HO.out⟩
      case measure => omega
    · obtain rfl : k = n := by omega
      rw [lst_congr (g := fun i => valV k L i - 2) (fun i hi => by rw [if_pos hi])] at hF
      have hbr : Below w1.heap.size w1 wr ∨ True := .inr trivial
      have hd1 : RInts wr (.slice a2 d.length cap2) (lst d.length (fun i => d.getD i 0)) := by
        obtain ⟨a', c', e', q1, q2, q3⟩ := HD.out
        refine ⟨a', c', e', q1, q2, fun i hi => ?_⟩
        obtain ⟨g', o', x1, x2⟩ := q3 i hi
        refine ⟨g', o', x1, hT.cell ?_ ((HB1.out.cell (p := ⟨g', o' + i, none⟩) (cell_lt x2)).trans x2)⟩
        have := cell_lt x2; omega
      have HF := hid hF
      have HT := hid hT
      clear hF hT hbr
      go_wp2_with fail
      refine (raLessG_c k d.length _ _ (fun i => valV k L i - 2) (fun i => d.getD i 0) _ HF.out.r hd1 HLE.out (by omega) (fun i hi => by have := HV.out i hi; omega) (fun i _ => by have := getD_bound HDB.out (by decide) i; omega)).mono ?_
      rintro e w2 ⟨u2, rfl, hF2, hb2⟩
      have hbr : Below w.heap.size w wr := HB1.out.trans (HT.out.below (Nat.le_refl _) hsz)
      have HFIN := hid (And.intro (hF2.mono hbr.size (Nat.le_refl _)) (hbr.trans (hb2.mono hbr.size)))
      obtain ⟨a5, n5, c5, rfl⟩ := hF2.form3
      clear hF2 hb2 hd1 hbr
      go_wp2
      go_ret
      exact ⟨_, rfl, HFIN.out.1, HFIN.out.2⟩


theorem q9_app {xs : List Int} {y : Int} (h : ∀ x ∈ xs, -9 ≤ x ∧ x ≤ 9) (hy : -9 ≤ y ∧ y ≤ 9) : ∀ x ∈ xs ++ [y], -9 ≤ x ∧ x ≤ 9 := fun x hx => by
  rcases List.mem_append.1 hx with h1 | h1
  · exact h x h1
  · rw [List.mem_singleton] at h1; subst h1; exact hy
theorem q9_set {xs : List Int} {y : Int} {i : Nat} (h : ∀ x ∈ xs, -9 ≤ x ∧ x ≤ 9) (hy : -9 ≤ y ∧ y ≤ 9) : ∀ x ∈ xs.set i y, -9 ≤ x ∧ x ≤ 9 := fun x hx => by
  rcases List.mem_or_eq_of_mem_set hx with h1 | h1
  · exact h x h1
  · subst h1; exact hy
/-- a drawn small divisor -/
def RetSmall (b k lo : Nat) (n : Int) (w : World) (e : Ending) (w' : World) : Prop := ∃ (v : Value) (xs : List Int), e = .returned v ∧ xs.length ≤ 20 ∧ (n ≤ 10 → n ≤ (xs.length : Int)) ∧ (∀ x ∈ xs, -9 ≤ x ∧ x ≤ 9) ∧ FInts w' lo w'.heap.size v xs ∧ Cur w' b k ∧ Dr b lo w w'
theorem retSmall_mk {b k lo : Nat} {n : Int} {w w' : World} {v : Value} (xs : List Int) (h1 : xs.length ≤ 20) (h5 : n ≤ 10 → n ≤ (xs.length : Int)) (h6 : ∀ x ∈ xs, -9 ≤ x ∧ x ≤ 9) (h2 : FInts w' lo w'.heap.size v xs) (h3 : Cur w' b k) (h4 : Dr b lo w w') : RetSmall b k lo n w (.returned v) w' := ⟨v, xs, rfl, h1, h5, h6, h2, h3, h4⟩
set_option maxRecDepth 100000 in
set_option maxHeartbeats 4000000 in
theorem smallChips2_c (b k : Nat) (n : Int) (w : World) (h : Cur w b k) (hk : k ≤ 800000000000) (hn : n ≤ 12) :
    Calls Try.prog 154 #[.pointer (some ⟨b, 0, none⟩), .int .i64 n] w (RetSmall b (k + 100) w.heap.size n w) := by
  have HH := hid h
  have hlt0 := h.lt
  obtain ⟨lo, hlo⟩ : ∃ lo, w.heap.size = lo := ⟨_, rfl⟩
  have HLO := hid hlo
  rw [hlo] at hlt0
  have HS0 : Hid (lo ≤ w.heap.size) := Nat.le_of_eq hlo.symm
  clear h hlo
  rw [HLO.out]
  go_enter Try.func154, Try.ntmps154
  go_wp2
  go_loopg [5] 14 (fun gk out wr => ∃ (a : Option Addr) (p c : Nat) (xs : List Int) (s : Nat), out = .slice a p c ∧ p ≤ 13 ∧ gk = 14 - p ∧ xs.length = p ∧ Hid (∀ x ∈ xs, -9 ≤ x ∧ x ≤ 9) ∧ s ≤ k + 10 + 4 * p ∧ FInts wr lo wr.heap.size (.slice a p c) xs ∧ Cur wr b s ∧ Dr b lo w wr ∧ lo ≤ wr.heap.size)
  case atStart => exact ⟨none, 0, 0, [], k, rfl, by omega, rfl, rfl, hid (by simp), by omega, ints_nil _ _ _, HH.out, Dr.refl _ _ _, HS0.out⟩
  case round =>
    obtain ⟨w1, rfl⟩ : ∃ w' : World, w' = wr := ⟨_, rfl⟩
    obtain ⟨a3, p, c3, xs, s, rfl, hp, rfl, hlk, HQ, hs, hF, hc, hd, hsz⟩ := hrel
    have HF1 := hid hF
    have HC1 := hid hc
    have HD1 := hid hd
    have HS1 := hid hsz
    have HLK := hid hlk
    clear hF hc hd hsz hlk
    by_cases hlt : (p : Int) < n
    · by_cases h10 : (p : Int) < 10
      · have HLT := hid (ints_lit w1 w1.heap.size (Nat.le_refl _) [0, 0, 1, 1, 2, -1] (by simp)).r
        have HAL : Hid (Below w1.heap.size w1 _) := (Below.refl w1.heap.size w1).alloc (Nat.le_refl _) (.cells ([0, 0, 1, 1, 2, -1].map (.int .i64 ·)).toArray 3)
        go_wp2_with fail
        refine (among_c b (s) _ [0, 0, 1, 1, 2, -1] _ (HC1.out.keep HAL.out) (by omega) HLT.out (by simp) (by simp) (fun p hp => by simp [Value.ownBlock] at hp; have := HS1.out; omega)).mono ?_
        rintro e w2 ⟨x2, rfl, hx2, hc2, ht2⟩
        have HC2 := hid hc2
        have HD2 := hid ((HD1.out.below (HAL.out.mono HS1.out)).touch HS0.out ht2)
        have HF2 := hid ((HF1.out.grw HAL.out).tch ht2 hlt0)
        have HS2 : Hid (lo ≤ w2.heap.size) := Nat.le_trans (Nat.le_trans HS1.out HAL.out.size) ht2.size
        clear hc2 ht2
        have hx2b : -9 ≤ x2 ∧ x2 ≤ 9 := by simp at hx2; omega
        clear hx2
        go_wp2_with (at_builtin; (refine wpList_push_dr (W0 := w) rfl _ _ rfl b (k := s + 2) lo (.slice a3 p c3) xs x2 rfl rfl HF2.out HD2.out HC2.out hlt0 HS2.out p HLK ?_ ?_))
        · omega
        intro g7 c7 w7 hF7 hd7 hc7 hs7
        have HF7 := hid hF7; have HD7 := hid hd7; have HC7 := hid hc7; have HS7 := hid hs7
        clear hF7 hd7 hc7 hs7
        go_wp2
        go_roundg (14 - (p + 1))
        case rel => exact ⟨_, p + 1, _, xs ++ [x2], _, rfl, by omega, by omega, by rw [List.length_append, HLK.out]; rfl, hid (q9_app HQ.out hx2b), by omega, HF7.out, HC7.out, HD7.out, HS7.out⟩
        case measure => omega
      · go_wp2_with fail
        refine (pick_c b (s) 24 _ HC1.out (by omega) (by omega)).mono ?_
        rintro e w2 ⟨x, rfl, ⟨hx1, hx2⟩, hc2, ht2⟩
        have HC2 := hid hc2
        have HD2 := hid (HD1.out.touch HS0.out ht2)
        have HF2 := hid (HF1.out.tch ht2 hlt0)
        have HS2 : Hid (lo ≤ w2.heap.size) := Nat.le_trans HS1.out ht2.size
        clear hc2 ht2
        rcases Bool.eq_false_or_eq_true (x == 0) with t0 | t0
        · by_cases hn0 : n > 0
          · by_cases hp0 : (p : Int) > 0
            · have hi : 0 < p := by omega
              have HLT := hid (ints_lit w2 w2.heap.size (Nat.le_refl _) [8, -8, 9, -9] (by simp)).r
              have HAL : Hid (Below w2.heap.size w2 _) := (Below.refl w2.heap.size w2).alloc (Nat.le_refl _) (.cells ([8, -8, 9, -9].map (.int .i64 ·)).toArray 3)
              go_wp2_with fail
              refine (among_c b (s + 2) _ [8, -8, 9, -9] _ (HC2.out.keep HAL.out) (by omega) HLT.out (by simp) (by simp) (fun p hp => by simp [Value.ownBlock] at hp; have := HS2.out; omega)).mono ?_
              rintro e w8 ⟨x8, rfl, hx8, hc8, ht8⟩
              have HC8 := hid hc8
              have HD8 := hid ((HD2.out.below (HAL.out.mono HS2.out)).touch HS0.out ht8)
              have HF8 := hid ((HF2.out.grw HAL.out).tch ht8 hlt0)
              have HS8 : Hid (lo ≤ w8.heap.size) := Nat.le_trans (Nat.le_trans HS2.out HAL.out.size) ht8.size
              clear hc8 ht8
              have hx8b : -9 ≤ x8 ∧ x8 ≤ 9 := by simp at hx8; omega
              clear hx8
              obtain ⟨g, z, rfl, hg1, hg2, hcl, hfr, _⟩ := HF8.out.at (i := 0) (by have := HLK.out; omega)
              have hst := HF8.out.set 0 x8
              have hbl : Below lo w8 (w8.setCell ⟨g, 0, none⟩ (.int .i64 x8)) := (Below.refl _ _).setCell hg1 _
              have HD9 := hid (HD8.out.below hbl)
              have HC9 := hid (HC8.out.low (hbl.mono hlt0))
              have HF9 := hid (hst.1.mono (Nat.le_refl _) (Nat.le_of_eq hst.2.2.symm))
              have HS9 : Hid (lo ≤ (w8.setCell ⟨g, 0, none⟩ (.int .i64 x8)).heap.size) := Nat.le_trans HS8.out hbl.size
              clear hst hbl
              go_wp2
              go_ret
              exact retSmall_mk (xs.set 0 x8) (by rw [List.length_set, HLK.out]; omega) (fun _ => by rw [List.length_set, HLK.out]; omega) (q9_set HQ.out hx8b) HF9.out (HC9.out.more (by omega)) HD9.out
            · exfalso; omega
          · exfalso; omega
        · rcases Bool.eq_false_or_eq_true (x == 1) with t1 | t1
          · go_wp2_with (at_builtin; (refine wpList_push_dr (W0 := w) rfl _ _ rfl b (k := s + 2) lo (.slice a3 p c3) xs 0 rfl rfl HF2.out HD2.out HC2.out hlt0 HS2.out p HLK ?_ ?_))
            · omega
            intro g7 c7 w7 hF7 hd7 hc7 hs7
            have HF7 := hid hF7; have HD7 := hid hd7; have HC7 := hid hc7; have HS7 := hid hs7
            clear hF7 hd7 hc7 hs7
            go_wp2
            go_ret
            exact retSmall_mk (xs ++ [0]) (by rw [List.length_append, HLK.out]; simp; omega) (fun _ => by rw [List.length_append, HLK.out]; simp; omega) (q9_app HQ.out (by decide)) HF7.out (HC7.out.more (by omega)) HD7.out
          · go_wp2
            go_ret
            exact retSmall_mk (xs) (by rw [HLK.out]; omega) (fun _ => by rw [HLK.out]; omega) HQ.out HF2.out (HC2.out.more (by omega)) HD2.out
    · go_wp2_with fail
      refine (pick_c b (s) 24 _ HC1.out (by omega) (by omega)).mono ?_
      rintro e w2 ⟨x, rfl, ⟨hx1, hx2⟩, hc2, ht2⟩
      have HC2 := hid hc2
      have HD2 := hid (HD1.out.touch HS0.out ht2)
      have HF2 := hid (HF1.out.tch ht2 hlt0)
      have HS2 : Hid (lo ≤ w2.heap.size) := Nat.le_trans HS1.out ht2.size
      clear hc2 ht2
      rcases Bool.eq_false_or_eq_true (x == 0) with t0 | t0
      · by_cases hn0 : n > 0
        · by_cases hp0 : (p : Int) > 0
          · have hi : 0 < p := by omega
            have HLT := hid (ints_lit w2 w2.heap.size (Nat.le_refl _) [8, -8, 9, -9] (by simp)).r
            have HAL : Hid (Below w2.heap.size w2 _) := (Below.refl w2.heap.size w2).alloc (Nat.le_refl _) (.cells ([8, -8, 9, -9].map (.int .i64 ·)).toArray 3)
            go_wp2_with fail
            refine (among_c b (s + 2) _ [8, -8, 9, -9] _ (HC2.out.keep HAL.out) (by omega) HLT.out (by simp) (by simp) (fun p hp => by simp [Value.ownBlock] at hp; have := HS2.out; omega)).mono ?_
            rintro e w8 ⟨x8, rfl, hx8, hc8, ht8⟩
            have HC8 := hid hc8
            have HD8 := hid ((HD2.out.below (HAL.out.mono HS2.out)).touch HS0.out ht8)
            have HF8 := hid ((HF2.out.grw HAL.out).tch ht8 hlt0)
            have HS8 : Hid (lo ≤ w8.heap.size) := Nat.le_trans (Nat.le_trans HS2.out HAL.out.size) ht8.size
            clear hc8 ht8
            have hx8b : -9 ≤ x8 ∧ x8 ≤ 9 := by simp at hx8; omega
            clear hx8
            obtain ⟨g, z, rfl, hg1, hg2, hcl, hfr, _⟩ := HF8.out.at (i := 0) (by have := HLK.out; omega)
            have hst := HF8.out.set 0 x8
            have hbl : Below lo w8 (w8.setCell ⟨g, 0, none⟩ (.int .i64 x8)) := (Below.refl _ _).setCell hg1 _
            have HD9 := hid (HD8.out.below hbl)
            have HC9 := hid (HC8.out.low (hbl.mono hlt0))
            have HF9 := hid (hst.1.mono (Nat.le_refl _) (Nat.le_of_eq hst.2.2.symm))
            have HS9 : Hid (lo ≤ (w8.setCell ⟨g, 0, none⟩ (.int .i64 x8)).heap.size) := Nat.le_trans HS8.out hbl.size
            clear hst hbl
            go_wp2
            go_ret
            exact retSmall_mk (xs.set 0 x8) (by rw [List.length_set, HLK.out]; omega) (fun _ => by rw [List.length_set, HLK.out]; omega) (q9_set HQ.out hx8b) HF9.out (HC9.out.more (by omega)) HD9.out
          · exfalso; omega
        · go_wp2
          go_ret
          exact retSmall_mk (xs) (by rw [HLK.out]; omega) (fun _ => by rw [HLK.out]; omega) HQ.out HF2.out (HC2.out.more (by omega)) HD2.out
      · rcases Bool.eq_false_or_eq_true (x == 1) with t1 | t1
        · go_wp2_with (at_builtin; (refine wpList_push_dr (W0 := w) rfl _ _ rfl b (k := s + 2) lo (.slice a3 p c3) xs 0 rfl rfl HF2.out HD2.out HC2.out hlt0 HS2.out p HLK ?_ ?_))
          · omega
          intro g7 c7 w7 hF7 hd7 hc7 hs7
          have HF7 := hid hF7; have HD7 := hid hd7; have HC7 := hid hc7; have HS7 := hid hs7
          clear hF7 hd7 hc7 hs7
          go_wp2
          go_ret
          exact retSmall_mk (xs ++ [0]) (by rw [List.length_append, HLK.out]; simp; omega) (fun _ => by rw [List.length_append, HLK.out]; simp; omega) (q9_app HQ.out (by decide)) HF7.out (HC7.out.more (by omega)) HD7.out
        · go_wp2
          go_ret
          exact retSmall_mk (xs) (by rw [HLK.out]; omega) (fun _ => by rw [HLK.out]; omega) HQ.out HF2.out (HC2.out.more (by omega)) HD2.out

theorem OLinks.grw {w w' : World} {lo : Nat} {v : Value} {L : List Lnk} (h : OLinks w lo v L) (hb : Below w.heap.size w w') : OLinks w' lo v L := h.keep hb
theorem OLinks.tch {w w' : World} {lo b : Nat} {v : Value} {L : List Lnk} (h : OLinks w lo v L) (ht : Touch b (b + 1) w w') (hb : b < lo) : OLinks w' lo v L := h.touch ht hb
/-- a drawn graph, drawn numbers and a number -/
def RetGrNI (w : World) (e : Ending) (w' : World) : Prop := ∃ (n : Int) (v : Value) (L : List Lnk) (u : Value) (d : List Int) (x : Int), e = .returned (.tuple #[.int .i64 n, v, u, .int .i64 x]) ∧ -1 ≤ n ∧ n ≤ 9 ∧ RLinks w' v L ∧ RInts w' u d ∧ Below w.heap.size w w'
theorem results_tmp4 {fn : Func} {t u v x : Tmp} (h : fn.results = #[.tmp t, .tmp u, .tmp v, .tmp x]) (tmps : Array Value) (P : Program) (w : World) :
    (results fn tmps).run P w = .ok (.tuple #[tmps.getD t undef, tmps.getD u undef, tmps.getD v undef, tmps.getD x undef]) w := by
  simp [results, h]

set_option maxRecDepth 100000 in
set_option maxHeartbeats 4000000 in
theorem DrawDualChips_c (v : Value) (n : Nat) (w : World) (h : RBytes w v n) :
    Calls Try.prog 77 #[v] w (RetGrN w) := by
  have HC := hid (cur_new h)
  obtain ⟨a, cap, rfl, _, _⟩ := h.form
  clear h
  obtain ⟨b, hb⟩ : ∃ b, w.heap.size = b := ⟨_, rfl⟩
  obtain ⟨w0, hw0⟩ : ∃ w0, w.alloc (.cells #[.slice a n cap, .int .i64 0, .int .u64 0] 89) = w0 := ⟨_, rfl⟩
  have HW0 := hid hw0
  have HC0 : Hid (Cur w0 b 0) := by show Cur _ _ _; rw [← hw0, ← hb]; exact HC.out
  have HB := hid hb
  obtain ⟨lo, hlo⟩ : ∃ lo, w0.heap.size = lo := ⟨_, rfl⟩
  have hlt0 := HC0.out.lt
  rw [hlo] at hlt0
  have HS0 : Hid (lo ≤ w0.heap.size) := Nat.le_of_eq hlo.symm
  have HD0 : Hid (Dr b lo w0 w0) := Dr.refl _ _ _
  have HFRESH : Hid (∀ w', Dr b lo w0 w' → Below w.heap.size w w') := fun w' hd => by
    rw [← hlo, ← hw0, ← hb] at hd; exact Dr.fresh hd
  clear hb hw0 HC hlo
  go_enter Try.func77, Try.ntmps77
  go_wp2_with fail
  rw [HB.out, HW0.out]
  refine (smallGraph_c b 0 _ HC0.out (by omega)).mono ?_
  rintro e w1 ⟨n1, v1, L, rfl, hn1, hn2, hl, hO1, hc1, hd1⟩
  have HC1 := hid (hc1.more (show _ ≤ (0 + 3000) by omega))
  have HD1 := hid (HD0.out.trans (hd1.low HS0.out))
  have HS1 : Hid (lo ≤ w1.heap.size) := Nat.le_trans HS0.out hd1.size
  have L_1 := hid ((hO1.mono HS0.out))
  obtain ⟨al, nl, cl, rfl⟩ := hO1.form
  clear hO1
  clear hc1 hd1
  rcases Bool.eq_false_or_eq_true (raGB n1 L) with tb | tb
  · go_wp2_with fail
    refine (raGraph_c n1 _ L _ L_1.out.r).mono ?_
    rintro e w2 ⟨rfl, hb2⟩
    have HC2 := hid (HC1.out.keep hb2)
    have HD2 := hid (HD1.out.below (hb2.mono HS1.out))
    have L_2 := hid (L_1.out.grw hb2)
    have HS2 : Hid (lo ≤ w2.heap.size) := Nat.le_trans HS1.out hb2.size
    rw [tb]
    clear hb2
    obtain ⟨hG, hnn, hn5, _, _⟩ := raGB_good tb
    obtain ⟨m, hm⟩ : ∃ m : Nat, n1.toNat = m := ⟨_, rfl⟩
    rw [hm] at hG hnn
    subst hnn
    have HG := hid hG
    clear hG hm tb
    go_wp2_with fail
    refine (one_c b (0 + 3000) 4 _ HC2.out (by omega) (by omega)).mono ?_
    rintro e w3 ⟨x, rfl, hc3, ht3⟩
    have HC3 := hid (hc3.more (show _ ≤ (0 + 3002) by omega))
    have HD3 := hid (HD2.out.touch HS0.out ht3)
    have L_3 := hid (L_2.out.tch ht3 hlt0)
    have HS3 : Hid (lo ≤ w3.heap.size) := Nat.le_trans HS2.out ht3.size
    clear hc3 ht3
    cases x
    · go_wp2_with fail
      refine (smallChips2_c b (0 + 3002) (m : Int) _ HC3.out (by omega) (by omega)).mono ?_
      rintro e w4 ⟨u4, xs, rfl, hxl, hxn, hxb, hF4, hc4, hd4⟩
      have HC4 := hid (hc4.more (show _ ≤ (0 + 3102) by omega))
      have HD4 := hid (HD3.out.trans (hd4.low HS3.out))
      have L_4 := hid (L_3.out.dr hd4 hlt0)
      have HS4 : Hid (lo ≤ w4.heap.size) := Nat.le_trans HS3.out hd4.size
      have F_4 := hid ((hF4.mono HS3.out (Nat.le_refl _)))
      obtain ⟨a5, n5, c5, rfl⟩ := hF4.form3
      clear hF4
      clear hc4 hd4
      go_wp2
      go_ret3
      exact ⟨_, _, L, _, xs, rfl, hn1, hn2, hl, hxl, L_4.out.r, F_4.out.r, HFRESH.out _ HD4.out⟩
    · go_wp2_with fail
      refine (smallChips2_c b (0 + 3002) (m : Int) _ HC3.out (by omega) (by omega)).mono ?_
      rintro e w4 ⟨u4, xs, rfl, hxl, hxn, hxb, hF4, hc4, hd4⟩
      have HC4 := hid (hc4.more (show _ ≤ (0 + 3102) by omega))
      have HD4 := hid (HD3.out.trans (hd4.low HS3.out))
      have L_4 := hid (L_3.out.dr hd4 hlt0)
      have HS4 : Hid (lo ≤ w4.heap.size) := Nat.le_trans HS3.out hd4.size
      have F_4 := hid ((hF4.mono HS3.out (Nat.le_refl _)))
      obtain ⟨a5, n5, c5, rfl⟩ := hF4.form3
      clear hF4
      clear hc4 hd4
      go_wp2_with fail
      refine (raDualG_c m _ _ L xs _ L_4.out.r HG.out F_4.out.r (by have := hxn (by omega); omega) hxb).mono ?_
      rintro e w5 ⟨u5, rfl, hF5, hb5⟩
      have HC5 := hid (HC4.out.keep hb5)
      have HD5 := hid (HD4.out.below (hb5.mono HS4.out))
      have L_5 := hid (L_4.out.grw hb5)
      have F_5 := hid (F_4.out.grw hb5)
      have HS5 : Hid (lo ≤ w5.heap.size) := Nat.le_trans HS4.out hb5.size
      have Q_5 := hid ((hF5.mono HS4.out (Nat.le_refl _)))
      obtain ⟨a6, n6, c6, rfl⟩ := hF5.form3
      clear hF5
      clear hb5
      go_wp2
      go_ret3
      exact ⟨_, _, L, _, _, rfl, hn1, hn2, hl, (by rw [lst_len]; omega), L_5.out.r, Q_5.out.r, HFRESH.out _ HD5.out⟩
  · go_wp2_with fail
    refine (raGraph_c n1 _ L _ L_1.out.r).mono ?_
    rintro e w2 ⟨rfl, hb2⟩
    have HC2 := hid (HC1.out.keep hb2)
    have HD2 := hid (HD1.out.below (hb2.mono HS1.out))
    have L_2 := hid (L_1.out.grw hb2)
    have HS2 : Hid (lo ≤ w2.heap.size) := Nat.le_trans HS1.out hb2.size
    rw [tb]
    clear hb2
    go_wp2_with fail
    refine (smallChips2_c b (0 + 3000) n1 _ HC2.out (by omega) (by omega)).mono ?_
    rintro e w3 ⟨u3, xs, rfl, hxl, hxn, hxb, hF3, hc3, hd3⟩
    have HC3 := hid (hc3.more (show _ ≤ (0 + 3100) by omega))
    have HD3 := hid (HD2.out.trans (hd3.low HS2.out))
    have L_3 := hid (L_2.out.dr hd3 hlt0)
    have HS3 : Hid (lo ≤ w3.heap.size) := Nat.le_trans HS2.out hd3.size
    have F_3 := hid ((hF3.mono HS2.out (Nat.le_refl _)))
    obtain ⟨a5, n5, c5, rfl⟩ := hF3.form3
    clear hF3
    clear hc3 hd3
    go_wp2
    go_ret3
    exact ⟨_, _, L, _, xs, rfl, hn1, hn2, hl, hxl, L_3.out.r, F_3.out.r, HFRESH.out _ HD3.out⟩

set_option maxRecDepth 100000 in
set_option maxHeartbeats 4000000 in
theorem DrawBreakingChips_c (v : Value) (n : Nat) (w : World) (h : RBytes w v n) :
    Calls Try.prog 80 #[v] w (RetGrNI w) := by
  have HC := hid (cur_new h)
  obtain ⟨a, cap, rfl, _, _⟩ := h.form
  clear h
  obtain ⟨b, hb⟩ : ∃ b, w.heap.size = b := ⟨_, rfl⟩
  obtain ⟨w0, hw0⟩ : ∃ w0, w.alloc (.cells #[.slice a n cap, .int .i64 0, .int .u64 0] 89) = w0 := ⟨_, rfl⟩
  have HW0 := hid hw0
  have HC0 : Hid (Cur w0 b 0) := by show Cur _ _ _; rw [← hw0, ← hb]; exact HC.out
  have HB := hid hb
  obtain ⟨lo, hlo⟩ : ∃ lo, w0.heap.size = lo := ⟨_, rfl⟩
  have hlt0 := HC0.out.lt
  rw [hlo] at hlt0
  have HS0 : Hid (lo ≤ w0.heap.size) := Nat.le_of_eq hlo.symm
  have HD0 : Hid (Dr b lo w0 w0) := Dr.refl _ _ _
  have HFRESH : Hid (∀ w', Dr b lo w0 w' → Below w.heap.size w w') := fun w' hd => by
    rw [← hlo, ← hw0, ← hb] at hd; exact Dr.fresh hd
  clear hb hw0 HC hlo
  go_enter Try.func80, Try.ntmps80
  go_wp2_with fail
  rw [HB.out, HW0.out]
  refine (smallGraph_c b 0 _ HC0.out (by omega)).mono ?_
  rintro e w1 ⟨n1, v1, L, rfl, hn1, hn2, hl, hO1, hc1, hd1⟩
  have HC1 := hid (hc1.more (show _ ≤ (0 + 3000) by omega))
  have HD1 := hid (HD0.out.trans (hd1.low HS0.out))
  have HS1 : Hid (lo ≤ w1.heap.size) := Nat.le_trans HS0.out hd1.size
  have L_1 := hid ((hO1.mono HS0.out))
  obtain ⟨al, nl, cl, rfl⟩ := hO1.form
  clear hO1
  clear hc1 hd1
  go_wp2_with fail
  refine (smallChips2_c b (0 + 3000) n1 _ HC1.out (by omega) (by omega)).mono ?_
  rintro e w2 ⟨u2, xs, rfl, hxl, hxn, hxb, hF2, hc2, hd2⟩
  have HC2 := hid (hc2.more (show _ ≤ (0 + 3100) by omega))
  have HD2 := hid (HD1.out.trans (hd2.low HS1.out))
  have L_2 := hid (L_1.out.dr hd2 hlt0)
  have HS2 : Hid (lo ≤ w2.heap.size) := Nat.le_trans HS1.out hd2.size
  have F_2 := hid ((hF2.mono HS1.out (Nat.le_refl _)))
  obtain ⟨a5, n5, c5, rfl⟩ := hF2.form3
  clear hF2
  clear hc2 hd2
  have HLT := hid (ints_lit w2 w2.heap.size (Nat.le_refl _) [2, -1, 10] (by simp)).r
  have HAL : Hid (Below w2.heap.size w2 _) := (Below.refl w2.heap.size w2).alloc (Nat.le_refl _) (.cells ([2, -1, 10].map (.int .i64 ·)).toArray 3)
  go_wp2_with fail
  refine (among_c b (0 + 3100) _ [2, -1, 10] _ (HC2.out.keep HAL.out) (by omega) HLT.out (by simp) (by simp) (fun p hp => by simp [Value.ownBlock] at hp; have := HS2.out; omega)).mono ?_
  rintro e w3 ⟨y, rfl, _, hc3, ht3⟩
  have HC3 := hid (hc3.more (show _ ≤ (0 + 3102) by omega))
  have HD3 := hid ((HD2.out.below (HAL.out.mono HS2.out)).touch HS0.out ht3)
  have L_3 := hid (L_2.out.grw HAL.out |>.tch ht3 hlt0)
  have F_3 := hid (F_2.out.grw HAL.out |>.tch ht3 hlt0)
  have HS3 : Hid (lo ≤ w3.heap.size) := Nat.le_trans (Nat.le_trans HS2.out HAL.out.size) ht3.size
  clear hc3 ht3 HLT HAL
  have HLT := hid (ints_lit w3 w3.heap.size (Nat.le_refl _) [0, 1, 1, 2, 3, 9, y] (by simp)).r
  have HAL : Hid (Below w3.heap.size w3 _) := (Below.refl w3.heap.size w3).alloc (Nat.le_refl _) (.cells ([0, 1, 1, 2, 3, 9, y].map (.int .i64 ·)).toArray 3)
  go_wp2_with fail
  refine (among_c b (0 + 3102) _ [0, 1, 1, 2, 3, 9, y] _ (HC3.out.keep HAL.out) (by omega) HLT.out (by simp) (by simp) (fun p hp => by simp [Value.ownBlock] at hp; have := HS3.out; omega)).mono ?_
  rintro e w4 ⟨z, rfl, _, hc4, ht4⟩
  have HC4 := hid (hc4.more (show _ ≤ (0 + 3104) by omega))
  have HD4 := hid ((HD3.out.below (HAL.out.mono HS3.out)).touch HS0.out ht4)
  have L_4 := hid (L_3.out.grw HAL.out |>.tch ht4 hlt0)
  have F_4 := hid (F_3.out.grw HAL.out |>.tch ht4 hlt0)
  have HS4 : Hid (lo ≤ w4.heap.size) := Nat.le_trans (Nat.le_trans HS3.out HAL.out.size) ht4.size
  clear hc4 ht4 HLT HAL
  go_wp2
  (try simp only [Exit.inBlock, Exit.then]); refine bodyPost_ret (results_tmp4 rfl _ _ _) rfl ?_
  exact ⟨n1, _, L, _, xs, z, rfl, hn1, hn2, L_4.out.r, F_4.out.r, HFRESH.out _ HD4.out⟩

end Go.Proofs.Ytlehhfmbdcmpoaa
