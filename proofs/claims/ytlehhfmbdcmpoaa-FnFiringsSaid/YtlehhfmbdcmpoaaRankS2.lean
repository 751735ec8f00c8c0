/- Small divisors and duals: the reference's functions. -/
import Derived.Test.YtlehhfmbdcmpoaaRankS
import Derived.Test.YtlehhfmbdcmpoaaOwn
namespace Go.Proofs.Ytlehhfmbdcmpoaa
open Go.RowKit
open Go.Lib (hid)

/-- a small graph -/
noncomputable def raGB (n : Int) (L : List Lnk) : Bool := goodG n L && (decide (n ≤ 5) && (conB n.toNat L && decide (1 - n + edgL L ≤ 4)))
/-- a small divisor -/
def raCB (n : Int) (d : List Int) : Bool := ((d.length : Int) == n) && (allB d (-8) 8 && decide (d.sum ≤ 8))
noncomputable def raAB (n : Int) (L : List Lnk) (d : List Int) : Bool := raGB n L && raCB n d
theorem raGB_good {n : Int} {L : List Lnk} (h : raGB n L = true) : GoodL n.toNat L ∧ n = (n.toNat : Int) ∧ n ≤ 5 ∧ conB n.toNat L = true ∧ goodG n L = true := by
  unfold raGB at h
  simp only [Bool.and_eq_true, decide_eq_true_eq] at h
  obtain ⟨h1, h2, h3, h4⟩ := h
  obtain ⟨k1, k2⟩ := goodG_parts h1
  exact ⟨k1, k2, h2, h3, h1⟩
theorem allB_mem {l : List Int} {lo hi : Int} (h : allB l lo hi = true) : ∀ x ∈ l, lo ≤ x ∧ x ≤ hi := by
  unfold allB at h
  rw [List.all_eq_true] at h
  exact fun x hx => inB_iff.1 (h x hx)
theorem raCB_parts {n : Int} {d : List Int} (h : raCB n d = true) : (d.length : Int) = n ∧ ∀ x ∈ d, -8 ≤ x ∧ x ≤ 8 := by
  unfold raCB at h
  simp only [Bool.and_eq_true, beq_iff_eq] at h
  exact ⟨h.1, allB_mem h.2.1⟩

set_option maxHeartbeats 1000000 in
theorem raChips_c (n : Int) (v : Value) (d : List Int) (w : World) (h : RInts w v d) (hn : -1000 ≤ n ∧ n ≤ 1000) :
    Calls Try.prog 165 #[.int .i64 n, v] w fun e w' => e = .returned (.bool (raCB n d)) ∧ w = w' := by
  have HR := hid h
  obtain ⟨a, cap, rfl, h1, h2, hc⟩ := h
  clear hc
  unfold maxLen at h2
  rcases Bool.eq_false_or_eq_true ((d.length : Int) == n) with t1 | t1
  · rcases Bool.eq_false_or_eq_true (allB d (-8) 8) with t2 | t2
    · have hsm : smallI d := by
        rw [beq_iff_eq] at t1
        exact ⟨by omega, fun x hx => by have := allB_mem t2 x hx; omega⟩
      have HSM := hid hsm
      have HE : Hid (raCB n d = decide (d.sum ≤ 8)) := by show _ = _; unfold raCB; rw [t1, t2]; rfl
      obtain ⟨q, hq⟩ : ∃ q, d.sum = q := ⟨_, rfl⟩
      rw [hq] at HE
      have HQ := hid hq
      clear hsm hq
      go_enter Try.func165, Try.ntmps165
      go_wp2_with (first
        | (go_at_call 108; (with_reducible refine (l1All_c _ d _ _ _ HR.out).mono ?_); rintro e w' ⟨rfl, rfl⟩; rw [t2])
        | (go_at_call 112; (with_reducible refine (chSum_c _ d _ HR.out HSM.out).mono ?_); rintro e w' ⟨rfl, rfl⟩; rw [HQ.out]))
      all_goals go_ret
      all_goals exact ⟨ret_bool (by rw [HE.out] <;> simp [*]), rfl⟩
    · have HE : Hid (raCB n d = false) := by show _ = _; unfold raCB; rw [t1, t2]; rfl
      go_enter Try.func165, Try.ntmps165
      go_wp2_with (go_at_call 108; (with_reducible refine (l1All_c _ d _ _ _ HR.out).mono ?_); rintro e w' ⟨rfl, rfl⟩; rw [t2])
      go_ret
      exact ⟨ret_bool HE.out.symm, rfl⟩
  · have HE : Hid (raCB n d = false) := by show _ = _; unfold raCB; rw [t1]; rfl
    go_enter Try.func165, Try.ntmps165
    go_wp2
    go_ret
    exact ⟨ret_bool HE.out.symm, rfl⟩

set_option maxHeartbeats 1000000 in
theorem raGraph_c (n : Int) (v : Value) (L : List Lnk) (w : World) (h : RLinks w v L) :
    Calls Try.prog 163 #[.int .i64 n, v] w fun e w' => e = .returned (.bool (raGB n L)) ∧ Below w.heap.size w w' := by
  have HR := hid h
  obtain ⟨a, cap, rfl⟩ := h.form
  clear h
  rcases Bool.eq_false_or_eq_true (goodG n L) with t1 | t1
  · obtain ⟨hG, hn⟩ := goodG_parts t1
    have hn8 := hG.n8
    have hn1 := hG.n1
    obtain ⟨m, hm⟩ : ∃ m : Nat, n.toNat = m := ⟨_, rfl⟩
    rw [hm] at hG hn hn8 hn1
    subst hn
    have HG := hid hG; clear hG
    by_cases t2 : (m : Int) ≤ 5
    · rcases Bool.eq_false_or_eq_true (conB m L) with t3 | t3
      · have HE : Hid (raGB (m : Int) L = decide (1 - (m : Int) + edgL L ≤ 4)) := by show _ = _; unfold raGB; rw [t1, hm, t3, decide_eq_true t2]; rfl
        have hb := edgL_bound HG.out
        obtain ⟨q, hq⟩ : ∃ q, edgL L = q := ⟨_, rfl⟩
        rw [hq] at HE hb
        have HQ := hid hq
        clear hq hm
        go_enter Try.func163, Try.ntmps163
        go_wp2_with fail
        refine (chGood_c _ _ L _ HR.out).mono ?_
        rintro e w1 ⟨rfl, hb1⟩
        rw [t1]
        have HB1 := hid hb1
        have HR1 := hid (HR.out.keep hb1)
        clear hb1
        go_wp2_with fail
        refine (chConnected_c m _ L _ HR1.out HG.out).mono ?_
        rintro e w2 ⟨rfl, hb2⟩
        rw [t3]
        have HB2 := hid (HB1.out.trans (hb2.mono HB1.out.size))
        have HR2 := hid (HR1.out.keep hb2)
        clear hb2
        go_wp2_with fail
        refine (chGenus_c m _ L _ HR2.out HG.out).mono ?_
        rintro e w3 ⟨rfl, hb3⟩
        have HB3 := hid (HB2.out.trans (hb3.mono HB2.out.size))
        rw [HQ.out]
        clear hb3
        go_wp2
        all_goals go_ret
        all_goals exact ⟨ret_bool (by rw [HE.out] <;> simp [*]), HB3.out⟩
      · have HE : Hid (raGB (m : Int) L = false) := by show _ = _; unfold raGB; rw [t1, hm, t3]; simp
        clear hm
        go_enter Try.func163, Try.ntmps163
        go_wp2_with fail
        refine (chGood_c _ _ L _ HR.out).mono ?_
        rintro e w1 ⟨rfl, hb1⟩
        rw [t1]
        have HB1 := hid hb1
        have HR1 := hid (HR.out.keep hb1)
        clear hb1
        go_wp2_with fail
        refine (chConnected_c m _ L _ HR1.out HG.out).mono ?_
        rintro e w2 ⟨rfl, hb2⟩
        rw [t3]
        have HB2 := hid (HB1.out.trans (hb2.mono HB1.out.size))
        clear hb2
        go_wp2
        go_ret
        exact ⟨ret_bool HE.out.symm, HB2.out⟩
    · have HE : Hid (raGB (m : Int) L = false) := by show _ = _; unfold raGB; rw [decide_eq_false t2]; simp
      clear hm
      go_enter Try.func163, Try.ntmps163
      go_wp2_with fail
      refine (chGood_c _ _ L _ HR.out).mono ?_
      rintro e w1 ⟨rfl, hb1⟩
      rw [t1]
      have HB1 := hid hb1
      clear hb1
      go_wp2
      go_ret
      exact ⟨ret_bool HE.out.symm, HB1.out⟩
  · have HE : Hid (raGB n L = false) := by show _ = _; unfold raGB; rw [t1]; rfl
    go_enter Try.func163, Try.ntmps163
    go_wp2_with fail
    refine (chGood_c _ _ L _ HR.out).mono ?_
    rintro e w1 ⟨rfl, hb1⟩
    rw [t1]
    go_wp2
    go_ret
    exact ⟨ret_bool HE.out.symm, hb1⟩

set_option maxHeartbeats 1000000 in
theorem raAsked_c (n : Int) (v u : Value) (L : List Lnk) (d : List Int) (w : World) (h : RLinks w v L) (hd : RInts w u d) :
    Calls Try.prog 90 #[.int .i64 n, v, u] w fun e w' => e = .returned (.bool (raAB n L d)) ∧ Below w.heap.size w w' := by
  have HR := hid h
  have HD := hid hd
  obtain ⟨a, cap, rfl⟩ := h.form
  obtain ⟨a2, cap2, rfl, _, _, hc⟩ := hd
  clear h hc
  rcases Bool.eq_false_or_eq_true (raGB n L) with t1 | t1
  · obtain ⟨hG, hn, hn5, _⟩ := raGB_good t1
    have hn1 := hG.n1
    have HE : Hid (raAB n L d = raCB n d) := by show _ = _; unfold raAB; rw [t1]; rfl
    have hnn : -1000 ≤ n ∧ n ≤ 1000 := by omega
    clear hn hG
    go_enter Try.func90, Try.ntmps90
    go_wp2_with fail
    refine (raGraph_c _ _ L _ HR.out).mono ?_
    rintro e w1 ⟨rfl, hb1⟩
    rw [t1]
    have HD1 := hid (HD.out.keep hb1)
    go_wp2_with fail
    refine (raChips_c _ _ d _ HD1.out hnn).mono ?_
    rintro e w2 ⟨rfl, rfl⟩
    rw [← HE.out]
    go_wp2
    all_goals go_ret
    all_goals exact ⟨ret_bool (by simp [*]), hb1⟩
  · have HE : Hid (raAB n L d = false) := by show _ = _; unfold raAB; rw [t1]; rfl
    go_enter Try.func90, Try.ntmps90
    go_wp2_with fail
    refine (raGraph_c _ _ L _ HR.out).mono ?_
    rintro e w1 ⟨rfl, hb1⟩
    rw [t1]
    go_wp2
    go_ret
    exact ⟨ret_bool HE.out.symm, hb1⟩

set_option maxRecDepth 100000 in
set_option maxHeartbeats 2000000 in
theorem raLess_c (n : Nat) (v u : Value) (f g : Nat → Int) (w : World) (hf : RInts w v (lst n f)) (hg : RInts w u (lst n g)) (hn : n ≤ 1000) (bf : ∀ i, i < n → -10000 ≤ f i ∧ f i ≤ 10000) (bg : ∀ i, i < n → -10000 ≤ g i ∧ g i ≤ 10000) :
    Calls Try.prog 199 #[v, u] w (RetInts w (lst n (fun i => f i - g i))) := by
  have HU := hid hg
  have BF := hid bf; clear bf
  have BG := hid bg; clear bg
  obtain ⟨a1, c1, rfl, _, _, hc1⟩ := hf
  have HF := hid (show RInts w (.slice a1 (lst n f).length c1) (lst n f) from ⟨a1, c1, rfl, ‹_›, ‹_›, hc1⟩)
  obtain ⟨a2, c2, rfl, _, _, hc2⟩ := hg
  clear hc1 hc2
  rw [lst_len] at HF HU ⊢
  rw [lst_len]
  go_enter Try.func199, Try.ntmps199
  go_wp2_with fail
  refine (l1Own_c _ (lst n f) _ HF.out (by rw [lst_len]; omega)).mono ?_
  rintro e w1 ⟨u1, rfl, hF, hb1⟩
  have HB1 := hid hb1
  have HU1 := hid (HU.out.keep hb1)
  have hsz := hb1.size
  by_cases hn0 : n = 0
  · subst hn0
    obtain ⟨a3, c3, rfl⟩ := hF.form
    have HFF := hid hF
    clear hF hb1
    rw [lst_len]
    go_wp2
    go_loopg [11] 0 (fun gk i wr => gk = 0 ∧ i = .int .i64 (0 : Nat) ∧ wr = w1)
    case atStart => exact ⟨rfl, rfl, rfl⟩
    case round =>
      obtain ⟨rfl, rfl, rfl⟩ := hrel
      go_wp2
      go_ret
      exact ⟨_, rfl, by have := HFF.out; rw [lst_len] at this; exact this, HB1.out⟩
  · obtain ⟨g1, c3, rfl, hlo, hhi⟩ := fi_form hF (by omega)
    obtain ⟨gu, ou, cu, hvu, hcu1, hcu2, hcell⟩ := ri_open HU1.out (by omega)
    simp only [Value.slice.injEq] at hvu
    obtain ⟨rfl, _, rfl⟩ := hvu
    have HCELL := hid hcell
    have HFF := hid hF
    clear hF hb1 hcell
    go_wp2
    go_loopg [11] n (fun gk i wr => ∃ k : Nat, k ≤ n ∧ gk = n - k ∧ i = .int .i64 k ∧ FInts wr w.heap.size w1.heap.size (.slice (some ⟨g1, 0, none⟩) n c3) (lst n (fun i => if i < k then f i - g i else f i)) ∧ Touch w.heap.size w1.heap.size w1 wr)
    case atStart => exact ⟨0, Nat.zero_le _, rfl, rfl, by have := HFF.out; rw [lst_congr (g := f) (fun i _ => by rw [if_neg (by omega)])]; exact this, Touch.refl _ _ _⟩
    case round =>
      obtain ⟨k, hk, rfl, rfl, hF, hT⟩ := hrel
      by_cases hlt : k < n
      · have hbr : Below w.heap.size w wr := HB1.out.trans (hT.below (Nat.le_refl _) hsz)
        obtain ⟨wq, hwq⟩ : ∃ wq : World, wq = wr.drew := ⟨_, rfl⟩
        obtain ⟨hc, _, hset⟩ := fi_open hF
        have d1 : wq.cell? ⟨g1, k, none⟩ = some (.int .i64 (f k)) := by rw [hwq]; have := (hc k hlt).1; rw [if_neg (Nat.lt_irrefl k)] at this; exact this
        have d2 : wq.frozen? ⟨g1, k, none⟩ = false := by rw [hwq]; exact (hc k hlt).2
        have d3 : wq.cell? ⟨gu, ou + k, none⟩ = some (.int .i64 (g k)) := by
          rw [hwq]
          have h1 := HCELL.out k hlt
          have h2 := HU.out
          have h3 := (hT.cell (b := gu) (o := ou + k) (by
            intro hh
            obtain ⟨a', c', e', _, _, hc'⟩ := HU.out
            simp only [Value.slice.injEq] at e'
            obtain ⟨rfl, _, _⟩ := e'
            obtain ⟨g', o', e', hcell'⟩ := hc' k (by rw [lst_len]; exact hlt)
            simp only [Option.some.injEq, Addr.mk.injEq, and_true] at e'
            obtain ⟨rfl, rfl⟩ := e'
            have := cell_lt hcell'
            omega) h1)
          exact h3
        have b1 := BF.out k hlt
        have b2 := BG.out k hlt
        have hst := hset k (f k - g k) hlt
        have hlst : lst n (upd (fun i => if i < k then f i - g i else f i) k (f k - g k)) = lst n (fun i => if i < k + 1 then f i - g i else f i) := lst_congr (fun i _ => by
          unfold upd
          dsimp only
          by_cases e : i = k
          · subst e; rw [if_pos rfl, if_pos (by omega)]
          · rw [if_neg e]
            by_cases e2 : i < k
            · rw [if_pos e2, if_pos (by omega)]
            · rw [if_neg e2, if_neg (by omega)])
        rw [hlst] at hst
        obtain ⟨x, hx⟩ : ∃ x, f k = x := ⟨_, rfl⟩
        obtain ⟨y, hy⟩ : ∃ y, g k = y := ⟨_, rfl⟩
        rw [hx] at d1 hst b1
        rw [hy] at d3 hst b2
        have HO : Hid (FInts (wq.setCell ⟨g1, k, none⟩ (.int .i64 (x - y))) w.heap.size w1.heap.size (.slice (some ⟨g1, 0, none⟩) n c3) (lst n (fun i => if i < k + 1 then f i - g i else f i)) ∧ Touch w.heap.size w1.heap.size w1 (wq.setCell ⟨g1, k, none⟩ (.int .i64 (x - y)))) := by
          rw [hwq]; exact ⟨hst.1, hT.trans ⟨hst.2.os, hst.2.tape, hst.2.output, hst.2.size, hst.2.block⟩⟩
        have HWQ := hid hwq
        have hkz : (k : Int) < (n : Int) := by omega
        clear hF hT hbr hc hset hst hlst hx hy hwq
        have f1 : IntKind.i64.wrap (x - y) = x - y := IntWalk.i64_in _ (by omega)
        go_wp2
        refine wp_region_still_tail 10 (by kernel_rfl) (by kernel_rfl) ?_
        change wpStill _ _ wr.drew _ _ _
        rw [← HWQ.out]
        simp only [List.take_succ_cons, List.take_zero, List.drop_succ_cons, List.drop_zero]
        repeat still_step
        refine wpStill_nil ?_
        change wpList _ _ _ _ _ wr.drew
        rw [← HWQ.out]
        clear f1
        go_wp2
        go_roundg (n - (k + 1))
        case rel => exact ⟨k + 1, by omega, rfl, by go_num, HO.out⟩
        case measure => omega
      · obtain rfl : k = n := by omega
        rw [lst_congr (g := fun i => f i - g i) (fun i hi => by rw [if_pos hi])] at hF
        have HO := hid (And.intro hF hT)
        clear hF hT
        go_wp2
        go_ret
        exact ⟨_, rfl, HO.out.1.mono (Nat.le_refl _) HO.out.2.size, HB1.out.trans (HO.out.2.below (Nat.le_refl _) hsz)⟩

/-- the canonical divisor less a divisor -/
def dualF (n : Nat) (L : List Lnk) (d : List Int) (v : Nat) : Int := valV n L v - 2 - d.getD v 0
theorem valV_bound {n : Nat} {L : List Lnk} (h : GoodL n L) {v : Nat} (hv : v < n) : 0 ≤ valV n L v ∧ valV n L v ≤ 35 := ⟨(grL n L h).val_nonneg v, (grL n L h).val_le v hv⟩
theorem rints_lst {w : World} {v : Value} {d : List Int} (h : RInts w v d) {n : Nat} (hn : d.length = n) : RInts w v (lst n (fun i => d.getD i 0)) := by rw [← lst_of hn]; exact h
theorem getD_bound {d : List Int} {B : Int} (h : ∀ x ∈ d, -B ≤ x ∧ x ≤ B) (hB : 0 ≤ B) (i : Nat) : -B ≤ d.getD i 0 ∧ d.getD i 0 ≤ B := by
  by_cases hi : i < d.length
  · exact h _ (by simp [List.getD, hi])
  · simp [List.getD, hi]; omega

set_option maxRecDepth 100000 in
set_option maxHeartbeats 2000000 in
theorem raDual_c (n : Nat) (v u : Value) (L : List Lnk) (d : List Int) (w : World) (h : RLinks w v L) (hG : GoodL n L) (hd : RInts w u d) (hl : d.length = n) (hb : ∀ x ∈ d, -8 ≤ x ∧ x ≤ 8) :
    Calls Try.prog 164 #[.int .i64 n, v, u] w (RetInts w (lst n (dualF n L d))) := by
  have HR := hid h
  have HD := hid (rints_lst hd hl)
  have HDB := hid hb
  obtain ⟨a, cap, rfl⟩ := h.form
  obtain ⟨a2, cap2, rfl, _, _, hcc⟩ := hd
  have hn8 := hG.n8
  have hn1 := hG.n1
  have HG := hid hG
  have HV := hid (fun i (hi : i < n) => valV_bound hG hi)
  clear h hcc hb hG hl
  go_enter Try.func164, Try.ntmps164
  go_wp2_with fail
  refine (chValences_c n _ L _ HR.out HG.out).mono ?_
  rintro e w1 ⟨u1, rfl, hF, hb1⟩
  have HB1 := hid hb1
  have HD1 := hid (HD.out.keep hb1)
  have hsz := hb1.size
  obtain ⟨g1, c3, rfl, hlo, hhi⟩ := fi_form hF (by omega)
  have HFF := hid hF
  clear hF hb1
  go_wp2
  go_loopg [14] n (fun gk i wr => ∃ k : Nat, k ≤ n ∧ gk = n - k ∧ i = .int .i64 k ∧ FInts wr w.heap.size w1.heap.size (.slice (some ⟨g1, 0, none⟩) n c3) (lst n (fun i => if i < k then valV n L i - 2 else valV n L i)) ∧ Touch w.heap.size w1.heap.size w1 wr)
  case atStart => exact ⟨0, Nat.zero_le _, rfl, rfl, by have := HFF.out; rw [lst_congr (g := valV n L) (fun i _ => by rw [if_neg (by omega)])]; exact this, Touch.refl _ _ _⟩
  case round =>
    obtain ⟨k, hk, rfl, rfl, hF, hT⟩ := hrel
    by_cases hlt : k < n
    · obtain ⟨hc, _, hset⟩ := fi_open hF
      have d1 := (hc k hlt).1
      rw [if_neg (Nat.lt_irrefl k)] at d1
      have d2 := (hc k hlt).2
      have b1 := HV.out k hlt
      have hst := hset k (valV n L k - 2) hlt
      have hlst : lst n (upd (fun i => if i < k then valV n L i - 2 else valV n L i) k (valV n L k - 2)) = lst n (fun i => if i < k + 1 then valV n L i - 2 else valV n L i) := lst_congr (fun i _ => by
        unfold upd
        dsimp only
        by_cases e : i = k
        · subst e; rw [if_pos rfl, if_pos (by omega)]
        · rw [if_neg e]
          by_cases e2 : i < k
          · rw [if_pos e2, if_pos (by omega)]
          · rw [if_neg e2, if_neg (by omega)])
      rw [hlst] at hst
      obtain ⟨x, hx⟩ : ∃ x, valV n L k = x := ⟨_, rfl⟩
      rw [hx] at d1 hst b1
      have HO : Hid (FInts (wr.setCell ⟨g1, k, none⟩ (.int .i64 (x - 2))) w.heap.size w1.heap.size (.slice (some ⟨g1, 0, none⟩) n c3) (lst n (fun i => if i < k + 1 then valV n L i - 2 else valV n L i)) ∧ Touch w.heap.size w1.heap.size w1 (wr.setCell ⟨g1, k, none⟩ (.int .i64 (x - 2)))) :=
        ⟨hst.1, hT.trans hst.2⟩
      have hkz : (k : Int) < (n : Int) := by omega
      clear hF hT hc hset hst hlst hx
      go_wp2
      go_roundg (n - (k + 1))
      case rel => exact ⟨k + 1, by omega, rfl, by go_num, HO.out⟩
      case measure => omega
    · obtain rfl : k = n := by omega
      rw [lst_congr (g := fun i => valV k L i - 2) (fun i hi => by rw [if_pos hi])] at hF
      have hbr : Below w1.heap.size w1 wr ∨ True := .inr trivial
      have hd1 : RInts wr (.slice a2 d.length cap2) (lst k (fun i => d.getD i 0)) := by
        obtain ⟨a', c', e', q1, q2, q3⟩ := HD.out
        refine ⟨a', c', e', q1, q2, fun i hi => ?_⟩
        obtain ⟨g', o', x1, x2⟩ := q3 i hi
        refine ⟨g', o', x1, hT.cell ?_ ((HB1.out.cell (p := ⟨g', o' + i, none⟩) (cell_lt x2)).trans x2)⟩
        have := cell_lt x2; omega
      have HF := hid hF
      have HT := hid hT
      clear hF hT hbr
      go_wp2_with fail
      refine (raLess_c k _ _ (fun i => valV k L i - 2) (fun i => d.getD i 0) _ HF.out.r hd1 (by omega) (fun i hi => by have := HV.out i hi; omega) (fun i _ => by have := getD_bound HDB.out (by decide) i; omega)).mono ?_
      rintro e w2 ⟨u2, rfl, hF2, hb2⟩
      have hbr : Below w.heap.size w wr := HB1.out.trans (HT.out.below (Nat.le_refl _) hsz)
      have HFIN := hid (And.intro (hF2.mono hbr.size (Nat.le_refl _)) (hbr.trans (hb2.mono hbr.size)))
      obtain ⟨a5, n5, c5, rfl⟩ := hF2.form3
      clear hF2 hb2 hd1 hbr
      go_wp2
      go_ret
      exact ⟨_, rfl, HFIN.out.1, HFIN.out.2⟩

/-- what DualChips returns -/
noncomputable def dualB (n : Int) (L : List Lnk) (d : List Int) : List Int × Bool := if raAB n L d && raCB n (lst n.toNat (dualF n.toNat L d)) then (lst n.toNat (dualF n.toNat L d), true) else ([], false)
theorem dualB_yes {n : Int} {L : List Lnk} {d : List Int} (h : raAB n L d = true) (h' : raCB n (lst n.toNat (dualF n.toNat L d)) = true) : dualB n L d = (lst n.toNat (dualF n.toNat L d), true) := by unfold dualB; rw [h, h']; rfl
theorem dualB_no1 {n : Int} {L : List Lnk} {d : List Int} (h : raAB n L d = false) : dualB n L d = ([], false) := by unfold dualB; rw [h]; rfl
theorem dualB_no2 {n : Int} {L : List Lnk} {d : List Int} (h' : raCB n (lst n.toNat (dualF n.toNat L d)) = false) : dualB n L d = ([], false) := by unfold dualB; rw [h', Bool.and_false]; rfl
/-- a list and a truth value, the list in new memory -/
def RetIB (w : World) (p : List Int × Bool) (e : Ending) (w' : World) : Prop := ∃ v, e = .returned (.tuple #[v, .bool p.2]) ∧ FInts w' w.heap.size w'.heap.size v p.1 ∧ Below w.heap.size w w'

set_option maxRecDepth 100000 in
set_option maxHeartbeats 2000000 in
theorem sDualChips_u (n : Int) (v : Value) (L : List Lnk) (u : Value) (d : List Int) (w : World) (h : RLinks w v L) (hd : RInts w u d) :
    Calls Try.prog 79 #[.int .i64 n, v, u] w (RetIB w (dualB n L d)) := by
  have HR := hid h
  have HD := hid hd
  obtain ⟨a, cap, rfl⟩ := h.form
  obtain ⟨a2, cap2, rfl, _, _, hc⟩ := hd
  clear h hc
  rcases Bool.eq_false_or_eq_true (raAB n L d) with t1 | t1
  · have hp := t1
    unfold raAB at hp
    simp only [Bool.and_eq_true] at hp
    obtain ⟨p1, p2⟩ := hp
    obtain ⟨hG, hn, hn5, _⟩ := raGB_good p1
    obtain ⟨hl, hb⟩ := raCB_parts p2
    have hn1 := hG.n1
    obtain ⟨m, hm⟩ : ∃ m : Nat, n.toNat = m := ⟨_, rfl⟩
    have hyes := dualB_yes (n := n) (L := L) (d := d) t1
    have hno := dualB_no2 (n := n) (L := L) (d := d)
    rw [hm] at hG hn hn1 hyes hno
    subst hn
    have hl : d.length = m := by omega
    have HX := hid (And.intro hl (And.intro hb hG))
    have HYES := hid hyes
    have HNO := hid hno
    clear hG p1 p2 hb hl hm hyes hno
    have hnn : -1000 ≤ (m : Int) ∧ (m : Int) ≤ 1000 := by omega
    rcases Bool.eq_false_or_eq_true (raCB (m : Int) (lst m (dualF m L d))) with t2 | t2
    · go_enter Try.func79, Try.ntmps79
      go_wp2_with fail
      refine (raAsked_c _ _ _ L d _ HR.out HD.out).mono ?_
      rintro e w1 ⟨rfl, hb1⟩
      rw [t1]
      have HB1 := hid hb1
      have HR1 := hid (HR.out.keep hb1)
      have HD1 := hid (HD.out.keep hb1)
      clear hb1
      go_wp2_with fail
      refine (raDual_c m _ _ L d _ HR1.out HX.out.2.2 HD1.out HX.out.1 HX.out.2.1).mono ?_
      rintro e w2 ⟨u2, rfl, hF2, hb2⟩
      have hR2 := hF2.r
      obtain ⟨a5, n5, c5, rfl⟩ := hF2.form3
      have HB2 := hid (HB1.out.trans (hb2.mono HB1.out.size))
      have HR2 := hid (HR1.out.keep hb2)
      have HD2 := hid (HD1.out.keep hb2)
      have HF2 := hid hR2
      clear hb2 hF2 hR2
      go_wp2_with fail
      refine (raChips_c _ _ (lst m (dualF m L d)) _ HF2.out hnn).mono ?_
      rintro e w3 ⟨rfl, rfl⟩
      rw [t2]
      go_wp2_with fail
      refine (raDual_c m _ _ L d _ HR2.out HX.out.2.2 HD2.out HX.out.1 HX.out.2.1).mono ?_
      rintro e w4 ⟨u4, rfl, hF4, hb4⟩
      have HFIN := hid (And.intro (hF4.mono HB2.out.size (Nat.le_refl _)) (HB2.out.trans (hb4.mono HB2.out.size)))
      obtain ⟨a6, n6, c6, rfl⟩ := hF4.form3
      clear hF4 hb4
      go_wp2
      go_ret2
      exact ⟨_, by rw [HYES.out t2]; rfl, by rw [HYES.out t2]; exact HFIN.out.1, HFIN.out.2⟩
    · go_enter Try.func79, Try.ntmps79
      go_wp2_with fail
      refine (raAsked_c _ _ _ L d _ HR.out HD.out).mono ?_
      rintro e w1 ⟨rfl, hb1⟩
      rw [t1]
      have HB1 := hid hb1
      have HR1 := hid (HR.out.keep hb1)
      have HD1 := hid (HD.out.keep hb1)
      clear hb1
      go_wp2_with fail
      refine (raDual_c m _ _ L d _ HR1.out HX.out.2.2 HD1.out HX.out.1 HX.out.2.1).mono ?_
      rintro e w2 ⟨u2, rfl, hF2, hb2⟩
      have hR2 := hF2.r
      obtain ⟨a5, n5, c5, rfl⟩ := hF2.form3
      have HB2 := hid (HB1.out.trans (hb2.mono HB1.out.size))
      have HF2 := hid hR2
      clear hb2 hF2 hR2
      go_wp2_with fail
      refine (raChips_c _ _ (lst m (dualF m L d)) _ HF2.out hnn).mono ?_
      rintro e w3 ⟨rfl, rfl⟩
      rw [t2]
      go_wp2
      go_ret2
      exact ⟨_, by rw [HNO.out t2]; rfl, by rw [HNO.out t2]; exact ints_nil _ _ _, HB2.out⟩
  · have HE := hid (dualB_no1 t1)
    go_enter Try.func79, Try.ntmps79
    go_wp2_with fail
    refine (raAsked_c _ _ _ L d _ HR.out HD.out).mono ?_
    rintro e w1 ⟨rfl, hb1⟩
    rw [t1]
    have HB1 := hid hb1
    clear hb1
    go_wp2
    go_ret2
    exact ⟨_, by rw [HE.out]; rfl, by rw [HE.out]; exact ints_nil _ _ _, HB1.out⟩

end Go.Proofs.Ytlehhfmbdcmpoaa
