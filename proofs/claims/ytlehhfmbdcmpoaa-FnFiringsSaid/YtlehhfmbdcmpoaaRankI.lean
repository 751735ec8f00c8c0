/- Small graphs and divisors, duals: the program's functions. -/
import Derived.Test.YtlehhfmbdcmpoaaRankS2
import Derived.Test.YtlehhfmbdcmpoaaConn2
import Derived.Test.YtlehhfmbdcmpoaaFuncs
namespace Go.Proofs.Ytlehhfmbdcmpoaa
open Go.RowKit
open Go.Lib (hid)

set_option maxHeartbeats 1000000 in
theorem genus_c (n : Nat) (p : Value) (L : List Lnk) (w : World) (h : RG w p n L) (hG : GoodL n L) :
    Calls Try.prog 161 #[p] w fun e w' => e = .returned (.int .i64 (edgL L - n + 1)) ∧ ∃ q, w' = w.drewN q := by
  obtain ⟨g, bt, vt, rfl, c0, c1, c2, c3, hm, hv⟩ := h
  have hn8 := hG.n8
  have hb := edgL_bound hG
  obtain ⟨q, hq⟩ : ∃ q, edgL L = q := ⟨_, rfl⟩
  rw [hq] at c3 hb ⊢
  clear hm hv c1 c2 hq hG
  have f1 : IntKind.i64.wrap (q - n) = q - n := IntWalk.i64_in _ (by omega)
  have f2 : IntKind.i64.wrap (q - n + 1) = q - n + 1 := IntWalk.i64_in _ (by omega)
  go_enter Try.func161, Try.ntmps161
  go_wp2
  go_quiet (fail)
  clear f1 f2
  go_wp2
  go_ret
  exact ⟨rfl, _, rfl⟩

set_option maxHeartbeats 1000000 in
theorem areChipsF_c (x most : Int) (b : Nat) (w : World) (h : w.cell? ⟨b, 0, none⟩ = some (.int .i64 most)) (hm : 0 ≤ most ∧ most ≤ 1000) :
    Calls Try.prog 177 (#[.int .i64 x] ++ #[.pointer (some ⟨b, 0, none⟩)]) w fun e w' => e = .returned (.bool (!inB x (-most) most)) ∧ w = w' := by
  show Calls Try.prog 177 #[.int .i64 x, .pointer (some ⟨b, 0, none⟩)] w _
  go_enter Try.func177, Try.ntmps177
  go_wp2_with (go_at_call 157; refine (within_c _ _ _ _).mono ?_; rintro e w' ⟨rfl, rfl⟩)
  go_ret
  exact ⟨rfl, rfl⟩
theorem any_not_in (l : List Int) (lo hi : Int) : (l.any fun x => !inB x lo hi) = !allB l lo hi := by
  unfold allB
  induction l with
  | nil => rfl
  | cons x xs ih => simp only [List.any_cons, List.all_cons, ih]; cases inB x lo hi <;> simp

set_option maxHeartbeats 1000000 in
theorem areChips_c (n : Nat) (p : Value) (L : List Lnk) (v : Value) (d : List Int) (most : Int) (w : World) (h : RG w p n L) (hd : RInts w v d) (hm : 0 ≤ most ∧ most ≤ 1000) :
    Calls Try.prog 104 #[p, v, .int .i64 most] w fun e w' => e = .returned (.bool (((d.length : Int) == (n : Int)) && allB d (-most) most)) ∧ Below w.heap.size w w' := by
  have HD := hid hd
  obtain ⟨a, cap, rfl, hl1, hl2, hc⟩ := hd
  clear hc
  unfold maxLen at hl2
  obtain ⟨g, bt, vt, rfl, c0, c1, c2, c3, hmm, hv⟩ := h
  have hb1 : Below w.heap.size w (w.alloc (.cells #[.int .i64 most] 3)) := (Below.refl _ _).alloc (Nat.le_refl _) _
  have e0 := (hb1.cell (p := ⟨g, 0, none⟩) (cell_lt c0)).trans c0
  have hcn := cell_new w (.int .i64 most) 3
  have HB1 := hid hb1
  have HD1 := hid (HD.out.keep hb1)
  have hcF := fun x => areChipsF_c x most w.heap.size _ hcn hm
  have HCF := hid hcF
  clear hmm hv c0 c1 c2 c3 hb1 hcF hcn
  rcases Bool.eq_false_or_eq_true ((d.length : Int) == (n : Int)) with t1 | t1
  · rw [t1, Bool.true_and]
    go_enter Try.func104, Try.ntmps104
    go_wp2_with fail
    refine (containsFuncI_c _ d _ _ _ (fun x => !inB x (-most) most) HD1.out Try.call177 HCF.out).mono ?_
    rintro e w' ⟨rfl, rfl⟩
    rw [any_not_in]
    go_wp2
    go_ret
    exact ⟨ret_bool (by simp), HB1.out⟩
  · rw [t1, Bool.false_and]
    go_enter Try.func104, Try.ntmps104
    go_wp2
    go_ret
    exact ⟨rfl, HB1.out⟩

set_option maxHeartbeats 1000000 in
theorem isSmall_c (n : Nat) (p : Value) (L : List Lnk) (v : Value) (d : List Int) (w : World) (h : RG w p n L) (hd : RInts w v d) (hn : n ≤ 8) :
    Calls Try.prog 170 #[p, v] w fun e w' => e = .returned (.bool (raCB (n : Int) d)) ∧ Below w.heap.size w w' := by
  have HR := hid h
  have HD := hid hd
  obtain ⟨a, cap, rfl, hl1, hl2, hc⟩ := hd
  obtain ⟨g, rfl⟩ := h.form
  clear hc h
  rcases Bool.eq_false_or_eq_true (((d.length : Int) == (n : Int)) && allB d (-8) 8) with t1 | t1
  · have hsm : smallI d := by
      simp only [Bool.and_eq_true, beq_iff_eq] at t1
      exact ⟨by omega, fun x hx => by have := allB_mem t1.2 x hx; omega⟩
    have HSM := hid hsm
    have HE : Hid (raCB (n : Int) d = decide (d.sum ≤ 8)) := by show _ = _; unfold raCB; rw [← Bool.and_assoc, t1]; rfl
    obtain ⟨q, hq⟩ : ∃ q, d.sum = q := ⟨_, rfl⟩
    rw [hq] at HE
    have HQ := hid hq
    clear hsm hq
    go_enter Try.func170, Try.ntmps170
    go_wp2_with fail
    refine (areChips_c n _ L _ d 8 _ HR.out HD.out (by decide)).mono ?_
    rintro e w1 ⟨rfl, hb1⟩
    rw [t1]
    have HD1 := hid (HD.out.keep hb1)
    go_wp2_with fail
    refine (total_c _ d _ HD1.out HSM.out).mono ?_
    rintro e w2 ⟨rfl, rfl⟩
    rw [HQ.out]
    go_wp2
    all_goals go_ret
    all_goals exact ⟨ret_bool (by rw [HE.out] <;> simp [*]), hb1⟩
  · have HE : Hid (raCB (n : Int) d = false) := by show _ = _; unfold raCB; rw [← Bool.and_assoc, t1]; rfl
    go_enter Try.func170, Try.ntmps170
    go_wp2_with fail
    refine (areChips_c n _ L _ d 8 _ HR.out HD.out (by decide)).mono ?_
    rintro e w1 ⟨rfl, hb1⟩
    rw [t1]
    go_wp2
    go_ret
    exact ⟨ret_bool HE.out.symm, hb1⟩

/-- a graph and that it is one -/
def RetG (w : World) (n : Nat) (L : List Lnk) (e : Ending) (w' : World) : Prop := ∃ g, e = .returned (.tuple #[.pointer (some ⟨g, 0, none⟩), .bool true]) ∧ RG w' (.pointer (some ⟨g, 0, none⟩)) n L ∧ Below w.heap.size w w'
/-- some pointer, and that it is none -/
def RetNoG (w : World) (e : Ending) (w' : World) : Prop := ∃ a, e = .returned (.tuple #[.pointer a, .bool false]) ∧ Below w.heap.size w w'

set_option maxRecDepth 100000 in
set_option maxHeartbeats 1000000 in
theorem smallGraph_yes (n : Nat) (v : Value) (L : List Lnk) (w : World) (h : RLinks w v L) (hs : raGB (n : Int) L = true) :
    Calls Try.prog 166 #[.int .i64 n, v] w (RetG w n L) := by
  have HR := hid h
  obtain ⟨a, cap, rfl⟩ := h.form
  clear h
  obtain ⟨hG, -, hn5, hcon, hgood⟩ := raGB_good hs
  rw [Int.toNat_natCast] at hG hcon
  have hgen : 1 - (n : Int) + edgL L ≤ 4 := by
    unfold raGB at hs
    simp only [Bool.and_eq_true, decide_eq_true_eq] at hs
    exact hs.2.2.2
  have HX := hid (And.intro hG (And.intro hcon hgood))
  clear hs hG hcon hgood
  go_enter Try.func166, Try.ntmps166
  go_wp2_with fail
  refine (graphOf_c n _ L _ HR.out HX.out.1 HX.out.2.2).mono ?_
  rintro e w1 ⟨g, rfl, hg, hb1⟩
  have HRG := hid hg
  obtain ⟨g2, bt, vt, hgg, c0, _, _, _, _, _⟩ := hg
  simp only [Value.pointer.injEq, Option.some.injEq, Addr.mk.injEq, and_true] at hgg
  subst hgg
  have HB1 := hid hb1
  clear hb1
  go_wp2_with fail
  refine (isConnected_c n _ L _ HRG.out HX.out.1).mono ?_
  rintro e w2 ⟨rfl, hb2⟩
  rw [HX.out.2.1]
  have HRG2 := hid (HRG.out.keep hb2)
  have HB2 := hid (HB1.out.trans (hb2.mono HB1.out.size))
  clear hb2
  go_wp2_with fail
  refine (genus_c n _ L _ HRG2.out HX.out.1).mono ?_
  rintro e w3 ⟨rfl, q, rfl⟩
  obtain ⟨E, hE⟩ : ∃ E, edgL L = E := ⟨_, rfl⟩
  rw [hE] at hgen ⊢
  have h4 : E - (n : Int) + 1 ≤ 4 := by omega
  clear hE hgen
  go_wp2
  go_ret2
  exact ⟨g, rfl, HRG2.out.drewN, below_drewN HB2.out _⟩

set_option maxRecDepth 100000 in
set_option maxHeartbeats 1000000 in
theorem smallGraph_no (n : Int) (v : Value) (L : List Lnk) (w : World) (h : RLinks w v L) (hs : raGB n L = false) :
    Calls Try.prog 166 #[.int .i64 n, v] w (RetNoG w) := by
  have HR := hid h
  obtain ⟨a, cap, rfl⟩ := h.form
  clear h
  rcases Bool.eq_false_or_eq_true (goodG n L) with t1 | t1
  · obtain ⟨hG, hn⟩ := goodG_parts t1
    have hn8 := hG.n8
    have hn1 := hG.n1
    obtain ⟨m, hm⟩ : ∃ m : Nat, n.toNat = m := ⟨_, rfl⟩
    rw [hm] at hG hn hn8 hn1
    subst hn
    have HX := hid (And.intro hG t1)
    unfold raGB at hs
    rw [t1, hm, Bool.true_and] at hs
    clear hG t1 hm
    by_cases t2 : (m : Int) ≤ 5
    · rw [decide_eq_true t2, Bool.true_and] at hs
      rcases Bool.eq_false_or_eq_true (conB m L) with t3 | t3
      · rw [t3, Bool.true_and, decide_eq_false_iff_not] at hs
        have HC := hid t3
        clear t3
        go_enter Try.func166, Try.ntmps166
        go_wp2_with fail
        refine (graphOf_c m _ L _ HR.out HX.out.1 HX.out.2).mono ?_
        rintro e w1 ⟨g, rfl, hg, hb1⟩
        have HRG := hid hg
        obtain ⟨g2, bt, vt, hgg, c0, _, _, _, _, _⟩ := hg
        simp only [Value.pointer.injEq, Option.some.injEq, Addr.mk.injEq, and_true] at hgg
        subst hgg
        have HB1 := hid hb1
        clear hb1
        go_wp2_with fail
        refine (isConnected_c m _ L _ HRG.out HX.out.1).mono ?_
        rintro e w2 ⟨rfl, hb2⟩
        rw [HC.out]
        have HRG2 := hid (HRG.out.keep hb2)
        have HB2 := hid (HB1.out.trans (hb2.mono HB1.out.size))
        clear hb2
        go_wp2_with fail
        refine (genus_c m _ L _ HRG2.out HX.out.1).mono ?_
        rintro e w3 ⟨rfl, q, rfl⟩
        obtain ⟨E, hE⟩ : ∃ E, edgL L = E := ⟨_, rfl⟩
        rw [hE] at hs ⊢
        have h5 : decide (E - (m : Int) + 1 ≤ 4) = false := decide_eq_false (by omega)
        clear hE hs
        go_wp2
        go_ret2
        exact ⟨_, rfl, below_drewN HB2.out _⟩
      · clear hs
        have HC := hid t3
        clear t3
        go_enter Try.func166, Try.ntmps166
        go_wp2_with fail
        refine (graphOf_c m _ L _ HR.out HX.out.1 HX.out.2).mono ?_
        rintro e w1 ⟨g, rfl, hg, hb1⟩
        have HRG := hid hg
        obtain ⟨g2, bt, vt, hgg, c0, _, _, _, _, _⟩ := hg
        simp only [Value.pointer.injEq, Option.some.injEq, Addr.mk.injEq, and_true] at hgg
        subst hgg
        have HB1 := hid hb1
        clear hb1
        go_wp2_with fail
        refine (isConnected_c m _ L _ HRG.out HX.out.1).mono ?_
        rintro e w2 ⟨rfl, hb2⟩
        rw [HC.out]
        have HB2 := hid (HB1.out.trans (hb2.mono HB1.out.size))
        clear hb2
        go_wp2
        go_ret2
        exact ⟨_, rfl, HB2.out⟩
    · clear hs
      go_enter Try.func166, Try.ntmps166
      go_wp2_with fail
      refine (graphOf_c m _ L _ HR.out HX.out.1 HX.out.2).mono ?_
      rintro e w1 ⟨g, rfl, hg, hb1⟩
      obtain ⟨g2, bt, vt, hgg, c0, _, _, _, _, _⟩ := hg
      simp only [Value.pointer.injEq, Option.some.injEq, Addr.mk.injEq, and_true] at hgg
      subst hgg
      have HB1 := hid hb1
      clear hb1
      go_wp2
      go_ret2
      exact ⟨_, rfl, HB1.out⟩
  · clear hs
    go_enter Try.func166, Try.ntmps166
    go_wp2_with fail
    refine (graphOf_no _ _ L _ HR.out t1).mono ?_
    rintro e w1 ⟨rfl, hb1⟩
    go_wp2
    go_ret2
    exact ⟨_, rfl, hb1⟩

set_option maxRecDepth 100000 in
set_option maxHeartbeats 1000000 in
theorem smallGame_yes (n : Nat) (v u : Value) (L : List Lnk) (d : List Int) (w : World) (h : RLinks w v L) (hd : RInts w u d) (hs : raAB (n : Int) L d = true) :
    Calls Try.prog 94 #[.int .i64 n, v, u] w (RetG w n L) := by
  have HR := hid h
  have HD := hid hd
  obtain ⟨a, cap, rfl⟩ := h.form
  obtain ⟨a2, cap2, rfl, _, _, hc⟩ := hd
  clear h hc
  unfold raAB at hs
  simp only [Bool.and_eq_true] at hs
  have HS := hid hs
  have hn8 := (raGB_good hs.1).1.n8
  rw [Int.toNat_natCast] at hn8
  clear hs
  go_enter Try.func94, Try.ntmps94
  go_wp2_with fail
  refine (smallGraph_yes n _ L _ HR.out HS.out.1).mono ?_
  rintro e w1 ⟨g, rfl, hg, hb1⟩
  have HRG := hid hg
  have HD1 := hid (HD.out.keep hb1)
  have HB1 := hid hb1
  clear hg hb1
  go_wp2_with fail
  refine (isSmall_c n _ L _ d _ HRG.out HD1.out hn8).mono ?_
  rintro e w2 ⟨rfl, hb2⟩
  rw [HS.out.2]
  have HF := hid (And.intro (HRG.out.keep hb2) (HB1.out.trans (hb2.mono HB1.out.size)))
  clear hb2
  go_wp2
  go_ret2
  exact ⟨g, rfl, HF.out.1, HF.out.2⟩
set_option maxRecDepth 100000 in
set_option maxHeartbeats 1000000 in
theorem smallGame_no (n : Int) (v u : Value) (L : List Lnk) (d : List Int) (w : World) (h : RLinks w v L) (hd : RInts w u d) (hs : raAB n L d = false) :
    Calls Try.prog 94 #[.int .i64 n, v, u] w (RetNoG w) := by
  have HR := hid h
  have HD := hid hd
  obtain ⟨a, cap, rfl⟩ := h.form
  obtain ⟨a2, cap2, rfl, _, _, hc⟩ := hd
  clear h hc
  rcases Bool.eq_false_or_eq_true (raGB n L) with t1 | t1
  · unfold raAB at hs
    rw [t1, Bool.true_and] at hs
    obtain ⟨hG, hn, _⟩ := raGB_good t1
    have hn8 := hG.n8
    obtain ⟨m, hm⟩ : ∃ m : Nat, n.toNat = m := ⟨_, rfl⟩
    rw [hm] at hG hn hn8
    subst hn
    have HS := hid (And.intro t1 hs)
    clear t1 hs hG hm
    go_enter Try.func94, Try.ntmps94
    go_wp2_with fail
    refine (smallGraph_yes m _ L _ HR.out HS.out.1).mono ?_
    rintro e w1 ⟨g, rfl, hg, hb1⟩
    have HRG := hid hg
    have HD1 := hid (HD.out.keep hb1)
    have HB1 := hid hb1
    clear hg hb1
    go_wp2_with fail
    refine (isSmall_c m _ L _ d _ HRG.out HD1.out hn8).mono ?_
    rintro e w2 ⟨rfl, hb2⟩
    rw [HS.out.2]
    have HF := hid (HB1.out.trans (hb2.mono HB1.out.size))
    clear hb2
    go_wp2
    go_ret2
    exact ⟨_, rfl, HF.out⟩
  · clear hs
    go_enter Try.func94, Try.ntmps94
    go_wp2_with fail
    refine (smallGraph_no _ _ L _ HR.out t1).mono ?_
    rintro e w1 ⟨g, rfl, hb1⟩
    go_wp2
    go_ret2
    exact ⟨_, rfl, hb1⟩

set_option maxRecDepth 100000 in
set_option maxHeartbeats 1000000 in
theorem canonical_c (n : Nat) (p : Value) (L : List Lnk) (w : World) (h : RG w p n L) (hG : GoodL n L) :
    Calls Try.prog 213 #[p] w (RetInts w (lst n (fun v => valV n L v - 2))) := by
  obtain ⟨g, bt, vt, rfl, c0, c1, c2, c3, hm, hv⟩ := h
  have hn8 := hG.n8
  have hn1 := hG.n1
  have HV := hid (fun i (hi : i < n) => valV_bound hG hi)
  obtain ⟨gv, ov, cv, rfl, hcv1, hcv2, hcell⟩ := ri_open hv (by omega)
  have HC := hid hcell
  have hs0 : Below w.heap.size w (w.alloc (.cells #[] 3)) := (Below.refl _ _).alloc (Nat.le_refl _) _
  have e2 := (hs0.cell (p := ⟨g, 2, none⟩) (cell_lt c2)).trans c2
  have HS0 := hid hs0
  have hF0 := ints_empty w w.heap.size (Nat.le_refl _)
  have HF0 : Hid (FInts (w.alloc (.cells #[] 3)) w.heap.size (w.alloc (.cells #[] 3)).heap.size (.slice (some ⟨w.heap.size, 0, none⟩) 0 0) (lst 0 (fun v => valV n L v - 2))) := by show FInts _ _ _ _ _; rw [lst_zero]; simpa using hF0
  clear hm hv c0 c1 c2 c3 hG hcell hs0 hF0
  go_enter Try.func213, Try.ntmps213
  go_wp2
  clear e2
  go_loopg [3, 12] n (fun gk out i wr => ∃ k : Nat, ∃ a c, out = .slice a k c ∧ k ≤ n ∧ gk = n - k ∧ i = .int .i64 k ∧ FInts wr w.heap.size wr.heap.size (.slice a k c) (lst k (fun v => valV n L v - 2)) ∧ Below w.heap.size w wr)
  case atStart => exact ⟨0, _, 0, rfl, Nat.zero_le _, rfl, rfl, HF0.out, HS0.out⟩
  case round =>
    obtain ⟨k, a', c', rfl, hk, rfl, rfl, hF, hb⟩ := hrel
    have HB := hid hb
    by_cases hlt : k < n
    · have e1 := (hb.cell (p := ⟨gv, ov + k, none⟩) (cell_lt (HC.out k hlt))).trans (HC.out k hlt)
      have b1 := HV.out k hlt
      obtain ⟨x, hx⟩ : ∃ x, valV n L k = x := ⟨_, rfl⟩
      rw [hx] at e1 b1
      have HX : Hid (lst k (fun v => valV n L v - 2) ++ [x - 2] = lst (k + 1) (fun v => valV n L v - 2)) := by show _ = _; rw [lst_succ, hx]
      have hkz : (k : Int) < (n : Int) := by omega
      have hsb := hb.size
      have HF := hid hF
      have HLL := hid (lst_len k (fun v => valV n L v - 2))
      clear hF hb hx
      go_wp2_with (at_builtin; (refine wpList_push_r (W0 := w) rfl _ _ rfl w.heap.size (.slice a' k c') (lst k (fun v => valV n L v - 2)) (x - 2) rfl rfl HF.out HB.out hsb k HLL (by omega) _ HX ?_; intro g4 c4 w4 hF4 hb4; have HF4 := hid hF4; have HB4 := hid hb4; clear hF4 hb4))
      go_roundg (n - (k + 1))
      case rel => exact ⟨k + 1, _, _, rfl, by omega, rfl, by go_num, HF4.out, HB4.out⟩
      case measure => omega
    · obtain rfl : k = n := by omega
      have HF := hid hF
      clear hF hb
      go_wp2
      go_ret
      exact ⟨_, rfl, HF.out, HB.out⟩

set_option maxRecDepth 100000 in
set_option maxHeartbeats 1000000 in
theorem differences_c (n : Nat) (v u : Value) (f g : Nat → Int) (w : World) (hf : RInts w v (lst n f)) (hg : RInts w u (lst n g)) (hn0 : 0 < n) (hn : n ≤ 1000) (bf : ∀ i, i < n → -10000 ≤ f i ∧ f i ≤ 10000) (bg : ∀ i, i < n → -10000 ≤ g i ∧ g i ≤ 10000) :
    Calls Try.prog 171 #[v, u] w (RetInts w (lst n (fun i => f i - g i))) := by
  obtain ⟨g1, o1, c1, rfl, hc11, hc12, hcell1⟩ := ri_open hf hn0
  obtain ⟨g2, o2, c2, rfl, hc21, hc22, hcell2⟩ := ri_open hg hn0
  have H1 := hid hcell1
  have H2 := hid hcell2
  have BF := hid bf
  have BG := hid bg
  have hs0 : Below w.heap.size w (w.alloc (.cells #[] 3)) := (Below.refl _ _).alloc (Nat.le_refl _) _
  have HS0 := hid hs0
  have hF0 := ints_empty w w.heap.size (Nat.le_refl _)
  have HF0 : Hid (FInts (w.alloc (.cells #[] 3)) w.heap.size (w.alloc (.cells #[] 3)).heap.size (.slice (some ⟨w.heap.size, 0, none⟩) 0 0) (lst 0 (fun i => f i - g i))) := by show FInts _ _ _ _ _; rw [lst_zero]; simpa using hF0
  clear hcell1 hcell2 hf hg hs0 hF0 bf bg
  go_enter Try.func171, Try.ntmps171
  go_wp2
  go_loopg [5, 11] n (fun gk out i wr => ∃ k : Nat, ∃ a c, out = .slice a k c ∧ k ≤ n ∧ gk = n - k ∧ i = .int .i64 k ∧ FInts wr w.heap.size wr.heap.size (.slice a k c) (lst k (fun i => f i - g i)) ∧ Below w.heap.size w wr)
  case atStart => exact ⟨0, _, 0, rfl, Nat.zero_le _, rfl, rfl, HF0.out, HS0.out⟩
  case round =>
    obtain ⟨k, a', c', rfl, hk, rfl, rfl, hF, hb⟩ := hrel
    have HB := hid hb
    by_cases hlt : k < n
    · have e1 := (hb.cell (p := ⟨g1, o1 + k, none⟩) (cell_lt (H1.out k hlt))).trans (H1.out k hlt)
      have e2 := (hb.cell (p := ⟨g2, o2 + k, none⟩) (cell_lt (H2.out k hlt))).trans (H2.out k hlt)
      have b1 := BF.out k hlt
      have b2 := BG.out k hlt
      obtain ⟨x, hx⟩ : ∃ x, f k = x := ⟨_, rfl⟩
      obtain ⟨y, hy⟩ : ∃ y, g k = y := ⟨_, rfl⟩
      rw [hx] at e1 b1
      rw [hy] at e2 b2
      have HX : Hid (lst k (fun i => f i - g i) ++ [x - y] = lst (k + 1) (fun i => f i - g i)) := by show _ = _; rw [lst_succ, hx, hy]
      have hkz : (k : Int) < (n : Int) := by omega
      have hsb := hb.size
      have HF := hid hF
      have HLL := hid (lst_len k (fun i => f i - g i))
      clear hF hb hx hy
      go_wp2_with (at_builtin; (refine wpList_push_r (W0 := w) rfl _ _ rfl w.heap.size (.slice a' k c') (lst k (fun i => f i - g i)) (x - y) rfl rfl HF.out HB.out hsb k HLL (by omega) _ HX ?_; intro g4 c4 w4 hF4 hb4; have HF4 := hid hF4; have HB4 := hid hb4; clear hF4 hb4))
      go_roundg (n - (k + 1))
      case rel => exact ⟨k + 1, _, _, rfl, by omega, rfl, by go_num, HF4.out, HB4.out⟩
      case measure => omega
    · obtain rfl : k = n := by omega
      have HF := hid hF
      clear hF hb
      go_wp2
      go_ret
      exact ⟨_, rfl, HF.out, HB.out⟩
set_option maxHeartbeats 1000000 in
theorem less_c (n : Nat) (v u : Value) (f g : Nat → Int) (w : World) (hf : RInts w v (lst n f)) (hg : RInts w u (lst n g)) (hn0 : 0 < n) (hn : n ≤ 1000) (bf : ∀ i, i < n → -10000 ≤ f i ∧ f i ≤ 10000) (bg : ∀ i, i < n → -10000 ≤ g i ∧ g i ≤ 10000) :
    Calls Try.prog 96 #[v, u] w (RetInts w (lst n (fun i => f i - g i))) := by
  have H1 := hid hf
  have H2 := hid hg
  have BF := hid bf
  have BG := hid bg
  obtain ⟨g1, o1, c1, rfl, _, _, _⟩ := ri_open hf hn0
  obtain ⟨g2, o2, c2, rfl, _, _, _⟩ := ri_open hg hn0
  clear hf hg bf bg
  go_enter Try.func96, Try.ntmps96
  go_wp2_with fail
  refine (differences_c n _ _ f g _ H1.out H2.out hn0 hn BF.out BG.out).mono ?_
  rintro e w1 ⟨u1, rfl, hF, hb⟩
  have HF := hid (And.intro hF hb)
  obtain ⟨a5, n5, c5, rfl⟩ := hF.form3
  clear hF hb
  go_wp2
  go_ret
  exact ⟨_, rfl, HF.out.1, HF.out.2⟩

set_option maxHeartbeats 1000000 in
theorem dual_c (n : Nat) (p u : Value) (L : List Lnk) (d : List Int) (w : World) (h : RG w p n L) (hG : GoodL n L) (hd : RInts w u d) (hl : d.length = n) (hb : ∀ x ∈ d, -8 ≤ x ∧ x ≤ 8) :
    Calls Try.prog 200 #[p, u] w (RetInts w (lst n (dualF n L d))) := by
  have HR := hid h
  have HD := hid (rints_lst hd hl)
  have HDB := hid hb
  obtain ⟨g, rfl⟩ := h.form
  obtain ⟨a2, cap2, rfl, _, _, hcc⟩ := hd
  have hn8 := hG.n8
  have hn1 := hG.n1
  have HG := hid hG
  have HV := hid (fun i (hi : i < n) => valV_bound hG hi)
  clear h hcc hb hG hl
  go_enter Try.func200, Try.ntmps200
  go_wp2_with fail
  refine (canonical_c n _ L _ HR.out HG.out).mono ?_
  rintro e w1 ⟨u1, rfl, hF, hb1⟩
  have hd1 := HD.out.keep hb1
  have HFr := hid hF.r
  have HB1 := hid hb1
  obtain ⟨a5, n5, c5, rfl⟩ := hF.form3
  clear hF hb1
  go_wp2_with fail
  refine (less_c n _ _ (fun i => valV n L i - 2) (fun i => d.getD i 0) _ HFr.out hd1 (by omega) (by omega) (fun i hi => by have := HV.out i hi; omega) (fun i _ => by have := getD_bound HDB.out (by decide) i; omega)).mono ?_
  rintro e w2 ⟨u2, rfl, hF2, hb2⟩
  have HFIN := hid (And.intro (hF2.mono HB1.out.size (Nat.le_refl _)) (HB1.out.trans (hb2.mono HB1.out.size)))
  obtain ⟨a6, n6, c6, rfl⟩ := hF2.form3
  clear hF2 hb2 hd1
  go_wp2
  go_ret
  exact ⟨_, rfl, HFIN.out.1, HFIN.out.2⟩

set_option maxRecDepth 100000 in
set_option maxHeartbeats 1000000 in
theorem withDual_yes (n : Nat) (v u : Value) (L : List Lnk) (d : List Int) (w : World) (h : RLinks w v L) (hd : RInts w u d) (hs : raAB (n : Int) L d = true) :
    Calls Try.prog 160 #[.int .i64 n, v, u] w fun e w' => ∃ g q, e = .returned (.tuple #[.pointer (some ⟨g, 0, none⟩), q, .bool (raCB (n : Int) (lst n (dualF n L d)))]) ∧ RG w' (.pointer (some ⟨g, 0, none⟩)) n L ∧ FInts w' w.heap.size w'.heap.size q (lst n (dualF n L d)) ∧ Below w.heap.size w w' := by
  have HR := hid h
  have HD := hid hd
  obtain ⟨a, cap, rfl⟩ := h.form
  obtain ⟨a2, cap2, rfl, _, _, hc⟩ := hd
  clear h hc
  have hp := hs
  unfold raAB at hp
  simp only [Bool.and_eq_true] at hp
  have hG := (raGB_good hp.1).1
  rw [Int.toNat_natCast] at hG
  have hl := (raCB_parts hp.2).1
  have HX : Hid (GoodL n L ∧ d.length = n ∧ ∀ x ∈ d, -8 ≤ x ∧ x ≤ 8) := ⟨hG, by omega, (raCB_parts hp.2).2⟩
  have hn8 := hG.n8
  have HS := hid hs
  clear hp hG hl hs
  go_enter Try.func160, Try.ntmps160
  go_wp2_with fail
  refine (smallGame_yes n _ _ L d _ HR.out HD.out HS.out).mono ?_
  rintro e w1 ⟨g, rfl, hg, hb1⟩
  have HRG := hid hg
  have HD1 := hid (HD.out.keep hb1)
  have HB1 := hid hb1
  clear hg hb1
  go_wp2_with fail
  refine (dual_c n _ _ L d _ HRG.out HX.out.1 HD1.out HX.out.2.1 HX.out.2.2).mono ?_
  rintro e w2 ⟨u2, rfl, hF2, hb2⟩
  have HRG2 := hid (HRG.out.keep hb2)
  have HF2 := hid (hF2.mono HB1.out.size (Nat.le_refl _))
  have HB2 := hid (HB1.out.trans (hb2.mono HB1.out.size))
  obtain ⟨a6, n6, c6, rfl⟩ := hF2.form3
  clear hF2 hb2
  go_wp2_with fail
  refine (isSmall_c n _ L _ (lst n (dualF n L d)) _ HRG2.out HF2.out.r hn8).mono ?_
  rintro e w3 ⟨rfl, hb3⟩
  have HF3 := hid (And.intro (HRG2.out.keep hb3) (And.intro ((HF2.out.keep hb3).mono (Nat.le_refl _) hb3.size) (HB2.out.trans (hb3.mono HB2.out.size))))
  clear hb3
  go_wp2
  go_ret3
  exact ⟨g, _, rfl, HF3.out.1, HF3.out.2.1, HF3.out.2.2⟩
set_option maxRecDepth 100000 in
set_option maxHeartbeats 1000000 in
theorem withDual_no (n : Int) (v u : Value) (L : List Lnk) (d : List Int) (w : World) (h : RLinks w v L) (hd : RInts w u d) (hs : raAB n L d = false) :
    Calls Try.prog 160 #[.int .i64 n, v, u] w fun e w' => e = .returned (.tuple #[.pointer none, .slice none 0 0, .bool false]) ∧ Below w.heap.size w w' := by
  have HR := hid h
  have HD := hid hd
  obtain ⟨a, cap, rfl⟩ := h.form
  obtain ⟨a2, cap2, rfl, _, _, hc⟩ := hd
  clear h hc
  have HS := hid hs
  clear hs
  go_enter Try.func160, Try.ntmps160
  go_wp2_with fail
  refine (smallGame_no n _ _ L d _ HR.out HD.out HS.out).mono ?_
  rintro e w1 ⟨g, rfl, hb1⟩
  go_wp2
  go_ret3
  exact ⟨rfl, hb1⟩

set_option maxRecDepth 100000 in
set_option maxHeartbeats 1000000 in
theorem iDualChips_u (n : Int) (v : Value) (L : List Lnk) (u : Value) (d : List Int) (w : World) (h : RLinks w v L) (hd : RInts w u d) :
    Calls Try.prog 78 #[.int .i64 n, v, u] w (RetIB w (dualB n L d)) := by
  have HR := hid h
  have HD := hid hd
  obtain ⟨a, cap, rfl⟩ := h.form
  obtain ⟨a2, cap2, rfl, _, _, hc⟩ := hd
  clear h hc
  rcases Bool.eq_false_or_eq_true (raAB n L d) with t1 | t1
  · have hp := t1
    unfold raAB at hp
    simp only [Bool.and_eq_true] at hp
    obtain ⟨_, hn, _⟩ := raGB_good hp.1
    have hyes := dualB_yes (n := n) (L := L) (d := d) t1
    have hno := dualB_no2 (n := n) (L := L) (d := d)
    obtain ⟨m, hm⟩ : ∃ m : Nat, n.toNat = m := ⟨_, rfl⟩
    rw [hm] at hn hyes hno
    subst hn
    have HYES := hid hyes
    have HNO := hid hno
    have HT := hid t1
    clear hp hm hyes hno t1
    go_enter Try.func78, Try.ntmps78
    go_wp2_with fail
    refine (withDual_yes m _ _ L d _ HR.out HD.out HT.out).mono ?_
    rintro e w1 ⟨g, q, rfl, _, hF, hb1⟩
    have HF := hid (And.intro hF hb1)
    obtain ⟨a6, n6, c6, rfl⟩ := hF.form3
    clear hF hb1
    rcases Bool.eq_false_or_eq_true (raCB (m : Int) (lst m (dualF m L d))) with t2 | t2
    · rw [t2]
      go_wp2
      go_ret2
      exact ⟨_, by rw [HYES.out t2]; rfl, by rw [HYES.out t2]; exact HF.out.1, HF.out.2⟩
    · rw [t2]
      go_wp2
      go_ret2
      exact ⟨_, by rw [HNO.out t2]; rfl, by rw [HNO.out t2]; exact ints_nil _ _ _, HF.out.2⟩
  · have HE := hid (dualB_no1 t1)
    go_enter Try.func78, Try.ntmps78
    go_wp2_with fail
    refine (withDual_no n _ _ L d _ HR.out HD.out t1).mono ?_
    rintro e w1 ⟨rfl, hb1⟩
    go_wp2
    go_ret2
    exact ⟨_, by rw [HE.out]; rfl, by rw [HE.out]; exact ints_nil _ _ _, hb1⟩

end Go.Proofs.Ytlehhfmbdcmpoaa
