/- The drawing functions of metrics (printed by wip/metdraw2.py). -/
import Derived.Test.YtcgcgmlonhganaaMetDw
namespace Go.Proofs.Ytcgcgmlonhganaa
open Go.RowKit
open Go.Lib (hid)

theorem results_tmp5m {fn : Func} {t u v x y : Tmp} (h : fn.results = #[.tmp t, .tmp u, .tmp v, .tmp x, .tmp y]) (tmps : Array Value) (P : Program) (w : World) :
    (results fn tmps).run P w = .ok (.tuple #[tmps.getD t undef, tmps.getD u undef, tmps.getD v undef, tmps.getD x undef, tmps.getD y undef]) w := by
  simp [results, h]
def RetVx (b k lo : Nat) (w : World) (e : Ending) (w' : World) : Prop := ∃ x : Int, e = .returned (.int .i64 x) ∧ Cur w' b k ∧ Dr b lo w w'
def RetMD (w : World) (e : Ending) (w' : World) : Prop := ∃ (v : Value) (M : List (List Int)), e = .returned v ∧ RMat w' v M ∧ Below w.heap.size w w'
def RetMDI (w : World) (e : Ending) (w' : World) : Prop := ∃ (v : Value) (M : List (List Int)) (i : Int), e = .returned (.tuple #[v, .int .i64 i]) ∧ RMat w' v M ∧ Below w.heap.size w w'
def RetMDN (w : World) (e : Ending) (w' : World) : Prop := ∃ (v : Value) (M : List (List Int)) (u : Value) (d : List Int), e = .returned (.tuple #[v, u]) ∧ RMat w' v M ∧ RInts w' u d ∧ Below w.heap.size w w'
def RetMD4 (w : World) (e : Ending) (w' : World) : Prop := ∃ (v : Value) (M : List (List Int)) (i j k l : Int), e = .returned (.tuple #[v, .int .i64 i, .int .i64 j, .int .i64 k, .int .i64 l]) ∧ RMat w' v M ∧ Below w.heap.size w w'
theorem rmat_pair {w : World} {u v : Value} {c d : List Int} (h : RInts w u c) (h' : RInts w v d) : RMat (w.alloc (.cells #[u, v] 24)) (.slice (some ⟨w.heap.size, 0, none⟩) 2 2) [c, d] ∧ Below w.heap.size w (w.alloc (.cells #[u, v] 24)) := by
  have hal : Below w.heap.size w (w.alloc (.cells #[u, v] 24)) := (Below.refl _ _).alloc (Nat.le_refl _) _
  have hbx : (w.alloc (.cells #[u, v] 24)).heap[w.heap.size]? = some (.cells #[u, v] 24 (0, 0)) := heap_alloc_new _ _
  refine ⟨⟨_, 2, rfl, Nat.le_refl _, by unfold maxLen; omega, fun i hi => ?_⟩, hal⟩
  rcases (show i = 0 ∨ i = 1 by simp at hi; omega) with rfl | rfl
  · exact ⟨w.heap.size, 0, u, rfl, by rw [cell_of_row _ _ _ _ _ _ hbx]; rfl, h.keep hal⟩
  · exact ⟨w.heap.size, 0, v, rfl, by rw [cell_of_row _ _ _ _ _ _ hbx]; rfl, h'.keep hal⟩

set_option maxRecDepth 100000 in
set_option maxHeartbeats 4000000 in
theorem vertexM_c (b k : Nat) (a : Option Addr) (n cap : Nat) (hn : n ≤ 7) (w : World) (h : Cur w b k) (hk : k ≤ 700000000000) :
    Calls Try.prog 82 #[.pointer (some ⟨b, 0, none⟩), .slice a n cap] w (RetVx b (k + 100) w.heap.size w) := by
  have HC0 := hid h
  have hlt0 := h.lt
  obtain ⟨lo, hlo⟩ : ∃ lo, w.heap.size = lo := ⟨_, rfl⟩
  rw [hlo] at hlt0
  have HS0 : Hid (lo ≤ w.heap.size) := Nat.le_of_eq hlo.symm
  have HD0 : Hid (Dr b lo w w) := Dr.refl _ _ _
  have HLO := hid hlo
  clear h hlo
  have f1 : IntKind.i64.wrap ((n : Int) + 1) = (n : Int) + 1 := IntWalk.i64_in _ (by omega)
  have f2 : IntKind.i64.wrap ((n : Int) - 1) = (n : Int) - 1 := IntWalk.i64_in _ (by omega)
  rw [HLO.out]
  go_enter Try.func82, Try.ntmps82
  go_wp2_with fail
  refine (pick_c b k ((n : Int) + 1) _ HC0.out (by omega) (by omega)).mono ?_
  rintro e w1 ⟨y1, rfl, ⟨hy11, hy12⟩, hc1, ht1⟩
  have HC1 := hid (hc1.more (show _ ≤ (k + 2) by omega))
  have HD1 := hid (HD0.out.touch HS0.out ht1)
  have HS1 : Hid (lo ≤ w1.heap.size) := Nat.le_trans HS0.out ht1.size
  clear hc1 ht1
  go_wp2_with fail
  refine (pick_c b (k + 2) ((n : Int) + 1) _ HC1.out (by omega) (by omega)).mono ?_
  rintro e w2 ⟨y2, rfl, ⟨hy21, hy22⟩, hc2, ht2⟩
  have HC2 := hid (hc2.more (show _ ≤ (k + 4) by omega))
  have HD2 := hid (HD1.out.touch HS0.out ht2)
  have HS2 : Hid (lo ≤ w2.heap.size) := Nat.le_trans HS1.out ht2.size
  clear hc2 ht2
  have HLT := hid (ints_lit w2 w2.heap.size (Nat.le_refl _) [0, (n : Int), -1] (by simp)).r
  have HAL : Hid (Below w2.heap.size w2 _) := (Below.refl w2.heap.size w2).alloc (Nat.le_refl _) (.cells ([0, (n : Int), -1].map (.int .i64 ·)).toArray 3)
  go_wp2_with fail
  refine (among_c b (k + 4) _ [0, (n : Int), -1] _ (HC2.out.keep HAL.out) (by omega) HLT.out (by simp) (by simp) (fun p hp => by simp [Value.ownBlock] at hp; have := HS2.out; omega)).mono ?_
  rintro e w3 ⟨z, rfl, _, hc3, ht3⟩
  have HC3 := hid (hc3.more (show _ ≤ (k + 6) by omega))
  have HD3 := hid ((HD2.out.below (HAL.out.mono HS2.out)).touch HS0.out ht3)
  have HS3 : Hid (lo ≤ w3.heap.size) := Nat.le_trans (Nat.le_trans HS2.out HAL.out.size) ht3.size
  clear hc3 ht3 HLT HAL
  have HLT := hid (ints_lit w3 w3.heap.size (Nat.le_refl _) [0, y1, y2, (n : Int) - 1, z] (by simp)).r
  have HAL : Hid (Below w3.heap.size w3 _) := (Below.refl w3.heap.size w3).alloc (Nat.le_refl _) (.cells ([0, y1, y2, (n : Int) - 1, z].map (.int .i64 ·)).toArray 3)
  go_wp2_with fail
  refine (among_c b (k + 6) _ [0, y1, y2, (n : Int) - 1, z] _ (HC3.out.keep HAL.out) (by omega) HLT.out (by simp) (by simp) (fun p hp => by simp [Value.ownBlock] at hp; have := HS3.out; omega)).mono ?_
  rintro e w4 ⟨x, rfl, _, hc4, ht4⟩
  have HC4 := hid (hc4.more (show _ ≤ (k + 8) by omega))
  have HD4 := hid ((HD3.out.below (HAL.out.mono HS3.out)).touch HS0.out ht4)
  have HS4 : Hid (lo ≤ w4.heap.size) := Nat.le_trans (Nat.le_trans HS3.out HAL.out.size) ht4.size
  clear hc4 ht4 HLT HAL
  go_wp2
  go_ret
  exact ⟨x, rfl, HC4.out.more (by omega), HD4.out⟩

set_option maxRecDepth 100000 in
set_option maxHeartbeats 4000000 in
theorem DrawIsMetric_c (v : Value) (n : Nat) (w : World) (h : RBytes w v n) :
    Calls Try.prog 61 #[v] w (RetMD w) := by
  have HC := hid (cur_new h)
  obtain ⟨a, cap, rfl, _, _⟩ := h.form
  clear h
  obtain ⟨b, hb⟩ : ∃ b, w.heap.size = b := ⟨_, rfl⟩
  obtain ⟨w0, hw0⟩ : ∃ w0, w.alloc (.cells #[.slice a n cap, .int .i64 0, .int .u64 0] 66) = w0 := ⟨_, rfl⟩
  have HW0 := hid hw0
  have HC0 : Hid (Cur w0 b 0) := by show Cur _ _ _; rw [← hw0, ← hb]; exact HC.out
  have HB := hid hb
  obtain ⟨lo, hlo⟩ : ∃ lo, w0.heap.size = lo := ⟨_, rfl⟩
  have hlt0 := HC0.out.lt
  rw [hlo] at hlt0
  have HS0 : Hid (lo ≤ w0.heap.size) := Nat.le_of_eq hlo.symm
  have HD0 : Hid (Dr b lo w0 w0) := Dr.refl _ _ _
  have HFRESH : Hid (∀ w', Dr b lo w0 w' → Below w.heap.size w w') := fun w' hd => by
    rw [← hlo, ← hw0, ← hb] at hd; exact Dr.fresh hd
  clear hb hw0 HC hlo
  go_enter Try.func61, Try.ntmps61
  go_wp2_with fail
  rw [HB.out, HW0.out]
  refine (metric_c b 0 _ HC0.out (by omega)).mono ?_
  rintro e w1 ⟨vm, M, rfl, hm1, hm7, hmr, hM1, hc1, hd1⟩
  have HC1 := hid (hc1.more (show _ ≤ (0 + 3000) by omega))
  have HD1 := hid (HD0.out.trans (hd1.low HS0.out))
  have HS1 : Hid (lo ≤ w1.heap.size) := Nat.le_trans HS0.out hd1.size
  have M_1 := hid ((hM1.mono HS0.out))
  obtain ⟨am, nm, cm, rfl, HNM⟩ := hM1.form3
  have hnm : nm ≤ 7 := by rw [HNM.out]; exact hm7
  clear hM1
  clear hc1 hd1
  go_wp2_with fail
  refine (one_c b (0 + 3000) 16 _ HC1.out (by omega) (by omega)).mono ?_
  rintro e w2 ⟨x, rfl, hc2, ht2⟩
  have HC2 := hid (hc2.more (show _ ≤ (0 + 3002) by omega))
  have HD2 := hid (HD1.out.touch HS0.out ht2)
  have M_2 := hid (M_1.out.tch ht2 hlt0)
  have HS2 : Hid (lo ≤ w2.heap.size) := Nat.le_trans HS1.out ht2.size
  clear hc2 ht2
  cases x
  · go_wp2
    go_ret
    exact ⟨_, M, rfl, M_2.out.r, HFRESH.out _ HD2.out⟩
  · go_wp2_with fail
    refine (pick_c b (0 + 3002) 2 _ HC2.out (by omega) (by omega)).mono ?_
    rintro e w3 ⟨y, rfl, ⟨hy1, hy2⟩, hc3, ht3⟩
    have HC3 := hid (hc3.more (show _ ≤ (0 + 3004) by omega))
    have HD3 := hid (HD2.out.touch HS0.out ht3)
    have M_3 := hid (M_2.out.tch ht3 hlt0)
    have HS3 : Hid (lo ≤ w3.heap.size) := Nat.le_trans HS2.out ht3.size
    clear hc3 ht3
    have f1 : IntKind.i64.wrap (10000 + y) = 10000 + y := IntWalk.i64_in _ (by omega)
    have a1 : Below w3.heap.size w3 (w3.alloc (.cells #[.int .i64 0, .int .i64 (10000 + y)] 3)) := (Below.refl _ _).alloc (Nat.le_refl _) _
    obtain ⟨wa, hwa⟩ : ∃ wa : World, wa = w3.alloc (.cells #[.int .i64 0, .int .i64 (10000 + y)] 3) := ⟨_, rfl⟩
    have r1 : RInts wa (.slice (some ⟨w3.heap.size, 0, none⟩) 2 2) [0, 10000 + y] := by rw [hwa]; exact (ints_lit w3 w3.heap.size (Nat.le_refl _) [0, 10000 + y] (by simp)).r
    rw [← hwa] at a1
    have a2 : Below wa.heap.size wa (wa.alloc (.cells #[.int .i64 10000, .int .i64 0] 3)) := (Below.refl _ _).alloc (Nat.le_refl _) _
    obtain ⟨wc, hwc⟩ : ∃ wc : World, wc = wa.alloc (.cells #[.int .i64 10000, .int .i64 0] 3) := ⟨_, rfl⟩
    have r2 : RInts wc (.slice (some ⟨wa.heap.size, 0, none⟩) 2 2) [10000, 0] := by rw [hwc]; exact (ints_lit wa wa.heap.size (Nat.le_refl _) [10000, 0] (by simp)).r
    rw [← hwc] at a2
    obtain ⟨r3, a3⟩ := rmat_pair (r1.keep a2) r2
    have hbe := HFRESH.out _ (HD3.out.below ((a1.trans ((a2.trans (a3.mono a2.size)).mono a1.size)).mono HS3.out))
    have hsa : wa.heap.size = w3.heap.size + 1 := by rw [hwa]; simp
    have hsc : wc.heap.size = w3.heap.size + 1 + 1 := by rw [hwc]; simp [hsa]
    have HE := hid (And.intro r3 hbe)
    rw [hsc, hwc, hsa, hwa] at HE
    clear r1 r2 r3 a1 a2 a3 hbe hwa hwc hsa hsc
    go_wp2
    go_ret
    exact ⟨_, _, rfl, HE.out.1, HE.out.2⟩

set_option maxRecDepth 100000 in
set_option maxHeartbeats 1000000 in
theorem DrawUltraBelow_c (v : Value) (n : Nat) (w : World) (h : RBytes w v n) :
    Calls Try.prog 20 #[v] w (RetMD w) := by
  have HH := hid h
  obtain ⟨a, cap, rfl, _, _⟩ := h.form
  clear h
  go_enter Try.func20, Try.ntmps20
  go_wp2_with fail
  refine (DrawIsMetric_c _ n _ HH.out).mono ?_
  rintro e w1 ⟨u, M, rfl, hM, hb⟩
  have HF := hid (And.intro hM hb)
  obtain ⟨am, cm, rfl, -, -, -⟩ := id hM
  clear hM hb
  go_wp2
  go_ret
  exact ⟨_, M, rfl, HF.out.1, HF.out.2⟩

set_option maxRecDepth 100000 in
set_option maxHeartbeats 1000000 in
theorem DrawFirstBadFour_c (v : Value) (n : Nat) (w : World) (h : RBytes w v n) :
    Calls Try.prog 34 #[v] w (RetMD w) := by
  have HH := hid h
  obtain ⟨a, cap, rfl, _, _⟩ := h.form
  clear h
  go_enter Try.func34, Try.ntmps34
  go_wp2_with fail
  refine (DrawIsMetric_c _ n _ HH.out).mono ?_
  rintro e w1 ⟨u, M, rfl, hM, hb⟩
  have HF := hid (And.intro hM hb)
  obtain ⟨am, cm, rfl, -, -, -⟩ := id hM
  clear hM hb
  go_wp2
  go_ret
  exact ⟨_, M, rfl, HF.out.1, HF.out.2⟩

set_option maxRecDepth 100000 in
set_option maxHeartbeats 4000000 in
theorem DrawTwiceEnd_c (v : Value) (n : Nat) (w : World) (h : RBytes w v n) :
    Calls Try.prog 39 #[v] w (RetMDI w) := by
  have HC := hid (cur_new h)
  obtain ⟨a, cap, rfl, _, _⟩ := h.form
  clear h
  obtain ⟨b, hb⟩ : ∃ b, w.heap.size = b := ⟨_, rfl⟩
  obtain ⟨w0, hw0⟩ : ∃ w0, w.alloc (.cells #[.slice a n cap, .int .i64 0, .int .u64 0] 66) = w0 := ⟨_, rfl⟩
  have HW0 := hid hw0
  have HC0 : Hid (Cur w0 b 0) := by show Cur _ _ _; rw [← hw0, ← hb]; exact HC.out
  have HB := hid hb
  obtain ⟨lo, hlo⟩ : ∃ lo, w0.heap.size = lo := ⟨_, rfl⟩
  have hlt0 := HC0.out.lt
  rw [hlo] at hlt0
  have HS0 : Hid (lo ≤ w0.heap.size) := Nat.le_of_eq hlo.symm
  have HD0 : Hid (Dr b lo w0 w0) := Dr.refl _ _ _
  have HFRESH : Hid (∀ w', Dr b lo w0 w' → Below w.heap.size w w') := fun w' hd => by
    rw [← hlo, ← hw0, ← hb] at hd; exact Dr.fresh hd
  clear hb hw0 HC hlo
  go_enter Try.func39, Try.ntmps39
  go_wp2_with fail
  rw [HB.out, HW0.out]
  refine (metric_c b 0 _ HC0.out (by omega)).mono ?_
  rintro e w1 ⟨vm, M, rfl, hm1, hm7, hmr, hM1, hc1, hd1⟩
  have HC1 := hid (hc1.more (show _ ≤ (0 + 3000) by omega))
  have HD1 := hid (HD0.out.trans (hd1.low HS0.out))
  have HS1 : Hid (lo ≤ w1.heap.size) := Nat.le_trans HS0.out hd1.size
  have M_1 := hid ((hM1.mono HS0.out))
  obtain ⟨am, nm, cm, rfl, HNM⟩ := hM1.form3
  have hnm : nm ≤ 7 := by rw [HNM.out]; exact hm7
  clear hM1
  clear hc1 hd1
  go_wp2_with fail
  refine (vertexM_c b (0 + 3000) am nm cm hnm _ HC1.out (by omega)).mono ?_
  rintro e w2 ⟨x, rfl, hc2, hd2⟩
  have HC2 := hid (hc2.more (show _ ≤ (0 + 3100) by omega))
  have HD2 := hid (HD1.out.trans (hd2.low HS1.out))
  have M_2 := hid (M_1.out.dr hd2 hlt0)
  have HS2 : Hid (lo ≤ w2.heap.size) := Nat.le_trans HS1.out hd2.size
  clear hc2 hd2
  go_wp2
  go_ret2
  exact ⟨_, M, x, rfl, M_2.out.r, HFRESH.out _ HD2.out⟩

set_option maxRecDepth 100000 in
set_option maxHeartbeats 1000000 in
theorem DrawWithoutTaxon_c (v : Value) (n : Nat) (w : World) (h : RBytes w v n) :
    Calls Try.prog 31 #[v] w (RetMDI w) := by
  have HH := hid h
  obtain ⟨a, cap, rfl, _, _⟩ := h.form
  clear h
  go_enter Try.func31, Try.ntmps31
  go_wp2_with fail
  refine (DrawTwiceEnd_c _ n _ HH.out).mono ?_
  rintro e w1 ⟨u, M, i, rfl, hM, hb⟩
  have HF := hid (And.intro hM hb)
  obtain ⟨am, cm, rfl, -, -, -⟩ := id hM
  clear hM hb
  go_wp2
  go_ret2
  exact ⟨_, M, i, rfl, HF.out.1, HF.out.2⟩

set_option maxRecDepth 100000 in
set_option maxHeartbeats 4000000 in
theorem DrawFourSums_c (v : Value) (n : Nat) (w : World) (h : RBytes w v n) :
    Calls Try.prog 44 #[v] w (RetMD4 w) := by
  have HC := hid (cur_new h)
  obtain ⟨a, cap, rfl, _, _⟩ := h.form
  clear h
  obtain ⟨b, hb⟩ : ∃ b, w.heap.size = b := ⟨_, rfl⟩
  obtain ⟨w0, hw0⟩ : ∃ w0, w.alloc (.cells #[.slice a n cap, .int .i64 0, .int .u64 0] 66) = w0 := ⟨_, rfl⟩
  have HW0 := hid hw0
  have HC0 : Hid (Cur w0 b 0) := by show Cur _ _ _; rw [← hw0, ← hb]; exact HC.out
  have HB := hid hb
  obtain ⟨lo, hlo⟩ : ∃ lo, w0.heap.size = lo := ⟨_, rfl⟩
  have hlt0 := HC0.out.lt
  rw [hlo] at hlt0
  have HS0 : Hid (lo ≤ w0.heap.size) := Nat.le_of_eq hlo.symm
  have HD0 : Hid (Dr b lo w0 w0) := Dr.refl _ _ _
  have HFRESH : Hid (∀ w', Dr b lo w0 w' → Below w.heap.size w w') := fun w' hd => by
    rw [← hlo, ← hw0, ← hb] at hd; exact Dr.fresh hd
  clear hb hw0 HC hlo
  go_enter Try.func44, Try.ntmps44
  go_wp2_with fail
  rw [HB.out, HW0.out]
  refine (metric_c b 0 _ HC0.out (by omega)).mono ?_
  rintro e w1 ⟨vm, M, rfl, hm1, hm7, hmr, hM1, hc1, hd1⟩
  have HC1 := hid (hc1.more (show _ ≤ (0 + 3000) by omega))
  have HD1 := hid (HD0.out.trans (hd1.low HS0.out))
  have HS1 : Hid (lo ≤ w1.heap.size) := Nat.le_trans HS0.out hd1.size
  have M_1 := hid ((hM1.mono HS0.out))
  obtain ⟨am, nm, cm, rfl, HNM⟩ := hM1.form3
  have hnm : nm ≤ 7 := by rw [HNM.out]; exact hm7
  clear hM1
  clear hc1 hd1
  by_cases hn3 : (nm : Int) > 3
  · go_wp2_with fail
    refine (one_c b (0 + 3000) 4 _ HC1.out (by omega) (by omega)).mono ?_
    rintro e w2 ⟨x, rfl, hc2, ht2⟩
    have HC2 := hid (hc2.more (show _ ≤ (0 + 3002) by omega))
    have HD2 := hid (HD1.out.touch HS0.out ht2)
    have M_2 := hid (M_1.out.tch ht2 hlt0)
    have HS2 : Hid (lo ≤ w2.heap.size) := Nat.le_trans HS1.out ht2.size
    clear hc2 ht2
    cases x
    · have HLT := hid (ints_lit w2 w2.heap.size (Nat.le_refl _) [1, 2] (by simp)).r
      have HAL : Hid (Below w2.heap.size w2 _) := (Below.refl w2.heap.size w2).alloc (Nat.le_refl _) (.cells ([1, 2].map (.int .i64 ·)).toArray 3)
      go_wp2_with fail
      refine (among_c b (0 + 3002) _ [1, 2] _ (HC2.out.keep HAL.out) (by omega) HLT.out (by simp) (by simp) (fun p hp => by simp [Value.ownBlock] at hp; have := HS2.out; omega)).mono ?_
      rintro e w3 ⟨y1, rfl, _, hc3, ht3⟩
      have HC3 := hid (hc3.more (show _ ≤ (0 + 3004) by omega))
      have HD3 := hid ((HD2.out.below (HAL.out.mono HS2.out)).touch HS0.out ht3)
      have M_3 := hid (M_2.out.grw HAL.out |>.tch ht3 hlt0)
      have HS3 : Hid (lo ≤ w3.heap.size) := Nat.le_trans (Nat.le_trans HS2.out HAL.out.size) ht3.size
      clear hc3 ht3 HLT HAL
      have HLT := hid (ints_lit w3 w3.heap.size (Nat.le_refl _) [2, 1] (by simp)).r
      have HAL : Hid (Below w3.heap.size w3 _) := (Below.refl w3.heap.size w3).alloc (Nat.le_refl _) (.cells ([2, 1].map (.int .i64 ·)).toArray 3)
      go_wp2_with fail
      refine (among_c b (0 + 3004) _ [2, 1] _ (HC3.out.keep HAL.out) (by omega) HLT.out (by simp) (by simp) (fun p hp => by simp [Value.ownBlock] at hp; have := HS3.out; omega)).mono ?_
      rintro e w4 ⟨y2, rfl, _, hc4, ht4⟩
      have HC4 := hid (hc4.more (show _ ≤ (0 + 3006) by omega))
      have HD4 := hid ((HD3.out.below (HAL.out.mono HS3.out)).touch HS0.out ht4)
      have M_4 := hid (M_3.out.grw HAL.out |>.tch ht4 hlt0)
      have HS4 : Hid (lo ≤ w4.heap.size) := Nat.le_trans (Nat.le_trans HS3.out HAL.out.size) ht4.size
      clear hc4 ht4 HLT HAL
      go_wp2
      (try simp only [Exit.inBlock, Exit.then]); refine bodyPost_ret (results_tmp5m rfl _ _ _) rfl ?_
      exact ⟨_, M, 0, y1, 3, y2, rfl, M_4.out.r, HFRESH.out _ HD4.out⟩
    · go_wp2_with fail
      refine (vertexM_c b (0 + 3002) am nm cm hnm _ HC2.out (by omega)).mono ?_
      rintro e w3 ⟨x1, rfl, hc3, hd3⟩
      have HC3 := hid (hc3.more (show _ ≤ (0 + 3102) by omega))
      have HD3 := hid (HD2.out.trans (hd3.low HS2.out))
      have M_3 := hid (M_2.out.dr hd3 hlt0)
      have HS3 : Hid (lo ≤ w3.heap.size) := Nat.le_trans HS2.out hd3.size
      clear hc3 hd3
      go_wp2_with fail
      refine (vertexM_c b (0 + 3102) am nm cm hnm _ HC3.out (by omega)).mono ?_
      rintro e w4 ⟨x2, rfl, hc4, hd4⟩
      have HC4 := hid (hc4.more (show _ ≤ (0 + 3202) by omega))
      have HD4 := hid (HD3.out.trans (hd4.low HS3.out))
      have M_4 := hid (M_3.out.dr hd4 hlt0)
      have HS4 : Hid (lo ≤ w4.heap.size) := Nat.le_trans HS3.out hd4.size
      clear hc4 hd4
      go_wp2_with fail
      refine (vertexM_c b (0 + 3202) am nm cm hnm _ HC4.out (by omega)).mono ?_
      rintro e w5 ⟨x3, rfl, hc5, hd5⟩
      have HC5 := hid (hc5.more (show _ ≤ (0 + 3302) by omega))
      have HD5 := hid (HD4.out.trans (hd5.low HS4.out))
      have M_5 := hid (M_4.out.dr hd5 hlt0)
      have HS5 : Hid (lo ≤ w5.heap.size) := Nat.le_trans HS4.out hd5.size
      clear hc5 hd5
      go_wp2_with fail
      refine (vertexM_c b (0 + 3302) am nm cm hnm _ HC5.out (by omega)).mono ?_
      rintro e w6 ⟨x4, rfl, hc6, hd6⟩
      have HC6 := hid (hc6.more (show _ ≤ (0 + 3402) by omega))
      have HD6 := hid (HD5.out.trans (hd6.low HS5.out))
      have M_6 := hid (M_5.out.dr hd6 hlt0)
      have HS6 : Hid (lo ≤ w6.heap.size) := Nat.le_trans HS5.out hd6.size
      clear hc6 hd6
      go_wp2
      (try simp only [Exit.inBlock, Exit.then]); refine bodyPost_ret (results_tmp5m rfl _ _ _) rfl ?_
      exact ⟨_, M, x1, x2, x3, x4, rfl, M_6.out.r, HFRESH.out _ HD6.out⟩
  · go_wp2_with fail
    refine (vertexM_c b (0 + 3000) am nm cm hnm _ HC1.out (by omega)).mono ?_
    rintro e w2 ⟨x1, rfl, hc2, hd2⟩
    have HC2 := hid (hc2.more (show _ ≤ (0 + 3100) by omega))
    have HD2 := hid (HD1.out.trans (hd2.low HS1.out))
    have M_2 := hid (M_1.out.dr hd2 hlt0)
    have HS2 : Hid (lo ≤ w2.heap.size) := Nat.le_trans HS1.out hd2.size
    clear hc2 hd2
    go_wp2_with fail
    refine (vertexM_c b (0 + 3100) am nm cm hnm _ HC2.out (by omega)).mono ?_
    rintro e w3 ⟨x2, rfl, hc3, hd3⟩
    have HC3 := hid (hc3.more (show _ ≤ (0 + 3200) by omega))
    have HD3 := hid (HD2.out.trans (hd3.low HS2.out))
    have M_3 := hid (M_2.out.dr hd3 hlt0)
    have HS3 : Hid (lo ≤ w3.heap.size) := Nat.le_trans HS2.out hd3.size
    clear hc3 hd3
    go_wp2_with fail
    refine (vertexM_c b (0 + 3200) am nm cm hnm _ HC3.out (by omega)).mono ?_
    rintro e w4 ⟨x3, rfl, hc4, hd4⟩
    have HC4 := hid (hc4.more (show _ ≤ (0 + 3300) by omega))
    have HD4 := hid (HD3.out.trans (hd4.low HS3.out))
    have M_4 := hid (M_3.out.dr hd4 hlt0)
    have HS4 : Hid (lo ≤ w4.heap.size) := Nat.le_trans HS3.out hd4.size
    clear hc4 hd4
    go_wp2_with fail
    refine (vertexM_c b (0 + 3300) am nm cm hnm _ HC4.out (by omega)).mono ?_
    rintro e w5 ⟨x4, rfl, hc5, hd5⟩
    have HC5 := hid (hc5.more (show _ ≤ (0 + 3400) by omega))
    have HD5 := hid (HD4.out.trans (hd5.low HS4.out))
    have M_5 := hid (M_4.out.dr hd5 hlt0)
    have HS5 : Hid (lo ≤ w5.heap.size) := Nat.le_trans HS4.out hd5.size
    clear hc5 hd5
    go_wp2
    (try simp only [Exit.inBlock, Exit.then]); refine bodyPost_ret (results_tmp5m rfl _ _ _) rfl ?_
    exact ⟨_, M, x1, x2, x3, x4, rfl, M_5.out.r, HFRESH.out _ HD5.out⟩

set_option maxRecDepth 100000 in
set_option maxHeartbeats 4000000 in
theorem DrawAddPendants_c (v : Value) (n : Nat) (w : World) (h : RBytes w v n) :
    Calls Try.prog 27 #[v] w (RetMDN w) := by
  have HC := hid (cur_new h)
  obtain ⟨a, cap, rfl, _, _⟩ := h.form
  clear h
  obtain ⟨b, hb⟩ : ∃ b, w.heap.size = b := ⟨_, rfl⟩
  obtain ⟨w0, hw0⟩ : ∃ w0, w.alloc (.cells #[.slice a n cap, .int .i64 0, .int .u64 0] 66) = w0 := ⟨_, rfl⟩
  have HW0 := hid hw0
  have HC0 : Hid (Cur w0 b 0) := by show Cur _ _ _; rw [← hw0, ← hb]; exact HC.out
  have HB := hid hb
  obtain ⟨lo, hlo⟩ : ∃ lo, w0.heap.size = lo := ⟨_, rfl⟩
  have hlt0 := HC0.out.lt
  rw [hlo] at hlt0
  have HS0 : Hid (lo ≤ w0.heap.size) := Nat.le_of_eq hlo.symm
  have HD0 : Hid (Dr b lo w0 w0) := Dr.refl _ _ _
  have HFRESH : Hid (∀ w', Dr b lo w0 w' → Below w.heap.size w w') := fun w' hd => by
    rw [← hlo, ← hw0, ← hb] at hd; exact Dr.fresh hd
  clear hb hw0 HC hlo
  go_enter Try.func27, Try.ntmps27
  go_wp2_with fail
  rw [HB.out, HW0.out]
  refine (metric_c b 0 _ HC0.out (by omega)).mono ?_
  rintro e w1 ⟨vm, M, rfl, hm1, hm7, hmr, hM1, hc1, hd1⟩
  have HC1 := hid (hc1.more (show _ ≤ (0 + 3000) by omega))
  have HD1 := hid (HD0.out.trans (hd1.low HS0.out))
  have HS1 : Hid (lo ≤ w1.heap.size) := Nat.le_trans HS0.out hd1.size
  have M_1 := hid ((hM1.mono HS0.out))
  obtain ⟨am, nm, cm, rfl, HNM⟩ := hM1.form3
  have hnm : nm ≤ 7 := by rw [HNM.out]; exact hm7
  clear hM1
  clear hc1 hd1
  obtain ⟨l1, hl1⟩ : ∃ l1, w1.heap.size = l1 := ⟨_, rfl⟩
  have HLL := hid hl1
  have hlt1 : b < l1 := by have := HS1.out; omega
  have HSB : Hid (l1 ≤ w1.heap.size) := Nat.le_of_eq hl1.symm
  clear hl1
  go_wp2
  go_loopg [6, 14] nm (fun gk out iv wr => ∃ (a : Option Addr) (p c : Nat) (xs : List Int), out = .slice a p c ∧ iv = .int .i64 p ∧ gk = nm - p ∧ p ≤ nm ∧ xs.length = p ∧ FInts wr l1 wr.heap.size (.slice a p c) xs ∧ Cur wr b (3000 + 8 * p) ∧ Dr b l1 w1 wr ∧ l1 ≤ wr.heap.size)
  case atStart => exact ⟨none, 0, 0, [], rfl, rfl, rfl, Nat.zero_le _, rfl, ints_nil _ _ _, HC1.out.more (by omega), Dr.refl _ _ _, HSB.out⟩
  case round =>
    obtain ⟨a3, p, c3, xs, rfl, rfl, rfl, hp, hlk, hF, hc, hd, hsz⟩ := hrel
    obtain ⟨wr, rfl⟩ : ∃ w' : World, w' = wr := ⟨_, rfl⟩
    have HFr := hid hF
    have HCr := hid hc
    have HDr := hid hd
    have HSr := hid hsz
    have HLK := hid hlk
    clear hF hc hd hsz hlk
    by_cases hlt : p < nm
    · have hltz : (p : Int) < (nm : Int) := by omega
      go_wp2_with fail
      refine (pick_c b (3000 + 8 * p) 20 _ HCr.out (by omega) (by omega)).mono ?_
      rintro e w2 ⟨y, rfl, ⟨hy1, hy2⟩, hc2, ht2⟩
      have HC2 := hid (hc2.more (show _ ≤ ((3000 + 8 * p) + 2) by omega))
      have HD2 := hid (HDr.out.touch HSB.out ht2)
      have F_2 := hid (HFr.out.tch ht2 hlt1)
      have HS2 : Hid (l1 ≤ w2.heap.size) := Nat.le_trans HSr.out ht2.size
      clear hc2 ht2
      have HLT := hid (ints_lit w2 w2.heap.size (Nat.le_refl _) [5, 10000, 10001, -1] (by simp)).r
      have HAL : Hid (Below w2.heap.size w2 _) := (Below.refl w2.heap.size w2).alloc (Nat.le_refl _) (.cells ([5, 10000, 10001, -1].map (.int .i64 ·)).toArray 3)
      go_wp2_with fail
      refine (among_c b ((3000 + 8 * p) + 2) _ [5, 10000, 10001, -1] _ (HC2.out.keep HAL.out) (by omega) HLT.out (by simp) (by simp) (fun p hp => by simp [Value.ownBlock] at hp; have := HS2.out; omega)).mono ?_
      rintro e w3 ⟨z, rfl, _, hc3, ht3⟩
      have HC3 := hid (hc3.more (show _ ≤ ((3000 + 8 * p) + 4) by omega))
      have HD3 := hid ((HD2.out.below (HAL.out.mono HS2.out)).touch HSB.out ht3)
      have F_3 := hid (F_2.out.grw HAL.out |>.tch ht3 hlt1)
      have HS3 : Hid (l1 ≤ w3.heap.size) := Nat.le_trans (Nat.le_trans HS2.out HAL.out.size) ht3.size
      clear hc3 ht3 HLT HAL
      have HLT := hid (ints_lit w3 w3.heap.size (Nat.le_refl _) [0, 0, 1, 3, y, z] (by simp)).r
      have HAL : Hid (Below w3.heap.size w3 _) := (Below.refl w3.heap.size w3).alloc (Nat.le_refl _) (.cells ([0, 0, 1, 3, y, z].map (.int .i64 ·)).toArray 3)
      go_wp2_with fail
      refine (among_c b ((3000 + 8 * p) + 4) _ [0, 0, 1, 3, y, z] _ (HC3.out.keep HAL.out) (by omega) HLT.out (by simp) (by simp) (fun p hp => by simp [Value.ownBlock] at hp; have := HS3.out; omega)).mono ?_
      rintro e w4 ⟨x, rfl, _, hc4, ht4⟩
      have HC4 := hid (hc4.more (show _ ≤ ((3000 + 8 * p) + 6) by omega))
      have HD4 := hid ((HD3.out.below (HAL.out.mono HS3.out)).touch HSB.out ht4)
      have F_4 := hid (F_3.out.grw HAL.out |>.tch ht4 hlt1)
      have HS4 : Hid (l1 ≤ w4.heap.size) := Nat.le_trans (Nat.le_trans HS3.out HAL.out.size) ht4.size
      clear hc4 ht4 HLT HAL
      go_wp2_with (at_builtin; (refine wpList_push_r (W0 := w4) rfl _ _ rfl l1 (.slice a3 p c3) xs x rfl rfl F_4.out (Below.refl _ _) HS4.out p HLK (by omega) (xs ++ [x]) (hid rfl) ?_))
      intro g7 c7 w7 hF7 hb7
      have HF7 := hid hF7
      have HD7 := hid (HD4.out.below hb7)
      have HC7 := hid (HC4.out.low (hb7.mono hlt1))
      have HS7 : Hid (l1 ≤ w7.heap.size) := Nat.le_trans HS4.out hb7.size
      clear hF7 hb7
      go_wp2
      go_roundg (nm - (p + 1))
      case rel => exact ⟨_, p + 1, _, xs ++ [x], rfl, by go_num, rfl, by omega, by rw [List.length_append, HLK.out]; rfl, HF7.out, HC7.out.more (by omega), HD7.out, HS7.out⟩
      case measure => omega
    · obtain rfl : nm = p := by omega
      have HCq := hid (HCr.out.more (show _ ≤ 3200 by omega))
      go_wp2_with fail
      refine (one_c b 3200 24 _ HCq.out (by omega) (by omega)).mono ?_
      rintro e w2 ⟨x, rfl, hc2, ht2⟩
      have HC2 := hid (hc2.more (show _ ≤ (3200 + 2) by omega))
      have HD2 := hid (HDr.out.touch HSB.out ht2)
      have F_2 := hid (HFr.out.tch ht2 hlt1)
      have HS2 : Hid (l1 ≤ w2.heap.size) := Nat.le_trans HSr.out ht2.size
      clear hc2 ht2
      cases x
      · have hdq : Dr b w1.heap.size w1 w2 := by rw [HLL.out]; exact HD2.out
        have HDX := hid (HD1.out.trans (hdq.low HS1.out))
        have HMX := hid (M_1.out.dr hdq hlt0)
        have HFX := hid F_2.out.r
        clear hdq
        go_wp2
        go_ret2
        exact ⟨_, M, _, xs, rfl, HMX.out.r, HFX.out, HFRESH.out _ HDX.out⟩
      · go_wp2_with (at_builtin; (refine wpList_push_r (W0 := w2) rfl _ _ rfl l1 (.slice a3 nm c3) xs 0 rfl rfl F_2.out (Below.refl _ _) HS2.out nm HLK (by omega) (xs ++ [0]) (hid rfl) ?_))
        intro g7 c7 w7 hF7 hb7
        have HF7 := hid hF7
        have HD7 := hid (HD2.out.below hb7)
        have HC7 := hid (HC2.out.low (hb7.mono hlt1))
        have HS7 : Hid (l1 ≤ w7.heap.size) := Nat.le_trans HS2.out hb7.size
        clear hF7 hb7
        have hdq : Dr b w1.heap.size w1 w7 := by rw [HLL.out]; exact HD7.out
        have HDX := hid (HD1.out.trans (hdq.low HS1.out))
        have HMX := hid (M_1.out.dr hdq hlt0)
        have HFX := hid HF7.out.r
        clear hdq
        go_wp2
        go_ret2
        exact ⟨_, M, _, (xs ++ [0]), rfl, HMX.out.r, HFX.out, HFRESH.out _ HDX.out⟩

end Go.Proofs.Ytcgcgmlonhganaa
