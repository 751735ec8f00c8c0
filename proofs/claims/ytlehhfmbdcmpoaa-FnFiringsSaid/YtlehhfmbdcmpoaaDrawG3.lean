/- DrawFireScript, DrawFireSet (printed by wip/drawg3.py). -/
import Derived.Test.YtlehhfmbdcmpoaaDrawG
import Derived.Test.YtlehhfmbdcmpoaaChipsD
namespace Go.Proofs.Ytlehhfmbdcmpoaa
open Go.RowKit
open Go.Lib (hid)

theorem OLinks.grw {w w' : World} {lo : Nat} {v : Value} {L : List Lnk} (h : OLinks w lo v L) (hb : Below w.heap.size w w') : OLinks w' lo v L := h.keep hb
theorem OLinks.tch {w w' : World} {lo b : Nat} {v : Value} {L : List Lnk} (h : OLinks w lo v L) (ht : Touch b (b + 1) w w') (hb : b < lo) : OLinks w' lo v L := h.touch ht hb
theorem results_tmp4 {fn : Func} {t u v x : Tmp} (h : fn.results = #[.tmp t, .tmp u, .tmp v, .tmp x]) (tmps : Array Value) (P : Program) (w : World) :
    (results fn tmps).run P w = .ok (.tuple #[tmps.getD t undef, tmps.getD u undef, tmps.getD v undef, tmps.getD x undef]) w := by
  simp [results, h]
/-- a drawn graph and two drawn lists -/
def RetGrNN (w : World) (e : Ending) (w' : World) : Prop := ∃ (n : Int) (v : Value) (L : List Lnk) (u : Value) (d : List Int) (x : Value) (s : List Int), e = .returned (.tuple #[.int .i64 n, v, u, x]) ∧ -1 ≤ n ∧ n ≤ 9 ∧ L.length ≤ 101 ∧ d.length ≤ 20 ∧ s.length ≤ 20 ∧ RLinks w' v L ∧ RInts w' u d ∧ RInts w' x s ∧ Below w.heap.size w w'

set_option maxRecDepth 100000 in
set_option maxHeartbeats 4000000 in
theorem DrawFireSet_c (v : Value) (n : Nat) (w : World) (h : RBytes w v n) :
    Calls Try.prog 35 #[v] w (RetGrNN w) := by
  have HC := hid (cur_new h)
  obtain ⟨a, cap, rfl, _, _⟩ := h.form
  clear h
  obtain ⟨b, hb⟩ : ∃ b, w.heap.size = b := ⟨_, rfl⟩
  obtain ⟨w0, hw0⟩ : ∃ w0, w.alloc (.cells #[.slice a n cap, .int .i64 0, .int .u64 0] 89) = w0 := ⟨_, rfl⟩
  have HW0 := hid hw0
  have HC0 : Hid (Cur w0 b 0) := by show Cur _ _ _; rw [← hw0, ← hb]; exact HC.out
  have HB := hid hb
  obtain ⟨lo, hlo⟩ : ∃ lo, w0.heap.size = lo := ⟨_, rfl⟩
  have hlt0 := HC0.out.lt
  rw [hlo] at hlt0
  have HS0 : Hid (lo ≤ w0.heap.size) := Nat.le_of_eq hlo.symm
  have HD0 : Hid (Dr b lo w0 w0) := Dr.refl _ _ _
  have HFRESH : Hid (∀ w', Dr b lo w0 w' → Below w.heap.size w w') := fun w' hd => by
    rw [← hlo, ← hw0, ← hb] at hd; exact Dr.fresh hd
  clear hb hw0 HC hlo
  go_enter Try.func35, Try.ntmps35
  go_wp2_with fail
  rw [HB.out, HW0.out]
  refine (anyGraph_c b 0 _ HC0.out (by omega)).mono ?_
  rintro e w1 ⟨n1, v1, L, rfl, hn1, hn2, hl, hO1, hc1, hd1⟩
  have HC1 := hid (hc1.more (show _ ≤ (0 + 3000) by omega))
  have HD1 := hid (HD0.out.trans (hd1.low HS0.out))
  have HS1 : Hid (lo ≤ w1.heap.size) := Nat.le_trans HS0.out hd1.size
  have L_1 := hid ((hO1.mono HS0.out))
  obtain ⟨al, nl, cl, rfl⟩ := hO1.form
  clear hO1
  clear hc1 hd1
  go_wp2_with fail
  refine (chipsD_c b (0 + 3000) n1 _ HC1.out (by omega) (by omega)).mono ?_
  rintro e w2 ⟨u2, ys, rfl, hyl, hF2, hc2, hd2⟩
  have HC2 := hid (hc2.more (show _ ≤ (0 + 3100) by omega))
  have HD2 := hid (HD1.out.trans (hd2.low HS1.out))
  have L_2 := hid (L_1.out.dr hd2 hlt0)
  have HS2 : Hid (lo ≤ w2.heap.size) := Nat.le_trans HS1.out hd2.size
  have G_2 := hid ((hF2.mono HS1.out (Nat.le_refl _)))
  obtain ⟨a5, n5, c5, rfl⟩ := hF2.form3
  clear hF2
  clear hc2 hd2
  go_wp2_with fail
  refine (vertices_c b (0 + 3100) n1 _ HC2.out (by omega) (by omega)).mono ?_
  rintro e w3 ⟨u3, xs, rfl, hxl, hF3, hc3, hd3⟩
  have HC3 := hid (hc3.more (show _ ≤ (0 + 3200) by omega))
  have HD3 := hid (HD2.out.trans (hd3.low HS2.out))
  have L_3 := hid (L_2.out.dr hd3 hlt0)
  have G_3 := hid (G_2.out.dr hd3 hlt0)
  have HS3 : Hid (lo ≤ w3.heap.size) := Nat.le_trans HS2.out hd3.size
  have F_3 := hid ((hF3.mono HS2.out (Nat.le_refl _)))
  obtain ⟨a6, n6, c6, rfl⟩ := hF3.form3
  clear hF3
  clear hc3 hd3
  go_wp2
  (try simp only [Exit.inBlock, Exit.then]); refine bodyPost_ret (results_tmp4 rfl _ _ _) rfl ?_
  exact ⟨n1, _, L, _, ys, _, xs, rfl, hn1, hn2, hl, hyl, hxl, L_3.out.r, G_3.out.r, F_3.out.r, HFRESH.out _ HD3.out⟩

set_option maxRecDepth 100000 in
set_option maxHeartbeats 4000000 in
theorem DrawFireScript_c (v : Value) (n : Nat) (w : World) (h : RBytes w v n) :
    Calls Try.prog 20 #[v] w (RetGrNN w) := by
  have HC := hid (cur_new h)
  obtain ⟨a, cap, rfl, _, _⟩ := h.form
  clear h
  obtain ⟨b, hb⟩ : ∃ b, w.heap.size = b := ⟨_, rfl⟩
  obtain ⟨w0, hw0⟩ : ∃ w0, w.alloc (.cells #[.slice a n cap, .int .i64 0, .int .u64 0] 89) = w0 := ⟨_, rfl⟩
  have HW0 := hid hw0
  have HC0 : Hid (Cur w0 b 0) := by show Cur _ _ _; rw [← hw0, ← hb]; exact HC.out
  have HB := hid hb
  obtain ⟨lo, hlo⟩ : ∃ lo, w0.heap.size = lo := ⟨_, rfl⟩
  have hlt0 := HC0.out.lt
  rw [hlo] at hlt0
  have HS0 : Hid (lo ≤ w0.heap.size) := Nat.le_of_eq hlo.symm
  have HD0 : Hid (Dr b lo w0 w0) := Dr.refl _ _ _
  have HFRESH : Hid (∀ w', Dr b lo w0 w' → Below w.heap.size w w') := fun w' hd => by
    rw [← hlo, ← hw0, ← hb] at hd; exact Dr.fresh hd
  clear hb hw0 HC hlo
  go_enter Try.func20, Try.ntmps20
  go_wp2_with fail
  rw [HB.out, HW0.out]
  refine (anyGraph_c b 0 _ HC0.out (by omega)).mono ?_
  rintro e w1 ⟨n1, v1, L, rfl, hn1, hn2, hl, hO1, hc1, hd1⟩
  have HC1 := hid (hc1.more (show _ ≤ (0 + 3000) by omega))
  have HD1 := hid (HD0.out.trans (hd1.low HS0.out))
  have HS1 : Hid (lo ≤ w1.heap.size) := Nat.le_trans HS0.out hd1.size
  have L_1 := hid ((hO1.mono HS0.out))
  obtain ⟨al, nl, cl, rfl⟩ := hO1.form
  clear hO1
  clear hc1 hd1
  obtain ⟨l1, hl1⟩ : ∃ l1, w1.heap.size = l1 := ⟨_, rfl⟩
  have HLL := hid hl1
  have hlt1 : b < l1 := by have := HS1.out; omega
  have HSB : Hid (l1 ≤ w1.heap.size) := Nat.le_of_eq hl1.symm
  have HLL1 : Hid (lo ≤ l1) := by show _ ≤ _; rw [← hl1]; exact HS1.out
  clear hl1
  go_wp2
  go_loopg [9] 12 (fun gk out wr => ∃ (a : Option Addr) (p c : Nat) (xs : List Int), out = .slice a p c ∧ gk = 12 - p ∧ p ≤ 10 ∧ xs.length = p ∧ FInts wr l1 wr.heap.size (.slice a p c) xs ∧ Cur wr b (3000 + 8 * p) ∧ Dr b l1 w1 wr ∧ l1 ≤ wr.heap.size)
  case atStart => exact ⟨none, 0, 0, [], rfl, rfl, by omega, rfl, ints_nil _ _ _, HC1.out.more (by omega), Dr.refl _ _ _, HSB.out⟩
  case round =>
    obtain ⟨a3, p, c3, xs, rfl, rfl, hp, hlk, hF, hc, hd, hsz⟩ := hrel
    have HFr := hid hF
    have HCr := hid hc
    have HDr := hid hd
    have HSr := hid hsz
    have HLK := hid hlk
    clear hF hc hd hsz hlk
    by_cases hlt : (p : Int) < n1
    · have HLT := hid (ints_lit wr wr.heap.size (Nat.le_refl _) [3, 3, 3, 21, -21] (by simp)).r
      have HAL : Hid (Below wr.heap.size wr _) := (Below.refl wr.heap.size wr).alloc (Nat.le_refl _) (.cells ([3, 3, 3, 21, -21].map (.int .i64 ·)).toArray 3)
      go_wp2_with fail
      refine (among_c b (3000 + 8 * p) _ [3, 3, 3, 21, -21] _ (HCr.out.keep HAL.out) (by omega) HLT.out (by simp) (by simp) (fun p hp => by simp [Value.ownBlock] at hp; have := HSr.out; omega)).mono ?_
      rintro e w2 ⟨y, rfl, _, hc2, ht2⟩
      have HC2 := hid (hc2.more (show _ ≤ ((3000 + 8 * p) + 2) by omega))
      have HD2 := hid ((HDr.out.below (HAL.out.mono HSr.out)).touch HSB.out ht2)
      have F_2 := hid (HFr.out.grw HAL.out |>.tch ht2 hlt1)
      have HS2 : Hid (l1 ≤ w2.heap.size) := Nat.le_trans (Nat.le_trans HSr.out HAL.out.size) ht2.size
      clear hc2 ht2 HLT HAL
      have HLT := hid (ints_lit w2 w2.heap.size (Nat.le_refl _) [0, 1, 1, 2, -1, 20, -20, y] (by simp)).r
      have HAL : Hid (Below w2.heap.size w2 _) := (Below.refl w2.heap.size w2).alloc (Nat.le_refl _) (.cells ([0, 1, 1, 2, -1, 20, -20, y].map (.int .i64 ·)).toArray 3)
      go_wp2_with fail
      refine (among_c b ((3000 + 8 * p) + 2) _ [0, 1, 1, 2, -1, 20, -20, y] _ (HC2.out.keep HAL.out) (by omega) HLT.out (by simp) (by simp) (fun p hp => by simp [Value.ownBlock] at hp; have := HS2.out; omega)).mono ?_
      rintro e w3 ⟨z, rfl, _, hc3, ht3⟩
      have HC3 := hid (hc3.more (show _ ≤ ((3000 + 8 * p) + 4) by omega))
      have HD3 := hid ((HD2.out.below (HAL.out.mono HS2.out)).touch HSB.out ht3)
      have F_3 := hid (F_2.out.grw HAL.out |>.tch ht3 hlt1)
      have HS3 : Hid (l1 ≤ w3.heap.size) := Nat.le_trans (Nat.le_trans HS2.out HAL.out.size) ht3.size
      clear hc3 ht3 HLT HAL
      go_wp2_with (at_builtin; (refine wpList_push_r (W0 := w3) rfl _ _ rfl l1 (.slice a3 p c3) xs z rfl rfl F_3.out (Below.refl _ _) HS3.out p HLK (by omega) (xs ++ [z]) (hid rfl) ?_))
      intro g7 c7 w7 hF7 hb7
      have HF7 := hid hF7
      have HD7 := hid (HD3.out.below hb7)
      have HC7 := hid (HC3.out.low (hb7.mono hlt1))
      have HS7 : Hid (l1 ≤ w7.heap.size) := Nat.le_trans HS3.out hb7.size
      clear hF7 hb7
      go_wp2
      go_roundg (12 - (p + 1))
      case rel => exact ⟨_, p + 1, _, xs ++ [z], rfl, rfl, by omega, by rw [List.length_append, HLK.out]; rfl, HF7.out, HC7.out.more (by omega), HD7.out, HS7.out⟩
      case measure => omega
    · have HCq := hid (HCr.out.more (show _ ≤ 3200 by omega))
      go_wp2_with fail
      refine (one_c b 3200 24 _ HCq.out (by omega) (by omega)).mono ?_
      rintro e w2 ⟨x, rfl, hc2, ht2⟩
      have HC2 := hid (hc2.more (show _ ≤ (3200 + 2) by omega))
      have HD2 := hid (HDr.out.touch HSB.out ht2)
      have F_2 := hid (HFr.out.tch ht2 hlt1)
      have HS2 : Hid (l1 ≤ w2.heap.size) := Nat.le_trans HSr.out ht2.size
      clear hc2 ht2
      cases x
      · have hdq : Dr b w1.heap.size w1 w2 := by rw [HLL.out]; exact HD2.out
        have HDX := hid (HD1.out.trans (hdq.low HS1.out))
        have HLX := hid (L_1.out.dr hdq hlt0)
        have HFX := hid (F_2.out.mono HLL1.out (Nat.le_refl _))
        have HSX : Hid (lo ≤ w2.heap.size) := Nat.le_trans HLL1.out HS2.out
        clear hdq
        go_wp2_with fail
        refine (chipsD_c b (3200 + 2) n1 _ HC2.out (by omega) (by omega)).mono ?_
        rintro e w3 ⟨u3, ys, rfl, hyl, hF3, hc3, hd3⟩
        have HC3 := hid (hc3.more (show _ ≤ (3200 + 102) by omega))
        have HD3 := hid (HDX.out.trans (hd3.low HSX.out))
        have F_3 := hid (HFX.out.dr hd3 hlt0)
        have L_3 := hid (HLX.out.dr hd3 hlt0)
        have HS3 : Hid (lo ≤ w3.heap.size) := Nat.le_trans HSX.out hd3.size
        have G_3 := hid ((hF3.mono HSX.out (Nat.le_refl _)))
        obtain ⟨a5, n5, c5, rfl⟩ := hF3.form3
        clear hF3
        clear hc3 hd3
        go_wp2
        (try simp only [Exit.inBlock, Exit.then]); refine bodyPost_ret (results_tmp4 rfl _ _ _) rfl ?_
        exact ⟨n1, _, L, _, ys, _, xs, rfl, hn1, hn2, hl, hyl, (by rw [HLK.out]; omega), L_3.out.r, G_3.out.r, F_3.out.r, HFRESH.out _ HD3.out⟩
      · go_wp2_with (at_builtin; (refine wpList_push_r (W0 := w2) rfl _ _ rfl l1 (.slice a3 p c3) xs 0 rfl rfl F_2.out (Below.refl _ _) HS2.out p HLK (by omega) (xs ++ [0]) (hid rfl) ?_))
        intro g7 c7 w7 hF7 hb7
        have HF7 := hid hF7
        have HD7 := hid (HD2.out.below hb7)
        have HC7 := hid (HC2.out.low (hb7.mono hlt1))
        have HS7 : Hid (l1 ≤ w7.heap.size) := Nat.le_trans HS2.out hb7.size
        clear hF7 hb7
        have hdq : Dr b w1.heap.size w1 w7 := by rw [HLL.out]; exact HD7.out
        have HDX := hid (HD1.out.trans (hdq.low HS1.out))
        have HLX := hid (L_1.out.dr hdq hlt0)
        have HFX := hid (HF7.out.mono HLL1.out (Nat.le_refl _))
        have HSX : Hid (lo ≤ w7.heap.size) := Nat.le_trans HLL1.out HS7.out
        clear hdq
        go_wp2_with fail
        refine (chipsD_c b (3200 + 2) n1 _ HC7.out (by omega) (by omega)).mono ?_
        rintro e w3 ⟨u3, ys, rfl, hyl, hF3, hc3, hd3⟩
        have HC3 := hid (hc3.more (show _ ≤ (3200 + 102) by omega))
        have HD3 := hid (HDX.out.trans (hd3.low HSX.out))
        have F_3 := hid (HFX.out.dr hd3 hlt0)
        have L_3 := hid (HLX.out.dr hd3 hlt0)
        have HS3 : Hid (lo ≤ w3.heap.size) := Nat.le_trans HSX.out hd3.size
        have G_3 := hid ((hF3.mono HSX.out (Nat.le_refl _)))
        obtain ⟨a5, n5, c5, rfl⟩ := hF3.form3
        clear hF3
        clear hc3 hd3
        go_wp2
        (try simp only [Exit.inBlock, Exit.then]); refine bodyPost_ret (results_tmp4 rfl _ _ _) rfl ?_
        exact ⟨n1, _, L, _, ys, _, (xs ++ [0]), rfl, hn1, hn2, hl, hyl, (by rw [List.length_append, HLK.out]; simp; omega), L_3.out.r, G_3.out.r, F_3.out.r, HFRESH.out _ HD3.out⟩

end Go.Proofs.Ytlehhfmbdcmpoaa
