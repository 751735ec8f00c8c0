/- Reduced divisors: the program's reduce. -/
import Derived.Test.YtlehhfmbdcmpoaaReduce
import Derived.Test.YtlehhfmbdcmpoaaFire
import Derived.Test.YtlehhfmbdcmpoaaOwn
namespace Go.Proofs.Ytlehhfmbdcmpoaa
open Go.RowKit
open Go.Lib (hid)

theorem fire_none (G : Gr) (f : Nat → Int) (v : Nat) : G.fire f v 0 = f := funext fun u => by unfold Gr.fire; rw [Int.zero_mul, Int.sub_zero]
theorem fire_more (G : Gr) (f : Nat → Int) (v : Nat) (a b : Int) : G.fire (G.fire f v a) v b = G.fire f v (a + b) := funext fun u => by
  unfold Gr.fire; rw [Int.add_mul]; omega
/-- how often a vertex borrows -/
def lend (G : Gr) (q : Nat) (f : Nat → Int) (v : Nat) : Nat := if v ≠ q ∧ f v < 0 then (G.times f v).toNat else 0
theorem lend_bor {n q : Nat} {L : List Lnk} {hG : GoodL n L} (W : (grL n L hG).Wt q) {f : Nat → Int} {v : Nat} (hv : v < n) : (grL n L hG).bor q f v = (grL n L hG).fire f v (- (lend (grL n L hG) q f v : Int)) := by
  unfold Gr.bor lend
  by_cases hc : v ≠ q ∧ f v < 0
  · rw [if_pos hc, if_pos hc]
    have := (Gr.times_spec (G := grL n L hG) (W.val_pos (v := v) hv hc.1) hc.2).1
    rw [Int.toNat_of_nonneg (by omega)]
  · rw [if_neg hc, if_neg hc]
    exact (fire_none _ _ _).symm
theorem lend_iff {n q : Nat} {L : List Lnk} {hG : GoodL n L} (W : (grL n L hG).Wt q) {f : Nat → Int} {v j : Nat} (hv : v < n) (hq : v ≠ q) (hj : j ≤ lend (grL n L hG) q f v) : (grL n L hG).fire f v (- (j : Int)) v < 0 ↔ j < lend (grL n L hG) q f v := by
  rw [Gr.fire_self, Int.neg_mul]
  have hv1 := W.val_pos (v := v) hv hq
  obtain ⟨T, hT⟩ : ∃ T, lend (grL n L hG) q f v = T := ⟨_, rfl⟩
  rw [hT] at hj ⊢
  unfold lend at hT
  by_cases hc : f v < 0
  · rw [if_pos ⟨hq, hc⟩] at hT
    obtain ⟨t1, t2, t3⟩ := Gr.times_spec (G := grL n L hG) hv1 hc
    obtain ⟨c, hcc⟩ : ∃ c, (grL n L hG).val v = c := ⟨_, rfl⟩
    obtain ⟨t, htt⟩ : ∃ t, (grL n L hG).times f v = t := ⟨_, rfl⟩
    rw [htt] at hT t1 t2 t3
    rw [hcc] at t2 t3 hv1 ⊢
    have hTt : (T : Int) = t := by omega
    constructor
    · intro h
      by_cases e : j = T
      · exfalso; rw [e, hTt] at h; omega
      · omega
    · intro h
      have h1 : (j : Int) ≤ t - 1 := by omega
      have h2 : (j : Int) * c ≤ (t - 1) * c := Int.mul_le_mul_of_nonneg_right h1 (by omega)
      rw [Int.sub_mul, Int.one_mul] at h2
      omega
  · rw [if_neg (fun h => hc h.2)] at hT
    have hj0 : j = 0 := by omega
    rw [hj0]
    simp
    omega
theorem lend_sink {G : Gr} {q : Nat} {f : Nat → Int} : lend G q f q = 0 := by unfold lend; rw [if_neg]; exact fun h => h.1 rfl
theorem lend_small {n q : Nat} {L : List Lnk} {hG : GoodL n L} (W : (grL n L hG).Wt q) {f : Nat → Int} {v : Nat} (hv : v < n) (hf : -600 ≤ f v) : lend (grL n L hG) q f v ≤ 700 := by
  unfold lend
  by_cases hc : v ≠ q ∧ f v < 0
  · rw [if_pos hc]
    have hv1 := W.val_pos (v := v) hv hc.1
    have hv2 := (grL n L hG).val_le v hv
    obtain ⟨t1, t2, t3⟩ := Gr.times_spec (G := grL n L hG) hv1 hc.2
    obtain ⟨c, hcc⟩ : ∃ c, (grL n L hG).val v = c := ⟨_, rfl⟩
    obtain ⟨t, htt⟩ : ∃ t, (grL n L hG).times f v = t := ⟨_, rfl⟩
    rw [htt] at t1 t2 t3 ⊢
    rw [hcc] at t2 t3 hv1 hv2
    have h1 : t * 1 ≤ t * c := Int.mul_le_mul_of_nonneg_left hv1 (by omega)
    omega
  · rw [if_neg hc]; exact Nat.zero_le _
theorem hasB_marks (n : Nat) (b : Nat → Bool) : hasB (lst n (bI b)) 0 = decide (Gr.unm b n ≠ 0) := by
  unfold hasB
  rw [Bool.eq_iff_iff, decide_eq_true_iff, List.any_eq_true]
  constructor
  · rintro ⟨x, hx, hx0⟩ h
    obtain ⟨i, hi, rfl⟩ := mem_lst.1 hx
    have := Gr.unm_zero.1 h i hi
    unfold bI at hx0
    rw [if_pos this] at hx0
    exact absurd hx0 (by decide)
  · intro h
    apply Classical.byContradiction
    intro hn
    refine h (Gr.unm_zero.2 fun v hv => ?_)
    cases e : b v with
    | true => rfl
    | false =>
      exact (hn ⟨bI b v, mem_lst.2 ⟨v, hv, rfl⟩, by unfold bI; rw [if_neg (by rw [e]; decide)]; rfl⟩).elim

set_option maxRecDepth 100000 in
set_option maxHeartbeats 4000000 in
theorem reduce_c (n q : Nat) (p u : Value) (L : List Lnk) (f : Nat → Int) (S : Int) (w : World) (hG : GoodL n L) (hp : RG w p n L) (W : (grL n L hG).Wt q) (hd : RInts w u (lst n f)) (hq : q < n) (hI : Gr.Inv1 (grL n L hG) S f) (hS : -320 ≤ S ∧ S ≤ 320) :
    Calls Try.prog 195 #[p, u, .int .i64 q] w (RetRed w (lst n (Gr.red W f))) := by
  have HP := hid hp
  have HD := hid hd
  have hn8 := hG.n8
  have hn1 := hG.n1
  obtain ⟨gp, bt, vt, rfl, c0, _, _, _, _, _⟩ := hp
  obtain ⟨gd, od, cd, rfl, hcd1, hcd2, _⟩ := ri_open hd (by omega)
  have HG := hid hG
  have HI := hid hI
  have HGN : Hid ((grL n L HG.out).n = n) := rfl
  have hmk := run_make_row' (P := Try.prog) 23 3 (.int .i64 0) 8 Try.underlying23 Try.infoInt rfl .i64 .i64 n (by omega) (by omega)
  have hll : (lst n f).length ≤ 1048576 := by rw [lst_len]; omega
  have HDA : Hid (RInts w.drew (.slice (some ⟨gd, od, none⟩) n cd) (lst n f)) := HD.out
  have HDB : Hid (RInts (w.alloc (.cells (madeCells #[.int .i64 0] n) 3)).drew (.slice (some ⟨gd, od, none⟩) n cd) (lst n f)) := HD.out.keep ((Below.refl w.heap.size w).alloc (Nat.le_refl _) _).drew
  have HC0 := hid c0
  have d0 : ∀ wO : World, Below w.drew.heap.size w.drew wO → wO.cell? ⟨gp, 0, none⟩ = some (.int .i64 n) := fun wO hb => ((below_of_drew hb).cell (p := ⟨gp, 0, none⟩) (cell_lt HC0.out)).trans HC0.out
  have HDD := hid d0
  clear hd hI d0
  go_enter Try.func195, Try.ntmps195
  go_wp2
  go_region_with (first
    | (go_at_call 178; (with_reducible refine (clone_c _ (lst n f) _ HDA.out hll).mono ?_); rintro e wO ⟨uO, rfl, hFO, hbO⟩; have d1 := HDD.out _ hbO)
    | (go_at_call 178; (with_reducible refine (clone_c _ (lst n f) _ HDB.out hll).mono ?_); rintro e wO ⟨uO, rfl, hFO, hbO⟩))

  -- A
  · go_wp2
    obtain ⟨w2, hw2⟩ : ∃ w2 : World, w2 = wO.alloc (.cells (madeCells #[.int .i64 0] n) 3) := ⟨_, rfl⟩
    have hbO' : Below w.heap.size w wO := below_of_drew hbO
    have hal : Below wO.heap.size wO w2 := by rw [hw2]; exact (Below.refl _ _).alloc (Nat.le_refl _) _
    have hFO1 : FInts wO w.heap.size wO.heap.size uO (lst n f) := hFO
    obtain ⟨gO, cO, rfl, hlo, hhi⟩ := fi_form hFO1 (by omega)
    have hFO2 := hFO1.keep hal
    have hFS : FInts w2 wO.heap.size (wO.heap.size + 1) (.slice (some ⟨wO.heap.size, 0, none⟩) n n) (lst n (fun _ => 0)) := by rw [hw2]; exact fi_made wO n (by omega)
    have hbw2 : Below w.heap.size w w2 := hbO'.trans (hal.mono hbO'.size)
    have hszz := hbO'.size
    have hs2 : wO.heap.size + 1 ≤ w2.heap.size := by rw [hw2]; simp
    obtain ⟨gB, hgB⟩ : ∃ gB, gB = wO.heap.size := ⟨_, rfl⟩
    obtain ⟨loO, hloO⟩ : ∃ lo, lo = w.heap.size := ⟨_, rfl⟩
    obtain ⟨hiO, hhiO⟩ : ∃ lo, lo = wO.heap.size := ⟨_, rfl⟩
    have HX : Hid (FInts w2 loO hiO (.slice (some ⟨gO, 0, none⟩) n cO) (lst n f) ∧ FInts w2 gB (gB + 1) (.slice (some ⟨gB, 0, none⟩) n n) (lst n (fun _ => 0)) ∧ Below w.heap.size w w2) := ⟨by rw [hloO, hhiO]; exact hFO2, by rw [hgB]; exact hFS, hbw2⟩
    have hdis : (hiO ≤ gB ∨ gB + 1 ≤ loO) ∧ w.heap.size ≤ loO ∧ w.heap.size ≤ gB ∧ hiO ≤ w2.heap.size ∧ gB + 1 ≤ w2.heap.size := by omega
    rw [← hw2, ← hgB]
    clear hFO hFO1 hFO2 hFS hbw2 hal hbO hbO' hw2 hgB hloO hhiO hs2 hszz hmk
    obtain ⟨hdj, hd1, hd2, hd3, hd4⟩ := hdis
    have hdj' : hiO ≤ gB ∨ gB + 1 ≤ loO := hdj
    have hdj : gB + 1 ≤ loO ∨ hiO ≤ gB := hdj'.symm
    clear HDA HDB
    simp only [Act.put, List.getElem_cons_succ, List.getElem_cons_zero, List.getElem_toArray, List.setIfInBounds_toArray, List.set_cons_succ, List.set_cons_zero]
    clear HDD
    go_loopg [10] (Gr.mu1 W f) (fun gk vv wr => ∃ (g s : Nat → Int) (z : Value), vv = z ∧ Gr.Inv1 (grL n L HG.out) S g ∧ gk = Gr.mu1 W g ∧ Gr.pay W f = Gr.loopW ((grL n L HG.out).owes q) ((grL n L HG.out).p1 q) (Gr.mu1 W g) g ∧
      FInts wr loO hiO (.slice (some ⟨gO, 0, none⟩) n cO) (lst n g) ∧ FInts wr gB (gB + 1) (.slice (some ⟨gB, 0, none⟩) n n) (lst n s) ∧ Below w.heap.size w wr ∧ w2.heap.size ≤ wr.heap.size)
    case atStart => exact ⟨f, fun _ => 0, _, rfl, HI.out, rfl, rfl, HX.out.1, HX.out.2.1, HX.out.2.2, Nat.le_refl _⟩
    case round =>
      obtain ⟨g, s, z, rfl, hinv, rfl, htot, hF, hFs, hb, hsw⟩ := hrel
      obtain ⟨wo, rfl⟩ : ∃ wo : World, wo = wr := ⟨_, rfl⟩
      have HINV := hid hinv
      have HTOT := hid htot
      have HF := hid hF
      have HFS := hid hFs
      have HBW := hid hb
      have hro := hF.r
      have c3 := (hb.cell (p := ⟨gp, 0, none⟩) (cell_lt HC0.out)).trans HC0.out
      clear hinv htot hFs hb HX hF
      rcases Bool.eq_false_or_eq_true ((grL n L HG.out).owes q g) with how | how
      · obtain ⟨st1, st2, st3⟩ := pay_step W HINV.out how
        have HST := hid (And.intro st1 (And.intro st2 st3))
        clear st1 st2 st3
        go_wp2_with (go_at_call 209; (with_reducible refine (hasDebtBut_c n q _ g (grL n L HG.out) HGN _ hro).mono ?_); rintro e w' ⟨rfl, rfl⟩; rw [how])
        clear hro how c3
        go_loopg [10, 28] n (fun gk v1 vv wr => ∃ (k : Nat) (s : Nat → Int) (z : Value), v1 = z ∧ k ≤ n ∧ gk = n - k ∧ vv = .int .i64 k ∧ FInts wr loO hiO (.slice (some ⟨gO, 0, none⟩) n cO) (lst n ((grL n L HG.out).p1N q k g)) ∧ FInts wr gB (gB + 1) (.slice (some ⟨gB, 0, none⟩) n n) (lst n s) ∧ Below w.heap.size w wr ∧ w2.heap.size ≤ wr.heap.size)
        case atStart => exact ⟨0, s, _, rfl, Nat.zero_le _, rfl, rfl, HF.out, HFS.out, HBW.out, hsw⟩
        case round =>
          obtain ⟨k, s1, z1, rfl, hk, rfl, rfl, hF, hFs, hb, hsw1⟩ := hrel
          obtain ⟨wi, rfl⟩ : ∃ wi : World, wi = wr := ⟨_, rfl⟩
          have HFS1 := hid hFs
          have HBW1 := hid hb
          have HFW := hid hF
          clear HF HFS HBW
          by_cases hlt : k < n
          · obtain ⟨g1, hg1⟩ : ∃ g1, (grL n L HG.out).p1N q k g = g1 := ⟨_, rfl⟩
            have hnext : (grL n L HG.out).p1N q (k + 1) g = (grL n L HG.out).bor q g1 k := by rw [← hg1]; rfl
            have hinv1 : Gr.Inv1 (grL n L HG.out) S g1 := by rw [← hg1]; exact Gr.p1N_inv W HINV.out k hk
            rw [hg1] at HFW
            rw [lend_bor W hlt] at hnext
            have hrange := fun i (hi : i < n) => inv1_range hinv1 hS hi
            have hsmall := lend_small W hlt (hrange k hlt).1
            have hiff := fun j hj (hkq : k ≠ q) => lend_iff W (f := g1) (j := j) hlt hkq hj
            have hsink : k = q → lend (grL n L HG.out) q g1 k = 0 := fun e => by rw [e]; exact lend_sink
            obtain ⟨T, hT⟩ : ∃ T, lend (grL n L HG.out) q g1 k = T := ⟨_, rfl⟩
            rw [hT] at hnext hsmall hiff hsink
            have HNEXT := hid hnext
            have HRA := hid hrange
            have HIFF := hid hiff
            have HSINK := hid hsink
            have hkz : (k : Int) < (n : Int) := by omega
            clear hg1 hnext hinv1 hF hFs hb hrange hiff hsink hT
            go_wp2
            go_loopg [31] T (fun gk v1 wr => ∃ (j : Nat) (s : Nat → Int) (z : Value), v1 = z ∧ j ≤ T ∧ gk = T - j ∧ FInts wr loO hiO (.slice (some ⟨gO, 0, none⟩) n cO) (lst n ((grL n L HG.out).fire g1 k (-(j : Int)))) ∧ FInts wr gB (gB + 1) (.slice (some ⟨gB, 0, none⟩) n n) (lst n s) ∧ Below w.heap.size w wr ∧ w2.heap.size ≤ wr.heap.size)
            case atStart => exact ⟨0, s1, _, rfl, Nat.zero_le _, rfl, by rw [show (-((0 : Nat) : Int)) = 0 from rfl, fire_none]; exact HFW.out, HFS1.out, HBW1.out, hsw1⟩
            case round =>
              obtain ⟨j, s2, z2, rfl, hj, rfl, hF, hFs, hb, hsw2⟩ := hrel
              obtain ⟨wj, rfl⟩ : ∃ wj : World, wj = wr := ⟨_, rfl⟩
              have HFS2 := hid hFs
              have HBW2 := hid hb
              have HFW2 := hid hF
              clear HFS1 HBW1 HFW
              by_cases hkq : k = q
              · have t1 : ((k : Int) == (q : Int)) = true := beq_nat_true hkq
                have t2 : ((k : Int) != (q : Int)) = false := bne_of_true t1
                have hT0 := HSINK.out hkq
                have hjT : j = T := by omega
                rw [hjT] at HFW2
                clear hF hFs hb hkq hT0 hjT
                go_wp2
                go_roundg (n - (k + 1))
                case rel => exact ⟨k + 1, s2, _, rfl, by omega, rfl, by go_num, by rw [HNEXT.out]; exact HFW2.out, HFS2.out, HBW2.out, hsw2⟩
                case measure => omega
              · have t1 : ((k : Int) == (q : Int)) = false := beq_nat_false hkq
                have t2 : ((k : Int) != (q : Int)) = true := bne_of_false t1
                have hif := HIFF.out j hj hkq
                obtain ⟨hc, _, hset⟩ := fi_open hF
                have c1 := (hc k hlt).1
                have hbd : ∀ i, i < n → -100000 ≤ (grL n L HG.out).fire g1 k (-(j : Int)) i ∧ (grL n L HG.out).fire g1 k (-(j : Int)) i ≤ 100000 := fun i hi => by
                  have h1 := HRA.out i hi
                  have h2 := lapV_bound HG.out (v := k) (u := i) hlt
                  have h3 := prod_bound (t := (j : Int)) (m := lapV n L k i) (T := 700) (M := 40) (by omega) (by omega) h2.1 h2.2 (by decide)
                  have h4 : (grL n L HG.out).fire g1 k (-(j : Int)) i = g1 i + (j : Int) * lapV n L k i := by
                    unfold Gr.fire; rw [Int.neg_mul]; show g1 i - -((j : Int) * lapV n L k i) = _; omega
                  omega
                have HBD := hid hbd
                obtain ⟨x, hx⟩ : ∃ x, (grL n L HG.out).fire g1 k (-(j : Int)) k = x := ⟨_, rfl⟩
                rw [hx] at c1 hif
                clear hF hFs hb hkq hx hc hset hbd
                by_cases hneg : x < 0
                · have hjT := hif.1 hneg
                  clear hif
                  go_wp2_with fail
                  refine (fire_c n L HG.out w _ _ HP.out loO hiO (by omega) HBW2.out gO cO k (-1) _ HFW2.out hlt (.inr rfl) HBD.out).mono ?_
                  rintro e w3 ⟨rfl, hF3, hT3⟩
                  rw [fire_more] at hF3
                  have HF3 := hid hF3
                  have hFs3 := HFS2.out.same (.of_touch hT3 hdj)
                  have HB3 := hid (HBW2.out.trans (hT3.below hd1 HBW2.out.size))
                  have hsw3 := Nat.le_trans hsw2 hT3.size
                  obtain ⟨hsc, _, hsset⟩ := fi_open hFs3
                  have c5 := (hsc k hlt).1
                  have c6 := (hsc k hlt).2
                  obtain ⟨sk, hsk⟩ : ∃ sk, s2 k = sk := ⟨_, rfl⟩
                  rw [hsk] at c5
                  have HSS := hid (fun y => hsset k y hlt)
                  clear hsc hsset hsk hF3 hT3 hFs3 c1
                  go_wp2
                  go_roundg (T - (j + 1))
                  case rel => exact ⟨j + 1, _, _, rfl, hjT, rfl, by rw [show (-((j + 1 : Nat) : Int)) = -(j : Int) + -1 by omega]; exact HF3.out.same (.of_touch (HSS.out _).2 hdj'), (HSS.out _).1, HB3.out.trans ((HSS.out _).2.below hd2 HB3.out.size), Nat.le_trans hsw3 (HSS.out _).2.size⟩
                  case measure => omega
                · have hjT : j = T := by
                    apply Classical.byContradiction; intro h; exact hneg (hif.2 (by omega))
                  rw [hjT] at HFW2
                  clear hif hjT
                  go_wp2
                  go_roundg (n - (k + 1))
                  case rel => exact ⟨k + 1, s2, _, rfl, by omega, rfl, by go_num, by rw [HNEXT.out]; exact HFW2.out, HFS2.out, HBW2.out, hsw2⟩
                  case measure => omega
          · have hkn : k = n := by omega
            subst hkn
            clear hF hFs hb
            go_wp2
            go_roundg (Gr.mu1 W ((grL k L HG.out).p1 q g))
            case rel => exact ⟨(grL k L HG.out).p1 q g, s1, _, rfl, HST.out.2.1, rfl, HTOT.out.trans HST.out.1, HFW.out, HFS1.out, HBW1.out, hsw1⟩
            case measure => exact HST.out.2.2
      · have hpay : Gr.pay W f = g := by rw [HTOT.out]; exact Gr.loopW_no how _
        have hi2 : Gr.Inv2 (grL n L HG.out) q S g := ⟨(Gr.owes_false _).1 how, HINV.out.sum⟩
        have hgq := inv1_range HINV.out hS hq
        have HRED : Hid (Gr.red W f = Gr.loopW ((grL n L HG.out).more q) ((grL n L HG.out).p2 q) (Gr.mu2 W g) g ∧ Gr.Inv2 (grL n L HG.out) q S g) := ⟨by unfold Gr.red; rw [hpay]; rfl, hi2⟩
        have hgq2 : -700 ≤ g q := by omega
        have HGQ := hid hgq2
        clear hpay hi2 hgq hgq2 HTOT c3
        go_wp2_with (go_at_call 209; (with_reducible refine (hasDebtBut_c n q _ g (grL n L HG.out) HGN _ hro).mono ?_); rintro e w' ⟨rfl, rfl⟩; rw [how])
        clear hro how
        go_loopg [11] (Gr.mu2 W g) (fun gk vv wr => ∃ (g s : Nat → Int) (z : Value), vv = z ∧ Gr.Inv2 (grL n L HG.out) q S g ∧ -700 ≤ g q ∧ gk = Gr.mu2 W g ∧ Gr.red W f = Gr.loopW ((grL n L HG.out).more q) ((grL n L HG.out).p2 q) (Gr.mu2 W g) g ∧
          FInts wr loO hiO (.slice (some ⟨gO, 0, none⟩) n cO) (lst n g) ∧ FInts wr gB (gB + 1) (.slice (some ⟨gB, 0, none⟩) n n) (lst n s) ∧ Below w.heap.size w wr ∧ w2.heap.size ≤ wr.heap.size)
        case atStart => exact ⟨g, s, _, rfl, HRED.out.2, HGQ.out, rfl, HRED.out.1, HF.out, HFS.out, HBW.out, hsw⟩
        case round =>
          obtain ⟨g, s, z, rfl, hinv, hgq, rfl, htot, hF, hFs, hb, hsw⟩ := hrel
          obtain ⟨wo, rfl⟩ : ∃ wo : World, wo = wr := ⟨_, rfl⟩
          have HINV2 := hid hinv
          have HTOT := hid htot
          have HF := hid hF
          have HFS := hid hFs
          have HBW := hid hb
          have HGQ2 := hid hgq
          have hro := hF.r
          have hrange := fun i (hi : i < n) => inv2_range hinv hS hq hgq (v := i) hi
          have HRA := hid hrange
          clear hinv htot hFs hb hF hgq hrange HRED HINV HGQ
          go_wp2_with fail
          refine (burnt_c n q L HG.out _ _ _ (HP.out.keep HBW.out) g hro hq (fun i hi => by have := HRA.out i hi; omega)).mono ?_
          rintro e w3 ⟨u3, rfl, hr3, hb3⟩
          obtain ⟨bb, hbb⟩ : ∃ bb, (grL n L HG.out).burnt g q = bb := ⟨_, rfl⟩
          rw [hbb] at hr3
          have hmore : (grL n L HG.out).more q g = decide (Gr.unm bb n ≠ 0) := by
            unfold Gr.more Gr.full; rw [hbb]; show (!decide (Gr.unm bb n = 0)) = _; simp
          have hhas := (hasB_marks n bb).trans hmore.symm
          have HBB := hid hbb
          obtain ⟨g3, c3, rfl, hl3, hh3⟩ := fi_form hr3 (by omega)
          have HR3 := hid hr3
          have hrr := hr3.r
          have HF3 := hid (HF.out.keep hb3)
          have HFS3 := hid (HFS.out.keep hb3)
          have HBW3 := hid (HBW.out.trans (hb3.mono HBW.out.size))
          have hsw3 := Nat.le_trans hsw hb3.size
          clear hro hr3 hb3 hbb hmore
          rcases Bool.eq_false_or_eq_true ((grL n L HG.out).more q g) with hmo | hmo
          · obtain ⟨st1, st2, st3, st4⟩ := win_step W HINV2.out hmo
            have HST := hid (And.intro st1 (And.intro st2 (And.intro st3 st4)))
            clear st1 st2 st3 st4
            rw [hmo] at hhas
            go_wp2_with (go_at_call 211; (with_reducible refine (contains_c _ (lst n (bI bb)) _ _ hrr).mono ?_); rintro e w' ⟨rfl, rfl⟩; rw [hhas])
            clear hhas hrr hmo
            go_loopg [63] n (fun gk vv wr => ∃ (k : Nat) (s : Nat → Int), k ≤ n ∧ gk = n - k ∧ vv = .int .i64 k ∧ FInts wr loO hiO (.slice (some ⟨gO, 0, none⟩) n cO) (lst n ((grL n L HG.out).fN bb k g)) ∧ FInts wr gB (gB + 1) (.slice (some ⟨gB, 0, none⟩) n n) (lst n s) ∧ FInts wr wo.heap.size w3.heap.size (.slice (some ⟨g3, 0, none⟩) n c3) (lst n (bI bb)) ∧ Below w.heap.size w wr ∧ w2.heap.size ≤ wr.heap.size)
            case atStart => exact ⟨0, s, Nat.zero_le _, rfl, rfl, HF3.out, HFS3.out, HR3.out, HBW3.out, hsw3⟩
            case round =>
              obtain ⟨k, s1, hk, rfl, rfl, hF, hFs, hr, hb, hsw4⟩ := hrel
              obtain ⟨wi, rfl⟩ : ∃ wi : World, wi = wr := ⟨_, rfl⟩
              have HFS1 := hid hFs
              have HBW1 := hid hb
              have HFW := hid hF
              have HRW := hid hr
              clear HF3 HFS3 HBW3 HR3 HF HFS HBW hsw3
              by_cases hlt : k < n
              · obtain ⟨g1, hg1⟩ : ∃ g1, (grL n L HG.out).fN bb k g = g1 := ⟨_, rfl⟩
                have hnext : (grL n L HG.out).fN bb (k + 1) g = if bb k then g1 else (grL n L HG.out).fire g1 k 1 := by rw [← hg1]; rfl
                have hbound : ∀ i, i < n → -100000 ≤ g1 i ∧ g1 i ≤ 100000 := fun i hi => by
                  have h1 := (grL n L HG.out).fN_bound bb g i hi k (Nat.le_of_lt hlt)
                  have h2 := HRA.out i hi
                  rw [hg1] at h1
                  omega
                rw [hg1] at HFW
                obtain ⟨hc, _, _⟩ := fi_open hr
                have b1 := (hc k hlt).1
                unfold bI at b1
                have HNEXT := hid hnext
                have HBO := hid hbound
                have hkz : (k : Int) < (n : Int) := by omega
                obtain ⟨bk, hbk⟩ : ∃ bk, bb k = bk := ⟨_, rfl⟩
                rw [hbk] at HNEXT b1
                have hAB : gB + 1 ≤ wo.heap.size ∧ hiO ≤ wo.heap.size := by omega
                clear hg1 hnext hbound hF hFs hr hb hbk hc
                cases bk with
                | true =>
                  rw [if_pos rfl] at b1
                  go_wp2
                  go_roundg (n - (k + 1))
                  case rel => exact ⟨k + 1, s1, by omega, rfl, by go_num, by rw [HNEXT.out]; exact HFW.out, HFS1.out, HRW.out, HBW1.out, hsw4⟩
                  case measure => omega
                | false =>
                  rw [if_neg (by decide)] at b1
                  go_wp2_with fail
                  refine (fire_c n L HG.out w _ _ HP.out loO hiO (by omega) HBW1.out gO cO k 1 _ HFW.out hlt (.inl rfl) HBO.out).mono ?_
                  rintro e w4 ⟨rfl, hF4, hT4⟩
                  have HF4 := hid hF4
                  have hFs4 := HFS1.out.same (.of_touch hT4 hdj)
                  have HR4 := hid (HRW.out.same (.of_touch hT4 (.inr hAB.2)))
                  have HB4 := hid (HBW1.out.trans (hT4.below hd1 HBW1.out.size))
                  have hsw5 := Nat.le_trans hsw4 hT4.size
                  obtain ⟨hsc, _, hsset⟩ := fi_open hFs4
                  have c5 := (hsc k hlt).1
                  have c6 := (hsc k hlt).2
                  obtain ⟨sk, hsk⟩ : ∃ sk, s1 k = sk := ⟨_, rfl⟩
                  rw [hsk] at c5
                  have HSS := hid (fun y => hsset k y hlt)
                  clear hsc hsset hsk hF4 hT4 hFs4 b1
                  go_wp2
                  go_roundg (n - (k + 1))
                  case rel => exact ⟨k + 1, _, by omega, rfl, by go_num, by rw [HNEXT.out]; exact HF4.out.same (.of_touch (HSS.out _).2 hdj'), (HSS.out _).1, HR4.out.same (.of_touch (HSS.out _).2 (.inr hAB.1)), HB4.out.trans ((HSS.out _).2.below hd2 HB4.out.size), Nat.le_trans hsw5 (HSS.out _).2.size⟩
                  case measure => omega
              · have hkn : k = n := by omega
                subst hkn
                clear hF hFs hb hr
                have hgq2 : -700 ≤ (grL k L HG.out).p2 q g q := Int.le_trans HGQ2.out HST.out.2.2.2
                have HG3 := hid hgq2
                have HF2 : Hid (FInts wi loO hiO (.slice (some ⟨gO, 0, none⟩) k cO) (lst k ((grL k L HG.out).p2 q g))) := by
                  have := HFW.out
                  show FInts _ _ _ _ _
                  unfold Gr.p2 Gr.fA
                  rw [HBB.out]; exact this
                clear hgq2
                go_wp2
                go_roundg (Gr.mu2 W ((grL k L HG.out).p2 q g))
                case rel => exact ⟨(grL k L HG.out).p2 q g, s1, _, rfl, HST.out.2.1, HG3.out, rfl, HTOT.out.trans HST.out.1, HF2.out, HFS1.out, HBW1.out, hsw4⟩
                case measure => exact HST.out.2.2.1
          · have HE : Hid (Gr.red W f = g) := by show _ = _; rw [HTOT.out, Gr.loopW_no hmo]
            rw [hmo] at hhas
            go_wp2_with (go_at_call 211; (with_reducible refine (contains_c _ (lst n (bI bb)) _ _ hrr).mono ?_); rintro e w' ⟨rfl, rfl⟩; rw [hhas])
            go_ret2
            exact ⟨_, _, rfl, by rw [HE.out]; exact HF3.out.r, HBW3.out⟩
  -- C
  · go_wp2
    obtain ⟨w2, hw2⟩ : ∃ w2 : World, w2 = wO.alloc (.cells (madeCells #[.int .i64 0] n) 3) := ⟨_, rfl⟩
    have hbO' : Below w.heap.size w wO := below_of_drew hbO
    have hal : Below wO.heap.size wO w2 := by rw [hw2]; exact (Below.refl _ _).alloc (Nat.le_refl _) _
    have hFO1 : FInts wO w.heap.size wO.heap.size uO (lst n f) := hFO
    obtain ⟨gO, cO, rfl, hlo, hhi⟩ := fi_form hFO1 (by omega)
    have hFO2 := hFO1.keep hal
    have hFS : FInts w2 wO.heap.size (wO.heap.size + 1) (.slice (some ⟨wO.heap.size, 0, none⟩) n n) (lst n (fun _ => 0)) := by rw [hw2]; exact fi_made wO n (by omega)
    have hbw2 : Below w.heap.size w w2 := hbO'.trans (hal.mono hbO'.size)
    have hszz := hbO'.size
    have hs2 : wO.heap.size + 1 ≤ w2.heap.size := by rw [hw2]; simp
    obtain ⟨gB, hgB⟩ : ∃ gB, gB = wO.heap.size := ⟨_, rfl⟩
    obtain ⟨loO, hloO⟩ : ∃ lo, lo = w.heap.size := ⟨_, rfl⟩
    obtain ⟨hiO, hhiO⟩ : ∃ lo, lo = wO.heap.size := ⟨_, rfl⟩
    have HX : Hid (FInts w2 loO hiO (.slice (some ⟨gO, 0, none⟩) n cO) (lst n f) ∧ FInts w2 gB (gB + 1) (.slice (some ⟨gB, 0, none⟩) n n) (lst n (fun _ => 0)) ∧ Below w.heap.size w w2) := ⟨by rw [hloO, hhiO]; exact hFO2, by rw [hgB]; exact hFS, hbw2⟩
    have hdis : (hiO ≤ gB ∨ gB + 1 ≤ loO) ∧ w.heap.size ≤ loO ∧ w.heap.size ≤ gB ∧ hiO ≤ w2.heap.size ∧ gB + 1 ≤ w2.heap.size := by omega
    rw [← hw2, ← hgB]
    clear hFO hFO1 hFO2 hFS hbw2 hal hbO hbO' hw2 hgB hloO hhiO hs2 hszz hmk
    obtain ⟨hdj, hd1, hd2, hd3, hd4⟩ := hdis
    have hdj' : hiO ≤ gB ∨ gB + 1 ≤ loO := hdj
    have hdj : gB + 1 ≤ loO ∨ hiO ≤ gB := hdj'.symm
    clear HDA HDB
    simp only [Act.put, List.getElem_cons_succ, List.getElem_cons_zero, List.getElem_toArray, List.setIfInBounds_toArray, List.set_cons_succ, List.set_cons_zero]
    clear HDD
    go_loopg [10] (Gr.mu1 W f) (fun gk vv wr => ∃ (g s : Nat → Int) (z : Value), vv = z ∧ Gr.Inv1 (grL n L HG.out) S g ∧ gk = Gr.mu1 W g ∧ Gr.pay W f = Gr.loopW ((grL n L HG.out).owes q) ((grL n L HG.out).p1 q) (Gr.mu1 W g) g ∧
      FInts wr loO hiO (.slice (some ⟨gO, 0, none⟩) n cO) (lst n g) ∧ FInts wr gB (gB + 1) (.slice (some ⟨gB, 0, none⟩) n n) (lst n s) ∧ Below w.heap.size w wr ∧ w2.heap.size ≤ wr.heap.size)
    case atStart => exact ⟨f, fun _ => 0, _, rfl, HI.out, rfl, rfl, HX.out.1, HX.out.2.1, HX.out.2.2, Nat.le_refl _⟩
    case round =>
      obtain ⟨g, s, z, rfl, hinv, rfl, htot, hF, hFs, hb, hsw⟩ := hrel
      obtain ⟨wo, rfl⟩ : ∃ wo : World, wo = wr := ⟨_, rfl⟩
      have HINV := hid hinv
      have HTOT := hid htot
      have HF := hid hF
      have HFS := hid hFs
      have HBW := hid hb
      have hro := hF.r
      have c3 := (hb.cell (p := ⟨gp, 0, none⟩) (cell_lt HC0.out)).trans HC0.out
      clear hinv htot hFs hb HX hF
      rcases Bool.eq_false_or_eq_true ((grL n L HG.out).owes q g) with how | how
      · obtain ⟨st1, st2, st3⟩ := pay_step W HINV.out how
        have HST := hid (And.intro st1 (And.intro st2 st3))
        clear st1 st2 st3
        go_wp2_with (go_at_call 209; (with_reducible refine (hasDebtBut_c n q _ g (grL n L HG.out) HGN _ hro).mono ?_); rintro e w' ⟨rfl, rfl⟩; rw [how])
        clear hro how c3
        go_loopg [10, 28] n (fun gk v1 vv wr => ∃ (k : Nat) (s : Nat → Int) (z : Value), v1 = z ∧ k ≤ n ∧ gk = n - k ∧ vv = .int .i64 k ∧ FInts wr loO hiO (.slice (some ⟨gO, 0, none⟩) n cO) (lst n ((grL n L HG.out).p1N q k g)) ∧ FInts wr gB (gB + 1) (.slice (some ⟨gB, 0, none⟩) n n) (lst n s) ∧ Below w.heap.size w wr ∧ w2.heap.size ≤ wr.heap.size)
        case atStart => exact ⟨0, s, _, rfl, Nat.zero_le _, rfl, rfl, HF.out, HFS.out, HBW.out, hsw⟩
        case round =>
          obtain ⟨k, s1, z1, rfl, hk, rfl, rfl, hF, hFs, hb, hsw1⟩ := hrel
          obtain ⟨wi, rfl⟩ : ∃ wi : World, wi = wr := ⟨_, rfl⟩
          have HFS1 := hid hFs
          have HBW1 := hid hb
          have HFW := hid hF
          clear HF HFS HBW
          by_cases hlt : k < n
          · obtain ⟨g1, hg1⟩ : ∃ g1, (grL n L HG.out).p1N q k g = g1 := ⟨_, rfl⟩
            have hnext : (grL n L HG.out).p1N q (k + 1) g = (grL n L HG.out).bor q g1 k := by rw [← hg1]; rfl
            have hinv1 : Gr.Inv1 (grL n L HG.out) S g1 := by rw [← hg1]; exact Gr.p1N_inv W HINV.out k hk
            rw [hg1] at HFW
            rw [lend_bor W hlt] at hnext
            have hrange := fun i (hi : i < n) => inv1_range hinv1 hS hi
            have hsmall := lend_small W hlt (hrange k hlt).1
            have hiff := fun j hj (hkq : k ≠ q) => lend_iff W (f := g1) (j := j) hlt hkq hj
            have hsink : k = q → lend (grL n L HG.out) q g1 k = 0 := fun e => by rw [e]; exact lend_sink
            obtain ⟨T, hT⟩ : ∃ T, lend (grL n L HG.out) q g1 k = T := ⟨_, rfl⟩
            rw [hT] at hnext hsmall hiff hsink
            have HNEXT := hid hnext
            have HRA := hid hrange
            have HIFF := hid hiff
            have HSINK := hid hsink
            have hkz : (k : Int) < (n : Int) := by omega
            clear hg1 hnext hinv1 hF hFs hb hrange hiff hsink hT
            go_wp2
            go_loopg [31] T (fun gk v1 wr => ∃ (j : Nat) (s : Nat → Int) (z : Value), v1 = z ∧ j ≤ T ∧ gk = T - j ∧ FInts wr loO hiO (.slice (some ⟨gO, 0, none⟩) n cO) (lst n ((grL n L HG.out).fire g1 k (-(j : Int)))) ∧ FInts wr gB (gB + 1) (.slice (some ⟨gB, 0, none⟩) n n) (lst n s) ∧ Below w.heap.size w wr ∧ w2.heap.size ≤ wr.heap.size)
            case atStart => exact ⟨0, s1, _, rfl, Nat.zero_le _, rfl, by rw [show (-((0 : Nat) : Int)) = 0 from rfl, fire_none]; exact HFW.out, HFS1.out, HBW1.out, hsw1⟩
            case round =>
              obtain ⟨j, s2, z2, rfl, hj, rfl, hF, hFs, hb, hsw2⟩ := hrel
              obtain ⟨wj, rfl⟩ : ∃ wj : World, wj = wr := ⟨_, rfl⟩
              have HFS2 := hid hFs
              have HBW2 := hid hb
              have HFW2 := hid hF
              clear HFS1 HBW1 HFW
              by_cases hkq : k = q
              · have t1 : ((k : Int) == (q : Int)) = true := beq_nat_true hkq
                have t2 : ((k : Int) != (q : Int)) = false := bne_of_true t1
                have hT0 := HSINK.out hkq
                have hjT : j = T := by omega
                rw [hjT] at HFW2
                clear hF hFs hb hkq hT0 hjT
                go_wp2
                go_roundg (n - (k + 1))
                case rel => exact ⟨k + 1, s2, _, rfl, by omega, rfl, by go_num, by rw [HNEXT.out]; exact HFW2.out, HFS2.out, HBW2.out, hsw2⟩
                case measure => omega
              · have t1 : ((k : Int) == (q : Int)) = false := beq_nat_false hkq
                have t2 : ((k : Int) != (q : Int)) = true := bne_of_false t1
                have hif := HIFF.out j hj hkq
                obtain ⟨hc, _, hset⟩ := fi_open hF
                have c1 := (hc k hlt).1
                have hbd : ∀ i, i < n → -100000 ≤ (grL n L HG.out).fire g1 k (-(j : Int)) i ∧ (grL n L HG.out).fire g1 k (-(j : Int)) i ≤ 100000 := fun i hi => by
                  have h1 := HRA.out i hi
                  have h2 := lapV_bound HG.out (v := k) (u := i) hlt
                  have h3 := prod_bound (t := (j : Int)) (m := lapV n L k i) (T := 700) (M := 40) (by omega) (by omega) h2.1 h2.2 (by decide)
                  have h4 : (grL n L HG.out).fire g1 k (-(j : Int)) i = g1 i + (j : Int) * lapV n L k i := by
                    unfold Gr.fire; rw [Int.neg_mul]; show g1 i - -((j : Int) * lapV n L k i) = _; omega
                  omega
                have HBD := hid hbd
                obtain ⟨x, hx⟩ : ∃ x, (grL n L HG.out).fire g1 k (-(j : Int)) k = x := ⟨_, rfl⟩
                rw [hx] at c1 hif
                clear hF hFs hb hkq hx hc hset hbd
                by_cases hneg : x < 0
                · have hjT := hif.1 hneg
                  clear hif
                  go_wp2_with fail
                  refine (fire_c n L HG.out w _ _ HP.out loO hiO (by omega) HBW2.out gO cO k (-1) _ HFW2.out hlt (.inr rfl) HBD.out).mono ?_
                  rintro e w3 ⟨rfl, hF3, hT3⟩
                  rw [fire_more] at hF3
                  have HF3 := hid hF3
                  have hFs3 := HFS2.out.same (.of_touch hT3 hdj)
                  have HB3 := hid (HBW2.out.trans (hT3.below hd1 HBW2.out.size))
                  have hsw3 := Nat.le_trans hsw2 hT3.size
                  obtain ⟨hsc, _, hsset⟩ := fi_open hFs3
                  have c5 := (hsc k hlt).1
                  have c6 := (hsc k hlt).2
                  obtain ⟨sk, hsk⟩ : ∃ sk, s2 k = sk := ⟨_, rfl⟩
                  rw [hsk] at c5
                  have HSS := hid (fun y => hsset k y hlt)
                  clear hsc hsset hsk hF3 hT3 hFs3 c1
                  go_wp2
                  go_roundg (T - (j + 1))
                  case rel => exact ⟨j + 1, _, _, rfl, hjT, rfl, by rw [show (-((j + 1 : Nat) : Int)) = -(j : Int) + -1 by omega]; exact HF3.out.same (.of_touch (HSS.out _).2 hdj'), (HSS.out _).1, HB3.out.trans ((HSS.out _).2.below hd2 HB3.out.size), Nat.le_trans hsw3 (HSS.out _).2.size⟩
                  case measure => omega
                · have hjT : j = T := by
                    apply Classical.byContradiction; intro h; exact hneg (hif.2 (by omega))
                  rw [hjT] at HFW2
                  clear hif hjT
                  go_wp2
                  go_roundg (n - (k + 1))
                  case rel => exact ⟨k + 1, s2, _, rfl, by omega, rfl, by go_num, by rw [HNEXT.out]; exact HFW2.out, HFS2.out, HBW2.out, hsw2⟩
                  case measure => omega
          · have hkn : k = n := by omega
            subst hkn
            clear hF hFs hb
            go_wp2
            go_roundg (Gr.mu1 W ((grL k L HG.out).p1 q g))
            case rel => exact ⟨(grL k L HG.out).p1 q g, s1, _, rfl, HST.out.2.1, rfl, HTOT.out.trans HST.out.1, HFW.out, HFS1.out, HBW1.out, hsw1⟩
            case measure => exact HST.out.2.2
      · have hpay : Gr.pay W f = g := by rw [HTOT.out]; exact Gr.loopW_no how _
        have hi2 : Gr.Inv2 (grL n L HG.out) q S g := ⟨(Gr.owes_false _).1 how, HINV.out.sum⟩
        have hgq := inv1_range HINV.out hS hq
        have HRED : Hid (Gr.red W f = Gr.loopW ((grL n L HG.out).more q) ((grL n L HG.out).p2 q) (Gr.mu2 W g) g ∧ Gr.Inv2 (grL n L HG.out) q S g) := ⟨by unfold Gr.red; rw [hpay]; rfl, hi2⟩
        have hgq2 : -700 ≤ g q := by omega
        have HGQ := hid hgq2
        clear hpay hi2 hgq hgq2 HTOT c3
        go_wp2_with (go_at_call 209; (with_reducible refine (hasDebtBut_c n q _ g (grL n L HG.out) HGN _ hro).mono ?_); rintro e w' ⟨rfl, rfl⟩; rw [how])
        clear hro how
        go_loopg [11] (Gr.mu2 W g) (fun gk vv wr => ∃ (g s : Nat → Int) (z : Value), vv = z ∧ Gr.Inv2 (grL n L HG.out) q S g ∧ -700 ≤ g q ∧ gk = Gr.mu2 W g ∧ Gr.red W f = Gr.loopW ((grL n L HG.out).more q) ((grL n L HG.out).p2 q) (Gr.mu2 W g) g ∧
          FInts wr loO hiO (.slice (some ⟨gO, 0, none⟩) n cO) (lst n g) ∧ FInts wr gB (gB + 1) (.slice (some ⟨gB, 0, none⟩) n n) (lst n s) ∧ Below w.heap.size w wr ∧ w2.heap.size ≤ wr.heap.size)
        case atStart => exact ⟨g, s, _, rfl, HRED.out.2, HGQ.out, rfl, HRED.out.1, HF.out, HFS.out, HBW.out, hsw⟩
        case round =>
          obtain ⟨g, s, z, rfl, hinv, hgq, rfl, htot, hF, hFs, hb, hsw⟩ := hrel
          obtain ⟨wo, rfl⟩ : ∃ wo : World, wo = wr := ⟨_, rfl⟩
          have HINV2 := hid hinv
          have HTOT := hid htot
          have HF := hid hF
          have HFS := hid hFs
          have HBW := hid hb
          have HGQ2 := hid hgq
          have hro := hF.r
          have hrange := fun i (hi : i < n) => inv2_range hinv hS hq hgq (v := i) hi
          have HRA := hid hrange
          clear hinv htot hFs hb hF hgq hrange HRED HINV HGQ
          go_wp2_with fail
          refine (burnt_c n q L HG.out _ _ _ (HP.out.keep HBW.out) g hro hq (fun i hi => by have := HRA.out i hi; omega)).mono ?_
          rintro e w3 ⟨u3, rfl, hr3, hb3⟩
          obtain ⟨bb, hbb⟩ : ∃ bb, (grL n L HG.out).burnt g q = bb := ⟨_, rfl⟩
          rw [hbb] at hr3
          have hmore : (grL n L HG.out).more q g = decide (Gr.unm bb n ≠ 0) := by
            unfold Gr.more Gr.full; rw [hbb]; show (!decide (Gr.unm bb n = 0)) = _; simp
          have hhas := (hasB_marks n bb).trans hmore.symm
          have HBB := hid hbb
          obtain ⟨g3, c3, rfl, hl3, hh3⟩ := fi_form hr3 (by omega)
          have HR3 := hid hr3
          have hrr := hr3.r
          have HF3 := hid (HF.out.keep hb3)
          have HFS3 := hid (HFS.out.keep hb3)
          have HBW3 := hid (HBW.out.trans (hb3.mono HBW.out.size))
          have hsw3 := Nat.le_trans hsw hb3.size
          clear hro hr3 hb3 hbb hmore
          rcases Bool.eq_false_or_eq_true ((grL n L HG.out).more q g) with hmo | hmo
          · obtain ⟨st1, st2, st3, st4⟩ := win_step W HINV2.out hmo
            have HST := hid (And.intro st1 (And.intro st2 (And.intro st3 st4)))
            clear st1 st2 st3 st4
            rw [hmo] at hhas
            go_wp2_with (go_at_call 211; (with_reducible refine (contains_c _ (lst n (bI bb)) _ _ hrr).mono ?_); rintro e w' ⟨rfl, rfl⟩; rw [hhas])
            clear hhas hrr hmo
            go_loopg [63] n (fun gk vv wr => ∃ (k : Nat) (s : Nat → Int), k ≤ n ∧ gk = n - k ∧ vv = .int .i64 k ∧ FInts wr loO hiO (.slice (some ⟨gO, 0, none⟩) n cO) (lst n ((grL n L HG.out).fN bb k g)) ∧ FInts wr gB (gB + 1) (.slice (some ⟨gB, 0, none⟩) n n) (lst n s) ∧ FInts wr wo.heap.size w3.heap.size (.slice (some ⟨g3, 0, none⟩) n c3) (lst n (bI bb)) ∧ Below w.heap.size w wr ∧ w2.heap.size ≤ wr.heap.size)
            case atStart => exact ⟨0, s, Nat.zero_le _, rfl, rfl, HF3.out, HFS3.out, HR3.out, HBW3.out, hsw3⟩
            case round =>
              obtain ⟨k, s1, hk, rfl, rfl, hF, hFs, hr, hb, hsw4⟩ := hrel
              obtain ⟨wi, rfl⟩ : ∃ wi : World, wi = wr := ⟨_, rfl⟩
              have HFS1 := hid hFs
              have HBW1 := hid hb
              have HFW := hid hF
              have HRW := hid hr
              clear HF3 HFS3 HBW3 HR3 HF HFS HBW hsw3
              by_cases hlt : k < n
              · obtain ⟨g1, hg1⟩ : ∃ g1, (grL n L HG.out).fN bb k g = g1 := ⟨_, rfl⟩
                have hnext : (grL n L HG.out).fN bb (k + 1) g = if bb k then g1 else (grL n L HG.out).fire g1 k 1 := by rw [← hg1]; rfl
                have hbound : ∀ i, i < n → -100000 ≤ g1 i ∧ g1 i ≤ 100000 := fun i hi => by
                  have h1 := (grL n L HG.out).fN_bound bb g i hi k (Nat.le_of_lt hlt)
                  have h2 := HRA.out i hi
                  rw [hg1] at h1
                  omega
                rw [hg1] at HFW
                obtain ⟨hc, _, _⟩ := fi_open hr
                have b1 := (hc k hlt).1
                unfold bI at b1
                have HNEXT := hid hnext
                have HBO := hid hbound
                have hkz : (k : Int) < (n : Int) := by omega
                obtain ⟨bk, hbk⟩ : ∃ bk, bb k = bk := ⟨_, rfl⟩
                rw [hbk] at HNEXT b1
                have hAB : gB + 1 ≤ wo.heap.size ∧ hiO ≤ wo.heap.size := by omega
                clear hg1 hnext hbound hF hFs hr hb hbk hc
                cases bk with
                | true =>
                  rw [if_pos rfl] at b1
                  go_wp2
                  go_roundg (n - (k + 1))
                  case rel => exact ⟨k + 1, s1, by omega, rfl, by go_num, by rw [HNEXT.out]; exact HFW.out, HFS1.out, HRW.out, HBW1.out, hsw4⟩
                  case measure => omega
                | false =>
                  rw [if_neg (by decide)] at b1
                  go_wp2_with fail
                  refine (fire_c n L HG.out w _ _ HP.out loO hiO (by omega) HBW1.out gO cO k 1 _ HFW.out hlt (.inl rfl) HBO.out).mono ?_
                  rintro e w4 ⟨rfl, hF4, hT4⟩
                  have HF4 := hid hF4
                  have hFs4 := HFS1.out.same (.of_touch hT4 hdj)
                  have HR4 := hid (HRW.out.same (.of_touch hT4 (.inr hAB.2)))
                  have HB4 := hid (HBW1.out.trans (hT4.below hd1 HBW1.out.size))
                  have hsw5 := Nat.le_trans hsw4 hT4.size
                  obtain ⟨hsc, _, hsset⟩ := fi_open hFs4
                  have c5 := (hsc k hlt).1
                  have c6 := (hsc k hlt).2
                  obtain ⟨sk, hsk⟩ : ∃ sk, s1 k = sk := ⟨_, rfl⟩
                  rw [hsk] at c5
                  have HSS := hid (fun y => hsset k y hlt)
                  clear hsc hsset hsk hF4 hT4 hFs4 b1
                  go_wp2
                  go_roundg (n - (k + 1))
                  case rel => exact ⟨k + 1, _, by omega, rfl, by go_num, by rw [HNEXT.out]; exact HF4.out.same (.of_touch (HSS.out _).2 hdj'), (HSS.out _).1, HR4.out.same (.of_touch (HSS.out _).2 (.inr hAB.1)), HB4.out.trans ((HSS.out _).2.below hd2 HB4.out.size), Nat.le_trans hsw5 (HSS.out _).2.size⟩
                  case measure => omega
              · have hkn : k = n := by omega
                subst hkn
                clear hF hFs hb hr
                have hgq2 : -700 ≤ (grL k L HG.out).p2 q g q := Int.le_trans HGQ2.out HST.out.2.2.2
                have HG3 := hid hgq2
                have HF2 : Hid (FInts wi loO hiO (.slice (some ⟨gO, 0, none⟩) k cO) (lst k ((grL k L HG.out).p2 q g))) := by
                  have := HFW.out
                  show FInts _ _ _ _ _
                  unfold Gr.p2 Gr.fA
                  rw [HBB.out]; exact this
                clear hgq2
                go_wp2
                go_roundg (Gr.mu2 W ((grL k L HG.out).p2 q g))
                case rel => exact ⟨(grL k L HG.out).p2 q g, s1, _, rfl, HST.out.2.1, HG3.out, rfl, HTOT.out.trans HST.out.1, HF2.out, HFS1.out, HBW1.out, hsw4⟩
                case measure => exact HST.out.2.2.1
          · have HE : Hid (Gr.red W f = g) := by show _ = _; rw [HTOT.out, Gr.loopW_no hmo]
            rw [hmo] at hhas
            go_wp2_with (go_at_call 211; (with_reducible refine (contains_c _ (lst n (bI bb)) _ _ hrr).mono ?_); rintro e w' ⟨rfl, rfl⟩; rw [hhas])
            go_ret2
            exact ⟨_, _, rfl, by rw [HE.out]; exact HF3.out.r, HBW3.out⟩
  -- B
  · go_wp2
    obtain ⟨w2, hw2⟩ : ∃ w2 : World, w2 = wO := ⟨_, rfl⟩
    have hal : Below w.heap.size w (w.alloc (.cells (madeCells #[.int .i64 0] n) 3)) := (Below.refl _ _).alloc (Nat.le_refl _) _
    have hbO' : Below (w.alloc (.cells (madeCells #[.int .i64 0] n) 3)).heap.size (w.alloc (.cells (madeCells #[.int .i64 0] n) 3)) wO := below_of_drew hbO
    have hsa : (w.alloc (.cells (madeCells #[.int .i64 0] n) 3)).heap.size = w.heap.size + 1 := by simp
    have hFO1 : FInts wO (w.heap.size + 1) wO.heap.size uO (lst n f) := by rw [← hsa]; exact hFO
    obtain ⟨gO, cO, rfl, hlo, hhi⟩ := fi_form hFO1 (by omega)
    have hFS : FInts wO w.heap.size (w.heap.size + 1) (.slice (some ⟨w.heap.size, 0, none⟩) n n) (lst n (fun _ => 0)) := (fi_made w n (by omega)).keep hbO'
    have hbw2 : Below w.heap.size w wO := hal.trans (hbO'.mono hal.size)
    have hszz := hbO'.size
    obtain ⟨gB, hgB⟩ : ∃ gB, gB = w.heap.size := ⟨_, rfl⟩
    obtain ⟨loO, hloO⟩ : ∃ lo, lo = w.heap.size + 1 := ⟨_, rfl⟩
    obtain ⟨hiO, hhiO⟩ : ∃ lo, lo = wO.heap.size := ⟨_, rfl⟩
    have HX : Hid (FInts w2 loO hiO (.slice (some ⟨gO, 0, none⟩) n cO) (lst n f) ∧ FInts w2 gB (gB + 1) (.slice (some ⟨gB, 0, none⟩) n n) (lst n (fun _ => 0)) ∧ Below w.heap.size w w2) := ⟨by rw [hloO, hhiO, hw2]; exact hFO1, by rw [hgB, hw2]; exact hFS, by rw [hw2]; exact hbw2⟩
    have hdis : (hiO ≤ gB ∨ gB + 1 ≤ loO) ∧ w.heap.size ≤ loO ∧ w.heap.size ≤ gB ∧ hiO ≤ w2.heap.size ∧ gB + 1 ≤ w2.heap.size := by rw [hw2]; omega
    rw [← hw2, ← hgB]
    clear hFO hFO1 hFS hbw2 hal hbO hbO' hw2 hgB hloO hhiO hszz hsa hmk
    obtain ⟨hdj, hd1, hd2, hd3, hd4⟩ := hdis
    have hdj' : hiO ≤ gB ∨ gB + 1 ≤ loO := hdj
    have hdj : gB + 1 ≤ loO ∨ hiO ≤ gB := hdj'.symm
    clear HDA HDB
    simp only [Act.put, List.getElem_cons_succ, List.getElem_cons_zero, List.getElem_toArray, List.setIfInBounds_toArray, List.set_cons_succ, List.set_cons_zero]
    clear HDD
    go_loopg [10] (Gr.mu1 W f) (fun gk vv wr => ∃ (g s : Nat → Int) (z : Value), vv = z ∧ Gr.Inv1 (grL n L HG.out) S g ∧ gk = Gr.mu1 W g ∧ Gr.pay W f = Gr.loopW ((grL n L HG.out).owes q) ((grL n L HG.out).p1 q) (Gr.mu1 W g) g ∧
      FInts wr loO hiO (.slice (some ⟨gO, 0, none⟩) n cO) (lst n g) ∧ FInts wr gB (gB + 1) (.slice (some ⟨gB, 0, none⟩) n n) (lst n s) ∧ Below w.heap.size w wr ∧ w2.heap.size ≤ wr.heap.size)
    case atStart => exact ⟨f, fun _ => 0, _, rfl, HI.out, rfl, rfl, HX.out.1, HX.out.2.1, HX.out.2.2, Nat.le_refl _⟩
    case round =>
      obtain ⟨g, s, z, rfl, hinv, rfl, htot, hF, hFs, hb, hsw⟩ := hrel
      obtain ⟨wo, rfl⟩ : ∃ wo : World, wo = wr := ⟨_, rfl⟩
      have HINV := hid hinv
      have HTOT := hid htot
      have HF := hid hF
      have HFS := hid hFs
      have HBW := hid hb
      have hro := hF.r
      have c3 := (hb.cell (p := ⟨gp, 0, none⟩) (cell_lt HC0.out)).trans HC0.out
      clear hinv htot hFs hb HX hF
      rcases Bool.eq_false_or_eq_true ((grL n L HG.out).owes q g) with how | how
      · obtain ⟨st1, st2, st3⟩ := pay_step W HINV.out how
        have HST := hid (And.intro st1 (And.intro st2 st3))
        clear st1 st2 st3
        go_wp2_with (go_at_call 209; (with_reducible refine (hasDebtBut_c n q _ g (grL n L HG.out) HGN _ hro).mono ?_); rintro e w' ⟨rfl, rfl⟩; rw [how])
        clear hro how c3
        go_loopg [10, 28] n (fun gk v1 vv wr => ∃ (k : Nat) (s : Nat → Int) (z : Value), v1 = z ∧ k ≤ n ∧ gk = n - k ∧ vv = .int .i64 k ∧ FInts wr loO hiO (.slice (some ⟨gO, 0, none⟩) n cO) (lst n ((grL n L HG.out).p1N q k g)) ∧ FInts wr gB (gB + 1) (.slice (some ⟨gB, 0, none⟩) n n) (lst n s) ∧ Below w.heap.size w wr ∧ w2.heap.size ≤ wr.heap.size)
        case atStart => exact ⟨0, s, _, rfl, Nat.zero_le _, rfl, rfl, HF.out, HFS.out, HBW.out, hsw⟩
        case round =>
          obtain ⟨k, s1, z1, rfl, hk, rfl, rfl, hF, hFs, hb, hsw1⟩ := hrel
          obtain ⟨wi, rfl⟩ : ∃ wi : World, wi = wr := ⟨_, rfl⟩
          have HFS1 := hid hFs
          have HBW1 := hid hb
          have HFW := hid hF
          clear HF HFS HBW
          by_cases hlt : k < n
          · obtain ⟨g1, hg1⟩ : ∃ g1, (grL n L HG.out).p1N q k g = g1 := ⟨_, rfl⟩
            have hnext : (grL n L HG.out).p1N q (k + 1) g = (grL n L HG.out).bor q g1 k := by rw [← hg1]; rfl
            have hinv1 : Gr.Inv1 (grL n L HG.out) S g1 := by rw [← hg1]; exact Gr.p1N_inv W HINV.out k hk
            rw [hg1] at HFW
            rw [lend_bor W hlt] at hnext
            have hrange := fun i (hi : i < n) => inv1_range hinv1 hS hi
            have hsmall := lend_small W hlt (hrange k hlt).1
            have hiff := fun j hj (hkq : k ≠ q) => lend_iff W (f := g1) (j := j) hlt hkq hj
            have hsink : k = q → lend (grL n L HG.out) q g1 k = 0 := fun e => by rw [e]; exact lend_sink
            obtain ⟨T, hT⟩ : ∃ T, lend (grL n L HG.out) q g1 k = T := ⟨_, rfl⟩
            rw [hT] at hnext hsmall hiff hsink
            have HNEXT := hid hnext
            have HRA := hid hrange
            have HIFF := hid hiff
            have HSINK := hid hsink
            have hkz : (k : Int) < (n : Int) := by omega
            clear hg1 hnext hinv1 hF hFs hb hrange hiff hsink hT
            go_wp2
            go_loopg [31] T (fun gk v1 wr => ∃ (j : Nat) (s : Nat → Int) (z : Value), v1 = z ∧ j ≤ T ∧ gk = T - j ∧ FInts wr loO hiO (.slice (some ⟨gO, 0, none⟩) n cO) (lst n ((grL n L HG.out).fire g1 k (-(j : Int)))) ∧ FInts wr gB (gB + 1) (.slice (some ⟨gB, 0, none⟩) n n) (lst n s) ∧ Below w.heap.size w wr ∧ w2.heap.size ≤ wr.heap.size)
            case atStart => exact ⟨0, s1, _, rfl, Nat.zero_le _, rfl, by rw [show (-((0 : Nat) : Int)) = 0 from rfl, fire_none]; exact HFW.out, HFS1.out, HBW1.out, hsw1⟩
            case round =>
              obtain ⟨j, s2, z2, rfl, hj, rfl, hF, hFs, hb, hsw2⟩ := hrel
              obtain ⟨wj, rfl⟩ : ∃ wj : World, wj = wr := ⟨_, rfl⟩
              have HFS2 := hid hFs
              have HBW2 := hid hb
              have HFW2 := hid hF
              clear HFS1 HBW1 HFW
              by_cases hkq : k = q
              · have t1 : ((k : Int) == (q : Int)) = true := beq_nat_true hkq
                have t2 : ((k : Int) != (q : Int)) = false := bne_of_true t1
                have hT0 := HSINK.out hkq
                have hjT : j = T := by omega
                rw [hjT] at HFW2
                clear hF hFs hb hkq hT0 hjT
                go_wp2
                go_roundg (n - (k + 1))
                case rel => exact ⟨k + 1, s2, _, rfl, by omega, rfl, by go_num, by rw [HNEXT.out]; exact HFW2.out, HFS2.out, HBW2.out, hsw2⟩
                case measure => omega
              · have t1 : ((k : Int) == (q : Int)) = false := beq_nat_false hkq
                have t2 : ((k : Int) != (q : Int)) = true := bne_of_false t1
                have hif := HIFF.out j hj hkq
                obtain ⟨hc, _, hset⟩ := fi_open hF
                have c1 := (hc k hlt).1
                have hbd : ∀ i, i < n → -100000 ≤ (grL n L HG.out).fire g1 k (-(j : Int)) i ∧ (grL n L HG.out).fire g1 k (-(j : Int)) i ≤ 100000 := fun i hi => by
                  have h1 := HRA.out i hi
                  have h2 := lapV_bound HG.out (v := k) (u := i) hlt
                  have h3 := prod_bound (t := (j : Int)) (m := lapV n L k i) (T := 700) (M := 40) (by omega) (by omega) h2.1 h2.2 (by decide)
                  have h4 : (grL n L HG.out).fire g1 k (-(j : Int)) i = g1 i + (j : Int) * lapV n L k i := by
                    unfold Gr.fire; rw [Int.neg_mul]; show g1 i - -((j : Int) * lapV n L k i) = _; omega
                  omega
                have HBD := hid hbd
                obtain ⟨x, hx⟩ : ∃ x, (grL n L HG.out).fire g1 k (-(j : Int)) k = x := ⟨_, rfl⟩
                rw [hx] at c1 hif
                clear hF hFs hb hkq hx hc hset hbd
                by_cases hneg : x < 0
                · have hjT := hif.1 hneg
                  clear hif
                  go_wp2_with fail
                  refine (fire_c n L HG.out w _ _ HP.out loO hiO (by omega) HBW2.out gO cO k (-1) _ HFW2.out hlt (.inr rfl) HBD.out).mono ?_
                  rintro e w3 ⟨rfl, hF3, hT3⟩
                  rw [fire_more] at hF3
                  have HF3 := hid hF3
                  have hFs3 := HFS2.out.same (.of_touch hT3 hdj)
                  have HB3 := hid (HBW2.out.trans (hT3.below hd1 HBW2.out.size))
                  have hsw3 := Nat.le_trans hsw2 hT3.size
                  obtain ⟨hsc, _, hsset⟩ := fi_open hFs3
                  have c5 := (hsc k hlt).1
                  have c6 := (hsc k hlt).2
                  obtain ⟨sk, hsk⟩ : ∃ sk, s2 k = sk := ⟨_, rfl⟩
                  rw [hsk] at c5
                  have HSS := hid (fun y => hsset k y hlt)
                  clear hsc hsset hsk hF3 hT3 hFs3 c1
                  go_wp2
                  go_roundg (T - (j + 1))
                  case rel => exact ⟨j + 1, _, _, rfl, hjT, rfl, by rw [show (-((j + 1 : Nat) : Int)) = -(j : Int) + -1 by omega]; exact HF3.out.same (.of_touch (HSS.out _).2 hdj'), (HSS.out _).1, HB3.out.trans ((HSS.out _).2.below hd2 HB3.out.size), Nat.le_trans hsw3 (HSS.out _).2.size⟩
                  case measure => omega
                · have hjT : j = T := by
                    apply Classical.byContradiction; intro h; exact hneg (hif.2 (by omega))
                  rw [hjT] at HFW2
                  clear hif hjT
                  go_wp2
                  go_roundg (n - (k + 1))
                  case rel => exact ⟨k + 1, s2, _, rfl, by omega, rfl, by go_num, by rw [HNEXT.out]; exact HFW2.out, HFS2.out, HBW2.out, hsw2⟩
                  case measure => omega
          · have hkn : k = n := by omega
            subst hkn
            clear hF hFs hb
            go_wp2
            go_roundg (Gr.mu1 W ((grL k L HG.out).p1 q g))
            case rel => exact ⟨(grL k L HG.out).p1 q g, s1, _, rfl, HST.out.2.1, rfl, HTOT.out.trans HST.out.1, HFW.out, HFS1.out, HBW1.out, hsw1⟩
            case measure => exact HST.out.2.2
      · have hpay : Gr.pay W f = g := by rw [HTOT.out]; exact Gr.loopW_no how _
        have hi2 : Gr.Inv2 (grL n L HG.out) q S g := ⟨(Gr.owes_false _).1 how, HINV.out.sum⟩
        have hgq := inv1_range HINV.out hS hq
        have HRED : Hid (Gr.red W f = Gr.loopW ((grL n L HG.out).more q) ((grL n L HG.out).p2 q) (Gr.mu2 W g) g ∧ Gr.Inv2 (grL n L HG.out) q S g) := ⟨by unfold Gr.red; rw [hpay]; rfl, hi2⟩
        have hgq2 : -700 ≤ g q := by omega
        have HGQ := hid hgq2
        clear hpay hi2 hgq hgq2 HTOT c3
        go_wp2_with (go_at_call 209; (with_reducible refine (hasDebtBut_c n q _ g (grL n L HG.out) HGN _ hro).mono ?_); rintro e w' ⟨rfl, rfl⟩; rw [how])
        clear hro how
        go_loopg [11] (Gr.mu2 W g) (fun gk vv wr => ∃ (g s : Nat → Int) (z : Value), vv = z ∧ Gr.Inv2 (grL n L HG.out) q S g ∧ -700 ≤ g q ∧ gk = Gr.mu2 W g ∧ Gr.red W f = Gr.loopW ((grL n L HG.out).more q) ((grL n L HG.out).p2 q) (Gr.mu2 W g) g ∧
          FInts wr loO hiO (.slice (some ⟨gO, 0, none⟩) n cO) (lst n g) ∧ FInts wr gB (gB + 1) (.slice (some ⟨gB, 0, none⟩) n n) (lst n s) ∧ Below w.heap.size w wr ∧ w2.heap.size ≤ wr.heap.size)
        case atStart => exact ⟨g, s, _, rfl, HRED.out.2, HGQ.out, rfl, HRED.out.1, HF.out, HFS.out, HBW.out, hsw⟩
        case round =>
          obtain ⟨g, s, z, rfl, hinv, hgq, rfl, htot, hF, hFs, hb, hsw⟩ := hrel
          obtain ⟨wo, rfl⟩ : ∃ wo : World, wo = wr := ⟨_, rfl⟩
          have HINV2 := hid hinv
          have HTOT := hid htot
          have HF := hid hF
          have HFS := hid hFs
          have HBW := hid hb
          have HGQ2 := hid hgq
          have hro := hF.r
          have hrange := fun i (hi : i < n) => inv2_range hinv hS hq hgq (v := i) hi
          have HRA := hid hrange
          clear hinv htot hFs hb hF hgq hrange HRED HINV HGQ
          go_wp2_with fail
          refine (burnt_c n q L HG.out _ _ _ (HP.out.keep HBW.out) g hro hq (fun i hi => by have := HRA.out i hi; omega)).mono ?_
          rintro e w3 ⟨u3, rfl, hr3, hb3⟩
          obtain ⟨bb, hbb⟩ : ∃ bb, (grL n L HG.out).burnt g q = bb := ⟨_, rfl⟩
          rw [hbb] at hr3
          have hmore : (grL n L HG.out).more q g = decide (Gr.unm bb n ≠ 0) := by
            unfold Gr.more Gr.full; rw [hbb]; show (!decide (Gr.unm bb n = 0)) = _; simp
          have hhas := (hasB_marks n bb).trans hmore.symm
          have HBB := hid hbb
          obtain ⟨g3, c3, rfl, hl3, hh3⟩ := fi_form hr3 (by omega)
          have HR3 := hid hr3
          have hrr := hr3.r
          have HF3 := hid (HF.out.keep hb3)
          have HFS3 := hid (HFS.out.keep hb3)
          have HBW3 := hid (HBW.out.trans (hb3.mono HBW.out.size))
          have hsw3 := Nat.le_trans hsw hb3.size
          clear hro hr3 hb3 hbb hmore
          rcases Bool.eq_false_or_eq_true ((grL n L HG.out).more q g) with hmo | hmo
          · obtain ⟨st1, st2, st3, st4⟩ := win_step W HINV2.out hmo
            have HST := hid (And.intro st1 (And.intro st2 (And.intro st3 st4)))
            clear st1 st2 st3 st4
            rw [hmo] at hhas
            go_wp2_with (go_at_call 211; (with_reducible refine (contains_c _ (lst n (bI bb)) _ _ hrr).mono ?_); rintro e w' ⟨rfl, rfl⟩; rw [hhas])
            clear hhas hrr hmo
            go_loopg [63] n (fun gk vv wr => ∃ (k : Nat) (s : Nat → Int), k ≤ n ∧ gk = n - k ∧ vv = .int .i64 k ∧ FInts wr loO hiO (.slice (some ⟨gO, 0, none⟩) n cO) (lst n ((grL n L HG.out).fN bb k g)) ∧ FInts wr gB (gB + 1) (.slice (some ⟨gB, 0, none⟩) n n) (lst n s) ∧ FInts wr wo.heap.size w3.heap.size (.slice (some ⟨g3, 0, none⟩) n c3) (lst n (bI bb)) ∧ Below w.heap.size w wr ∧ w2.heap.size ≤ wr.heap.size)
            case atStart => exact ⟨0, s, Nat.zero_le _, rfl, rfl, HF3.out, HFS3.out, HR3.out, HBW3.out, hsw3⟩
            case round =>
              obtain ⟨k, s1, hk, rfl, rfl, hF, hFs, hr, hb, hsw4⟩ := hrel
              obtain ⟨wi, rfl⟩ : ∃ wi : World, wi = wr := ⟨_, rfl⟩
              have HFS1 := hid hFs
              have HBW1 := hid hb
              have HFW := hid hF
              have HRW := hid hr
              clear HF3 HFS3 HBW3 HR3 HF HFS HBW hsw3
              by_cases hlt : k < n
              · obtain ⟨g1, hg1⟩ : ∃ g1, (grL n L HG.out).fN bb k g = g1 := ⟨_, rfl⟩
                have hnext : (grL n L HG.out).fN bb (k + 1) g = if bb k then g1 else (grL n L HG.out).fire g1 k 1 := by rw [← hg1]; rfl
                have hbound : ∀ i, i < n → -100000 ≤ g1 i ∧ g1 i ≤ 100000 := fun i hi => by
                  have h1 := (grL n L HG.out).fN_bound bb g i hi k (Nat.le_of_lt hlt)
                  have h2 := HRA.out i hi
                  rw [hg1] at h1
                  omega
                rw [hg1] at HFW
                obtain ⟨hc, _, _⟩ := fi_open hr
                have b1 := (hc k hlt).1
                unfold bI at b1
                have HNEXT := hid hnext
                have HBO := hid hbound
                have hkz : (k : Int) < (n : Int) := by omega
                obtain ⟨bk, hbk⟩ : ∃ bk, bb k = bk := ⟨_, rfl⟩
                rw [hbk] at HNEXT b1
                have hAB : gB + 1 ≤ wo.heap.size ∧ hiO ≤ wo.heap.size := by omega
                clear hg1 hnext hbound hF hFs hr hb hbk hc
                cases bk with
                | true =>
                  rw [if_pos rfl] at b1
                  go_wp2
                  go_roundg (n - (k + 1))
                  case rel => exact ⟨k + 1, s1, by omega, rfl, by go_num, by rw [HNEXT.out]; exact HFW.out, HFS1.out, HRW.out, HBW1.out, hsw4⟩
                  case measure => omega
                | false =>
                  rw [if_neg (by decide)] at b1
                  go_wp2_with fail
                  refine (fire_c n L HG.out w _ _ HP.out loO hiO (by omega) HBW1.out gO cO k 1 _ HFW.out hlt (.inl rfl) HBO.out).mono ?_
                  rintro e w4 ⟨rfl, hF4, hT4⟩
                  have HF4 := hid hF4
                  have hFs4 := HFS1.out.same (.of_touch hT4 hdj)
                  have HR4 := hid (HRW.out.same (.of_touch hT4 (.inr hAB.2)))
                  have HB4 := hid (HBW1.out.trans (hT4.below hd1 HBW1.out.size))
                  have hsw5 := Nat.le_trans hsw4 hT4.size
                  obtain ⟨hsc, _, hsset⟩ := fi_open hFs4
                  have c5 := (hsc k hlt).1
                  have c6 := (hsc k hlt).2
                  obtain ⟨sk, hsk⟩ : ∃ sk, s1 k = sk := ⟨_, rfl⟩
                  rw [hsk] at c5
                  have HSS := hid (fun y => hsset k y hlt)
                  clear hsc hsset hsk hF4 hT4 hFs4 b1
                  go_wp2
                  go_roundg (n - (k + 1))
                  case rel => exact ⟨k + 1, _, by omega, rfl, by go_num, by rw [HNEXT.out]; exact HF4.out.same (.of_touch (HSS.out _).2 hdj'), (HSS.out _).1, HR4.out.same (.of_touch (HSS.out _).2 (.inr hAB.1)), HB4.out.trans ((HSS.out _).2.below hd2 HB4.out.size), Nat.le_trans hsw5 (HSS.out _).2.size⟩
                  case measure => omega
              · have hkn : k = n := by omega
                subst hkn
                clear hF hFs hb hr
                have hgq2 : -700 ≤ (grL k L HG.out).p2 q g q := Int.le_trans HGQ2.out HST.out.2.2.2
                have HG3 := hid hgq2
                have HF2 : Hid (FInts wi loO hiO (.slice (some ⟨gO, 0, none⟩) k cO) (lst k ((grL k L HG.out).p2 q g))) := by
                  have := HFW.out
                  show FInts _ _ _ _ _
                  unfold Gr.p2 Gr.fA
                  rw [HBB.out]; exact this
                clear hgq2
                go_wp2
                go_roundg (Gr.mu2 W ((grL k L HG.out).p2 q g))
                case rel => exact ⟨(grL k L HG.out).p2 q g, s1, _, rfl, HST.out.2.1, HG3.out, rfl, HTOT.out.trans HST.out.1, HF2.out, HFS1.out, HBW1.out, hsw4⟩
                case measure => exact HST.out.2.2.1
          · have HE : Hid (Gr.red W f = g) := by show _ = _; rw [HTOT.out, Gr.loopW_no hmo]
            rw [hmo] at hhas
            go_wp2_with (go_at_call 211; (with_reducible refine (contains_c _ (lst n (bI bb)) _ _ hrr).mono ?_); rintro e w' ⟨rfl, rfl⟩; rw [hhas])
            go_ret2
            exact ⟨_, _, rfl, by rw [HE.out]; exact HF3.out.r, HBW3.out⟩

end Go.Proofs.Ytlehhfmbdcmpoaa
