/- Reduced divisors: the reference's rdReduce. -/
import Derived.Test.YtlehhfmbdcmpoaaBurn
namespace Go.Proofs.Ytlehhfmbdcmpoaa
open Go.RowKit
open Go.Lib (hid)

/-- a reduced divisor and some script -/
def RetRed (w : World) (xs : List Int) (e : Ending) (w' : World) : Prop := ∃ v s, e = .returned (.tuple #[v, s]) ∧ RInts w' v xs ∧ Below w.heap.size w w'

theorem pay_step {n q : Nat} {L : List Lnk} {hG : GoodL n L} (W : (grL n L hG).Wt q) {S : Int} {g : Nat → Int} (h : Gr.Inv1 (grL n L hG) S g) (hc : (grL n L hG).owes q g = true) :
    Gr.loopW ((grL n L hG).owes q) ((grL n L hG).p1 q) (Gr.mu1 W g) g = Gr.loopW ((grL n L hG).owes q) ((grL n L hG).p1 q) (Gr.mu1 W ((grL n L hG).p1 q g)) ((grL n L hG).p1 q g) ∧ Gr.Inv1 (grL n L hG) S ((grL n L hG).p1 q g) ∧ Gr.mu1 W ((grL n L hG).p1 q g) < Gr.mu1 W g :=
  ⟨Gr.loopW_yes (Gr.step1 W S) h hc, (Gr.step1 W S g h hc).1, (Gr.step1 W S g h hc).2⟩
theorem win_step {n q : Nat} {L : List Lnk} {hG : GoodL n L} (W : (grL n L hG).Wt q) {S : Int} {g : Nat → Int} (h : Gr.Inv2 (grL n L hG) q S g) (hc : (grL n L hG).more q g = true) :
    Gr.loopW ((grL n L hG).more q) ((grL n L hG).p2 q) (Gr.mu2 W g) g = Gr.loopW ((grL n L hG).more q) ((grL n L hG).p2 q) (Gr.mu2 W ((grL n L hG).p2 q g)) ((grL n L hG).p2 q g) ∧ Gr.Inv2 (grL n L hG) q S ((grL n L hG).p2 q g) ∧ Gr.mu2 W ((grL n L hG).p2 q g) < Gr.mu2 W g ∧ g q ≤ (grL n L hG).p2 q g q :=
  ⟨Gr.loopW_yes (Gr.step2 W S) h hc, (Gr.step2 W S g h hc).1, (Gr.step2 W S g h hc).2, Gr.fA_ma _ ((grL n L hG).burnt_spec g q).1⟩
theorem inv1_range {n : Nat} {L : List Lnk} {hG : GoodL n L} {S : Int} {g : Nat → Int} (h : Gr.Inv1 (grL n L hG) S g) (hS : -320 ≤ S ∧ S ≤ 320) {v : Nat} (hv : v < n) : -600 ≤ g v ∧ g v ≤ 40 := by
  have h1 := h.up v hv
  have h2 := h.low (v := v) hv
  omega
theorem inv2_range {n q : Nat} {L : List Lnk} {hG : GoodL n L} {S : Int} {g : Nat → Int} (h : Gr.Inv2 (grL n L hG) q S g) (hS : -320 ≤ S ∧ S ≤ 320) (hq : q < n) (h0 : -700 ≤ g q) {v : Nat} (hv : v < n) : -700 ≤ g v ∧ g v ≤ 1020 := by
  have h1 := sumN_but g hq
  have h2 : sumN n g = S := h.sum
  have hnn : ∀ i, i < n → 0 ≤ (if i = q then 0 else g i) := fun i hi => by
    by_cases e : i = q
    · rw [if_pos e]; exact Int.le_refl _
    · rw [if_neg e]; exact h.pos i hi e
  have h3 : 0 ≤ sumN n (fun i => if i = q then 0 else g i) := sumN_nonneg hnn
  by_cases e : v = q
  · rw [e]; omega
  · have h4 := h.pos v hv e
    have h5 := le_sumN (f := fun i => if i = q then 0 else g i) hv (fun i hi _ => hnn i hi)
    rw [if_neg e] at h5
    omega
theorem prod_bound {t m T M : Int} (h1 : 0 ≤ t) (h2 : t ≤ T) (h3 : -M ≤ m) (h4 : m ≤ M) (hM : 0 ≤ M) : -(T * M) ≤ t * m ∧ t * m ≤ T * M := by
  have a1 : t * m ≤ t * M := Int.mul_le_mul_of_nonneg_left h4 h1
  have a2 : t * M ≤ T * M := Int.mul_le_mul_of_nonneg_right h2 hM
  have a3 : t * (-M) ≤ t * m := Int.mul_le_mul_of_nonneg_left h3 h1
  rw [Int.mul_neg] at a3
  omega
/-- the first j are done -/
def partF (f g : Nat → Int) (j : Nat) : Nat → Int := fun i => if i < j then g i else f i
theorem part_zero (n : Nat) (f g : Nat → Int) : lst n (partF f g 0) = lst n f := lst_congr (fun i _ => by unfold partF; rw [if_neg (by omega)])
theorem part_all (n : Nat) (f g : Nat → Int) : lst n (partF f g n) = lst n g := lst_congr (fun i hi => by unfold partF; rw [if_pos hi])
theorem part_at (f g : Nat → Int) (j : Nat) : partF f g j j = f j := by unfold partF; rw [if_neg (Nat.lt_irrefl j)]
theorem part_set (n : Nat) (f g : Nat → Int) {j : Nat} {y : Int} (hy : y = g j) : lst n (upd (partF f g j) j y) = lst n (partF f g (j + 1)) := lst_congr (fun i _ => by
  unfold upd partF
  by_cases e : i = j
  · subst e; rw [if_pos rfl, if_pos (by omega), hy]
  · rw [if_neg e]
    by_cases e2 : i < j
    · rw [if_pos e2, if_pos (by omega)]
    · rw [if_neg e2, if_neg (by omega)])

set_option maxRecDepth 100000 in
set_option maxHeartbeats 4000000 in
theorem rdReduce_c (n q : Nat) (v u : Value) (L : List Lnk) (f : Nat → Int) (S : Int) (w : World) (h : RLinks w v L) (hG : GoodL n L) (W : (grL n L hG).Wt q) (hd : RInts w u (lst n f)) (hq : q < n) (hI : Gr.Inv1 (grL n L hG) S f) (hS : -320 ≤ S ∧ S ≤ 320) :
    Calls Try.prog 202 #[.int .i64 n, v, u, .int .i64 q] w (RetRed w (lst n (Gr.red W f))) := by
  have HR := hid h
  have HD := hid hd
  have hn8 := hG.n8
  have hn1 := hG.n1
  obtain ⟨a, cap, rfl⟩ := h.form
  obtain ⟨gd, od, cd, rfl, hcd1, hcd2, _⟩ := ri_open hd (by omega)
  have HG := hid hG
  have HI := hid hI
  have HGN : Hid ((grL n L HG.out).n = n) := rfl
  have hmk := run_make_row' (P := Try.prog) 23 3 (.int .i64 0) 8 Try.underlying23 Try.infoInt rfl .i64 .i64 n (by omega) (by omega)
  clear h hd hI
  go_enter Try.func202, Try.ntmps202
  go_wp2_with fail
  refine (chLaplacian_c n _ L _ HR.out HG.out).mono ?_
  rintro e w1 ⟨u1, rfl, hF, hb1⟩
  have hR := hF.r
  obtain ⟨gM, oM, cM, Gm, Om, Cm, rfl, hcm1, hcm2, hrow, hent⟩ := rm_open hR (by omega)
  have HROW := hid hrow
  have HENT := hid hent
  have HB1 := hid hb1
  have HD1 := hid (HD.out.keep hb1)
  have hsz := hb1.size
  have hll : (lst n f).length ≤ 1048576 := by rw [lst_len]; omega
  have HDA : Hid (RInts w1.drew (.slice (some ⟨gd, od, none⟩) n cd) (lst n f)) := HD1.out
  have HDB : Hid (RInts (w1.alloc (.cells (madeCells #[.int .i64 0] n) 3)).drew (.slice (some ⟨gd, od, none⟩) n cd) (lst n f)) := HD1.out.keep ((Below.refl w1.heap.size w1).alloc (Nat.le_refl _) _).drew
  clear hF hR hrow hent hb1
  go_wp2
  go_region_with (first
    | (go_at_call 92; (with_reducible refine (l1Own_c _ (lst n f) _ HDA.out hll).mono ?_); rintro e wO ⟨uO, rfl, hFO, hbO⟩)
    | (go_at_call 92; (with_reducible refine (l1Own_c _ (lst n f) _ HDB.out hll).mono ?_); rintro e wO ⟨uO, rfl, hFO, hbO⟩))

  -- A
  · go_wp2
    obtain ⟨w2, hw2⟩ : ∃ w2 : World, w2 = wO.alloc (.cells (madeCells #[.int .i64 0] n) 3) := ⟨_, rfl⟩
    have hbO' : Below w1.heap.size w1 wO := below_of_drew hbO
    have hal : Below wO.heap.size wO w2 := by rw [hw2]; exact (Below.refl _ _).alloc (Nat.le_refl _) _
    have hFO1 : FInts wO w1.heap.size wO.heap.size uO (lst n f) := hFO
    obtain ⟨gO, cO, rfl, hlo, hhi⟩ := fi_form hFO1 (by omega)
    have hFO2 := hFO1.keep hal
    have hFS : FInts w2 wO.heap.size (wO.heap.size + 1) (.slice (some ⟨wO.heap.size, 0, none⟩) n n) (lst n (fun _ => 0)) := by rw [hw2]; exact fi_made wO n (by omega)
    have hbw2 : Below w1.heap.size w1 w2 := hbO'.trans (hal.mono hbO'.size)
    have hszz := hbO'.size
    have hs2 : wO.heap.size + 1 ≤ w2.heap.size := by rw [hw2]; simp
    obtain ⟨gB, hgB⟩ : ∃ gB, gB = wO.heap.size := ⟨_, rfl⟩
    obtain ⟨loO, hloO⟩ : ∃ lo, lo = w1.heap.size := ⟨_, rfl⟩
    obtain ⟨hiO, hhiO⟩ : ∃ lo, lo = wO.heap.size := ⟨_, rfl⟩
    have HX : Hid (FInts w2 loO hiO (.slice (some ⟨gO, 0, none⟩) n cO) (lst n f) ∧ FInts w2 gB (gB + 1) (.slice (some ⟨gB, 0, none⟩) n n) (lst n (fun _ => 0)) ∧ Below w1.heap.size w1 w2) := ⟨by rw [hloO, hhiO]; exact hFO2, by rw [hgB]; exact hFS, hbw2⟩
    have hdis : (hiO ≤ gB ∨ gB + 1 ≤ loO) ∧ w1.heap.size ≤ loO ∧ w1.heap.size ≤ gB ∧ hiO ≤ w2.heap.size ∧ gB + 1 ≤ w2.heap.size := by omega
    rw [← hw2, ← hgB]
    clear hFO hFO1 hFO2 hFS hbw2 hal hbO hbO' hw2 hgB hloO hhiO hs2 hszz hmk
    obtain ⟨hdj, hd1, hd2, hd3, hd4⟩ := hdis
    have hdj' : hiO ≤ gB ∨ gB + 1 ≤ loO := hdj
    have hdj : gB + 1 ≤ loO ∨ hiO ≤ gB := hdj'.symm
    clear HDA HDB
    simp only [Act.put, List.getElem_cons_succ, List.getElem_cons_zero, List.getElem_toArray, List.setIfInBounds_toArray, List.set_cons_succ, List.set_cons_zero]
    go_loopg [13] (Gr.mu1 W f) (fun gk vv wr => ∃ (g s : Nat → Int) (z : Value), vv = z ∧ Gr.Inv1 (grL n L HG.out) S g ∧ gk = Gr.mu1 W g ∧ Gr.pay W f = Gr.loopW ((grL n L HG.out).owes q) ((grL n L HG.out).p1 q) (Gr.mu1 W g) g ∧
      FInts wr loO hiO (.slice (some ⟨gO, 0, none⟩) n cO) (lst n g) ∧ FInts wr gB (gB + 1) (.slice (some ⟨gB, 0, none⟩) n n) (lst n s) ∧ Below w1.heap.size w1 wr ∧ w2.heap.size ≤ wr.heap.size)
    case atStart => exact ⟨f, fun _ => 0, _, rfl, HI.out, rfl, rfl, HX.out.1, HX.out.2.1, HX.out.2.2, Nat.le_refl _⟩
    case round =>
      obtain ⟨g, s, z, rfl, hinv, rfl, htot, hF, hFs, hb, hsw⟩ := hrel
      obtain ⟨wo, rfl⟩ : ∃ wo : World, wo = wr := ⟨_, rfl⟩
      have HINV := hid hinv
      have HTOT := hid htot
      have HF := hid hF
      have HFS := hid hFs
      have HBW := hid hb
      have hro := hF.r
      clear hinv htot hFs hb HX hF
      rcases Bool.eq_false_or_eq_true ((grL n L HG.out).owes q g) with how | how
      · obtain ⟨st1, st2, st3⟩ := pay_step W HINV.out how
        have HST := hid (And.intro st1 (And.intro st2 st3))
        clear st1 st2 st3
        go_wp2_with (go_at_call 214; (with_reducible refine (rdOwes_c n q _ g (grL n L HG.out) HGN _ hro).mono ?_); rintro e w' ⟨rfl, rfl⟩; rw [how])
        clear hro how
        go_loopg [13] n (fun gk vv wr => ∃ (k : Nat) (s : Nat → Int), k ≤ n ∧ gk = n - k ∧ vv = .int .i64 k ∧ FInts wr loO hiO (.slice (some ⟨gO, 0, none⟩) n cO) (lst n ((grL n L HG.out).p1N q k g)) ∧ FInts wr gB (gB + 1) (.slice (some ⟨gB, 0, none⟩) n n) (lst n s) ∧ Below w1.heap.size w1 wr ∧ w2.heap.size ≤ wr.heap.size)
        case atStart => exact ⟨0, s, Nat.zero_le _, rfl, rfl, HF.out, HFS.out, HBW.out, hsw⟩
        case round =>
          obtain ⟨k, s1, hk, rfl, rfl, hF, hFs, hb, hsw1⟩ := hrel
          obtain ⟨wi, rfl⟩ : ∃ wi : World, wi = wr := ⟨_, rfl⟩
          have HFS1 := hid hFs
          have HBW1 := hid hb
          have HFW := hid hF
          clear HF HFS HBW
          by_cases hlt : k < n
          · obtain ⟨g1, hg1⟩ : ∃ g1, (grL n L HG.out).p1N q k g = g1 := ⟨_, rfl⟩
            have hnext : (grL n L HG.out).p1N q (k + 1) g = (grL n L HG.out).bor q g1 k := by rw [← hg1]; rfl
            have hinv1 : Gr.Inv1 (grL n L HG.out) S g1 := by rw [← hg1]; exact Gr.p1N_inv W HINV.out k hk
            rw [hg1] at hF HFW
            have HNEXT := hid hnext
            have HINV1 := hid hinv1
            obtain ⟨hc, _, hset⟩ := fi_open hF
            have c1 := (hc k hlt).1
            have hrg := inv1_range hinv1 hS hlt
            obtain ⟨x, hx⟩ : ∃ x, g1 k = x := ⟨_, rfl⟩
            rw [hx] at c1 hrg
            have HXX := hid hx
            have hkz : (k : Int) < (n : Int) := by omega
            clear hg1 hnext hinv1 hx hc hset hF hFs hb
            by_cases hkq : k = q
            · have t1 : ((k : Int) == (q : Int)) = true := beq_nat_true hkq
              have HBO : Hid ((grL n L HG.out).bor q g1 k = g1) := by show _ = _; unfold Gr.bor; rw [if_neg]; rintro ⟨h1, _⟩; exact h1 hkq
              clear hkq
              go_wp2
              go_roundg (n - (k + 1))
              case rel => exact ⟨k + 1, s1, by omega, rfl, by go_num, by rw [HNEXT.out, HBO.out]; exact HFW.out, HFS1.out, HBW1.out, hsw1⟩
              case measure => omega
            · have t1 : ((k : Int) == (q : Int)) = false := beq_nat_false hkq
              by_cases hneg : x < 0
              · have hval := W.val_pos (v := k) hlt hkq
                have hval2 := (grL n L HG.out).val_le k hlt
                have hts := Gr.times_spec (G := grL n L HG.out) (f := g1) hval (by rw [HXX.out]; exact hneg)
                have hbo : (grL n L HG.out).bor q g1 k = (grL n L HG.out).fire g1 k (- (grL n L HG.out).times g1 k) := by unfold Gr.bor; rw [if_pos ⟨hkq, by rw [HXX.out]; exact hneg⟩]
                have htd : (grL n L HG.out).times g1 k = (- x + (grL n L HG.out).val k - 1) / (grL n L HG.out).val k := by unfold Gr.times; rw [HXX.out]
                obtain ⟨c, hcc⟩ : ∃ c, (grL n L HG.out).val k = c := ⟨_, rfl⟩
                obtain ⟨t, htt⟩ : ∃ t, (grL n L HG.out).times g1 k = t := ⟨_, rfl⟩
                rw [hcc] at hval hval2 hts htd
                rw [htt] at hts hbo htd
                rw [HXX.out] at hts
                have ht600 : t ≤ 700 := by
                  have h1 : t * 1 ≤ t * c := Int.mul_le_mul_of_nonneg_left hval (by omega)
                  omega
                have ht1 := hts.1
                have HTD := hid htd
                have HBO := hid hbo
                have e1 := (HBW1.out.cell (p := ⟨gM, oM + k, none⟩) (cell_lt (HROW.out k hlt))).trans (HROW.out k hlt)
                have e2 := (HBW1.out.cell (p := ⟨Gm k, Om k + k, none⟩) (cell_lt (HENT.out k k hlt hlt))).trans (HENT.out k k hlt hlt)
                have hlk : lapV n L k k = c := by rw [← hcc]; unfold lapV; rw [if_pos rfl]; rfl
                rw [hlk] at e2
                obtain ⟨hsc, _, hsset⟩ := fi_open HFS1.out
                have c5 := (hsc k hlt).1
                have c6 := (hsc k hlt).2
                obtain ⟨sk, hsk⟩ : ∃ sk, s1 k = sk := ⟨_, rfl⟩
                rw [hsk] at c5
                have HSS := hid (fun y => hsset k y hlt)
                have f1 : IntKind.i64.wrap (-x) = -x := IntWalk.i64_in _ (by omega)
                have f2 : IntKind.i64.wrap (-x + c) = -x + c := IntWalk.i64_in _ (by omega)
                have f3 : IntKind.i64.wrap (-x + c - 1) = -x + c - 1 := IntWalk.i64_in _ (by omega)
                have f4 : (-x + c - 1).tdiv c = t := by rw [Int.tdiv_eq_ediv_of_nonneg (by omega)]; exact HTD.out.symm
                have f5 : IntKind.i64.wrap t = t := IntWalk.i64_in _ (by omega)
                have f6 : (c == 0) = false := by rw [beq_eq_false_iff_ne]; omega
                clear hts hbo htd hlk hsc hsset hsk hcc htt
                go_wp2
                go_quiet (fail)
                clear f1 f2 f3 f4 f5 f6
                go_wp2
                have hlapk : ∀ j, (grL n L HG.out).lap k j = lapV n L k j := fun j => rfl
                have HLAP := hid hlapk
                clear hlapk c1 c5 c6 e1 e2
                go_loopg [15] n (fun gk vv wr => ∃ (j : Nat) (s : Nat → Int), j ≤ n ∧ gk = n - j ∧ vv = .int .i64 j ∧ FInts wr loO hiO (.slice (some ⟨gO, 0, none⟩) n cO) (lst n (partF g1 ((grL n L HG.out).fire g1 k (-t)) j)) ∧ FInts wr gB (gB + 1) (.slice (some ⟨gB, 0, none⟩) n n) (lst n s) ∧ Below w1.heap.size w1 wr ∧ w2.heap.size ≤ wr.heap.size)
                case atStart => exact ⟨0, _, Nat.zero_le _, rfl, rfl, by rw [part_zero]; exact FInts.drewN (n := nq) (HFW.out.same (.of_touch (HSS.out _).2 hdj')), FInts.drewN (n := nq) (HSS.out _).1, below_drewN (HBW1.out.trans ((HSS.out _).2.below hd2 HBW1.out.size)) nq, by have := (HSS.out (0 : Int)).2.size; simp [World.setCell]; omega⟩
                case round =>
                  obtain ⟨j, s2, hj, rfl, rfl, hF, hFs, hb, hsw2⟩ := hrel
                  have HFS2 := hid hFs
                  have HBW2 := hid hb
                  by_cases hltj : j < n
                  · obtain ⟨hc, _, hset⟩ := fi_open hF
                    obtain ⟨wq, hwq⟩ : ∃ wq : World, wq = wr.drew := ⟨_, rfl⟩
                    have a1 : wq.cell? ⟨gO, j, none⟩ = some (.int .i64 (g1 j)) := by rw [hwq]; have := (hc j hltj).1; rw [part_at] at this; exact this
                    have a2 : wq.frozen? ⟨gO, j, none⟩ = false := by rw [hwq]; exact (hc j hltj).2
                    have a3 : wq.cell? ⟨gM, oM + k, none⟩ = some (.slice (some ⟨Gm k, Om k, none⟩) n (Cm k)) := by rw [hwq]; exact (hb.cell (p := ⟨gM, oM + k, none⟩) (cell_lt (HROW.out k hlt))).trans (HROW.out k hlt)
                    have a4 : wq.cell? ⟨Gm k, Om k + j, none⟩ = some (.int .i64 (lapV n L k j)) := by rw [hwq]; exact (hb.cell (p := ⟨Gm k, Om k + j, none⟩) (cell_lt (HENT.out k j hlt hltj))).trans (HENT.out k j hlt hltj)
                    have hlb := lapV_bound HG.out (v := k) (u := j) hlt
                    have hyr := inv1_range HINV1.out hS hltj
                    have hfire : (grL n L HG.out).fire g1 k (-t) j = g1 j + t * lapV n L k j := by
                      unfold Gr.fire; rw [HLAP.out, Int.neg_mul]; omega
                    obtain ⟨m, hm⟩ : ∃ m, lapV n L k j = m := ⟨_, rfl⟩
                    obtain ⟨y, hy⟩ : ∃ y, g1 j = y := ⟨_, rfl⟩
                    rw [hm] at a4 hlb hfire
                    rw [hy] at a1 hyr hfire
                    have hpb := prod_bound (t := t) (m := m) (T := 700) (M := 40) (by omega) ht600 hlb.1 hlb.2 (by decide)
                    obtain ⟨pr, hpr⟩ : ∃ pr, t * m = pr := ⟨_, rfl⟩
                    rw [hpr] at hpb hfire
                    have hst := hset j (y + pr) hltj
                    rw [part_set n g1 _ hfire.symm] at hst
                    have HO : Hid (FInts (wq.setCell ⟨gO, j, none⟩ (.int .i64 (y + pr))) loO hiO (.slice (some ⟨gO, 0, none⟩) n cO) (lst n (partF g1 ((grL n L HG.out).fire g1 k (-t)) (j + 1))) ∧ Touch loO hiO wr (wq.setCell ⟨gO, j, none⟩ (.int .i64 (y + pr)))) := by
                      rw [hwq]; exact ⟨hst.1, ⟨hst.2.os, hst.2.tape, hst.2.output, hst.2.size, hst.2.block⟩⟩
                    have HWQ := hid hwq
                    have hjz : (j : Int) < (n : Int) := by omega
                    clear hF hFs hb hc hset hst hwq hm hy hfire
                    have f1 : IntKind.i64.wrap (t * m) = pr := by rw [hpr]; exact IntWalk.i64_in _ (by omega)
                    have f2 : IntKind.i64.wrap (y + pr) = y + pr := IntWalk.i64_in _ (by omega)
                    clear hpr
                    go_wp2
                    refine wp_region_still_tail 15 (by kernel_rfl) (by kernel_rfl) ?_
                    change wpStill _ _ wr.drew _ _ _
                    rw [← HWQ.out]
                    simp only [List.take_succ_cons, List.take_zero, List.drop_succ_cons, List.drop_zero]
                    repeat still_step
                    refine wpStill_nil ?_
                    change wpList _ _ _ _ _ wr.drew
                    rw [← HWQ.out]
                    clear f1 f2
                    go_wp2
                    go_roundg (n - (j + 1))
                    case rel => exact ⟨j + 1, s2, by omega, rfl, by go_num, HO.out.1, HFS2.out.same (.of_touch HO.out.2 hdj), HBW2.out.trans (HO.out.2.below hd1 HBW2.out.size), Nat.le_trans hsw2 HO.out.2.size⟩
                    case measure => omega
                  · have hjn : j = n := by omega
                    subst hjn
                    rw [part_all] at hF
                    have HF2 := hid hF
                    clear hF hFs hb
                    go_wp2
                    go_roundg (j - (k + 1))
                    case rel => exact ⟨k + 1, s2, by omega, rfl, by go_num, by rw [HNEXT.out, HBO.out]; exact HF2.out, HFS2.out, HBW2.out, hsw2⟩
                    case measure => omega
              · have HBO : Hid ((grL n L HG.out).bor q g1 k = g1) := by show _ = _; unfold Gr.bor; rw [if_neg]; rintro ⟨_, h2⟩; rw [HXX.out] at h2; exact hneg h2
                go_wp2
                go_roundg (n - (k + 1))
                case rel => exact ⟨k + 1, s1, by omega, rfl, by go_num, by rw [HNEXT.out, HBO.out]; exact HFW.out, HFS1.out, HBW1.out, hsw1⟩
                case measure => omega
          · have hkn : k = n := by omega
            subst hkn
            clear hF hFs hb
            go_wp2
            go_roundg (Gr.mu1 W ((grL k L HG.out).p1 q g))
            case rel => exact ⟨(grL k L HG.out).p1 q g, s1, _, rfl, HST.out.2.1, rfl, HTOT.out.trans HST.out.1, HFW.out, HFS1.out, HBW1.out, hsw1⟩
            case measure => exact HST.out.2.2
      · have hpay : Gr.pay W f = g := by rw [HTOT.out]; exact Gr.loopW_no how _
        have hi2 : Gr.Inv2 (grL n L HG.out) q S g := ⟨(Gr.owes_false _).1 how, HINV.out.sum⟩
        have hgq := inv1_range HINV.out hS hq
        have HRED : Hid (Gr.red W f = Gr.loopW ((grL n L HG.out).more q) ((grL n L HG.out).p2 q) (Gr.mu2 W g) g ∧ Gr.Inv2 (grL n L HG.out) q S g) := ⟨by unfold Gr.red; rw [hpay]; rfl, hi2⟩
        have hgq2 : -700 ≤ g q := by omega
        have HGQ := hid hgq2
        clear hpay hi2 hgq hgq2 HTOT
        go_wp2_with (go_at_call 214; (with_reducible refine (rdOwes_c n q _ g (grL n L HG.out) HGN _ hro).mono ?_); rintro e w' ⟨rfl, rfl⟩; rw [how])
        clear hro how
        go_loopg [17] (Gr.mu2 W g) (fun gk vv wr => ∃ (g s : Nat → Int) (z : Value), vv = z ∧ Gr.Inv2 (grL n L HG.out) q S g ∧ -700 ≤ g q ∧ gk = Gr.mu2 W g ∧ Gr.red W f = Gr.loopW ((grL n L HG.out).more q) ((grL n L HG.out).p2 q) (Gr.mu2 W g) g ∧
          FInts wr loO hiO (.slice (some ⟨gO, 0, none⟩) n cO) (lst n g) ∧ FInts wr gB (gB + 1) (.slice (some ⟨gB, 0, none⟩) n n) (lst n s) ∧ Below w1.heap.size w1 wr ∧ w2.heap.size ≤ wr.heap.size)
        case atStart => exact ⟨g, s, _, rfl, HRED.out.2, HGQ.out, rfl, HRED.out.1, HF.out, HFS.out, HBW.out, hsw⟩
        case round =>
          obtain ⟨g, s, z, rfl, hinv, hgq, rfl, htot, hF, hFs, hb, hsw⟩ := hrel
          obtain ⟨wo, rfl⟩ : ∃ wo : World, wo = wr := ⟨_, rfl⟩
          have HINV2 := hid hinv
          have HTOT := hid htot
          have HF := hid hF
          have HFS := hid hFs
          have HBW := hid hb
          have HGQ2 := hid hgq
          have hro := hF.r
          have hrl := HR.out.keep (HB1.out.trans (hb.mono hsz))
          have hrange := fun i (hi : i < n) => inv2_range hinv hS hq hgq (v := i) hi
          have HRA := hid hrange
          clear hinv htot hFs hb hF hgq hrange HRED HINV HGQ
          go_wp2_with fail
          refine (rdBurnt_c n q _ _ L g _ hrl HG.out hro hq (fun i hi => by have := HRA.out i hi; omega)).mono ?_
          rintro e w3 ⟨u3, rfl, hr3, hb3, hat3⟩
          obtain ⟨bb, hbb⟩ : ∃ bb, (grL n L HG.out).burnt g q = bb := ⟨_, rfl⟩
          rw [hbb] at hr3
          have hll3 := setL_len bb n
          have hmore : (grL n L HG.out).more q g = decide (Gr.unm bb n ≠ 0) := by
            unfold Gr.more Gr.full; rw [hbb]; show (!decide (Gr.unm bb n = 0)) = _; simp
          have HBB := hid hbb
          have HR3 := hid hr3
          have HF3 := hid (HF.out.keep hb3)
          have HFS3 := hid (HFS.out.keep hb3)
          have HBW3 := hid (HBW.out.trans (hb3.mono HBW.out.size))
          have hsw3 := Nat.le_trans hsw hb3.size
          obtain ⟨a3, c3, rfl⟩ : ∃ a c, u3 = .slice a (setL bb n).length c := by obtain ⟨a, c, e, _⟩ := hr3; exact ⟨a, c, e⟩
          have HAT := hid (show AtA a3 wo.heap.size from hat3.a)
          obtain ⟨N, hN⟩ : ∃ N, (setL bb n).length = N := ⟨_, rfl⟩
          rw [hN] at hll3 HR3 ⊢
          have HN := hid hN
          clear hro hrl hr3 hb3 hat3 hbb hN
          by_cases hun : Gr.unm bb n = 0
          · have t1 : ((N : Int) == (n : Int)) = true := by rw [beq_iff_eq]; omega
            have HM : Hid ((grL n L HG.out).more q g = false) := by show _ = _; rw [hmore, decide_eq_false_iff_not]; exact fun h => h hun
            have HE : Hid (Gr.red W f = g) := by show _ = _; rw [HTOT.out, Gr.loopW_no HM.out]
            clear hmore hun hll3
            go_wp2
            go_ret2
            exact ⟨_, _, rfl, by rw [HE.out]; exact HF3.out.r, HB1.out.trans (HBW3.out.mono hsz)⟩
          · have t1 : ((N : Int) == (n : Int)) = false := by rw [beq_eq_false_iff_ne]; omega
            obtain ⟨st1, st2, st3, st4⟩ := win_step W HINV2.out (by rw [hmore, decide_eq_true_iff]; exact hun)
            have HST := hid (And.intro st1 (And.intro st2 (And.intro st3 st4)))
            clear hmore hun hll3 st1 st2 st3 st4
            go_wp2
            go_loopg [17] n (fun gk vv wr => ∃ (k : Nat) (s : Nat → Int), k ≤ n ∧ gk = n - k ∧ vv = .int .i64 k ∧ FInts wr loO hiO (.slice (some ⟨gO, 0, none⟩) n cO) (lst n ((grL n L HG.out).fN bb k g)) ∧ FInts wr gB (gB + 1) (.slice (some ⟨gB, 0, none⟩) n n) (lst n s) ∧ RInts wr (.slice a3 N c3) (setL bb n) ∧ Below w1.heap.size w1 wr ∧ w2.heap.size ≤ wr.heap.size)
            case atStart => exact ⟨0, s, Nat.zero_le _, rfl, rfl, HF3.out, HFS3.out, HR3.out, HBW3.out, hsw3⟩
            case round =>
              obtain ⟨k, s1, hk, rfl, rfl, hF, hFs, hr, hb, hsw4⟩ := hrel
              obtain ⟨wi, rfl⟩ : ∃ wi : World, wi = wr := ⟨_, rfl⟩
              have HFS1 := hid hFs
              have HBW1 := hid hb
              have HFW := hid hF
              have HRW := hid hr
              clear HF3 HFS3 HBW3 HR3 HF HFS HBW hsw3
              by_cases hlt : k < n
              · obtain ⟨g1, hg1⟩ : ∃ g1, (grL n L HG.out).fN bb k g = g1 := ⟨_, rfl⟩
                have hnext : (grL n L HG.out).fN bb (k + 1) g = if bb k then g1 else (grL n L HG.out).fire g1 k 1 := by rw [← hg1]; rfl
                have hbound : ∀ i, i < n → -1100 ≤ g1 i ∧ g1 i ≤ 1400 := fun i hi => by
                  have h1 := (grL n L HG.out).fN_bound bb g i hi k (Nat.le_of_lt hlt)
                  have h2 := HRA.out i hi
                  rw [hg1] at h1
                  omega
                rw [hg1] at HFW
                have HNEXT := hid hnext
                have HBO := hid hbound
                have hkz : (k : Int) < (n : Int) := by omega
                obtain ⟨bk, hbk⟩ : ∃ bk, bb k = bk := ⟨_, rfl⟩
                rw [hbk] at HNEXT
                have hhas : hasB (setL bb n) (k : Int) = bk := by rw [hasB_setL hlt, hbk]
                clear hg1 hnext hbound hF hFs hr hb hbk
                cases bk with
                | true =>
                  go_wp2_with (go_at_call 206; (with_reducible refine (l1Has_c _ (setL bb n) _ _ HRW.out).mono ?_); rintro e w' ⟨rfl, rfl⟩; rw [hhas])
                  go_roundg (n - (k + 1))
                  case rel => exact ⟨k + 1, s1, by omega, rfl, by go_num, by rw [HNEXT.out]; exact HFW.out, HFS1.out, HRW.out, HBW1.out, hsw4⟩
                  case measure => omega
                | false =>
                  obtain ⟨hsc, _, hsset⟩ := fi_open HFS1.out
                  have c5 := (hsc k hlt).1
                  have c6 := (hsc k hlt).2
                  obtain ⟨sk, hsk⟩ : ∃ sk, s1 k = sk := ⟨_, rfl⟩
                  rw [hsk] at c5
                  have HSS := hid (fun y => hsset k y hlt)
                  have hlapk : ∀ j, (grL n L HG.out).lap k j = lapV n L k j := fun j => rfl
                  have HLAP := hid hlapk
                  have hAB : gB + 1 ≤ wo.heap.size ∧ hiO ≤ wo.heap.size := by omega
                  clear hsc hsset hsk hlapk
                  go_wp2_with (go_at_call 206; (with_reducible refine (l1Has_c _ (setL bb n) _ _ HRW.out).mono ?_); rintro e w' ⟨rfl, rfl⟩; rw [hhas])
                  clear c5 c6 hhas
                  go_loopg [18] n (fun gk vv wr => ∃ (j : Nat) (s : Nat → Int), j ≤ n ∧ gk = n - j ∧ vv = .int .i64 j ∧ FInts wr loO hiO (.slice (some ⟨gO, 0, none⟩) n cO) (lst n (partF g1 ((grL n L HG.out).fire g1 k 1) j)) ∧ FInts wr gB (gB + 1) (.slice (some ⟨gB, 0, none⟩) n n) (lst n s) ∧ RInts wr (.slice a3 N c3) (setL bb n) ∧ Below w1.heap.size w1 wr ∧ w2.heap.size ≤ wr.heap.size)
                  case atStart => exact ⟨0, _, Nat.zero_le _, rfl, rfl, by rw [part_zero]; exact HFW.out.same (.of_touch (HSS.out _).2 hdj'), (HSS.out _).1, HRW.out.far HAT.out.b (HSS.out _).2 hAB.1, HBW1.out.trans ((HSS.out _).2.below hd2 HBW1.out.size), by simp [World.setCell]; omega⟩
                  case round =>
                    obtain ⟨j, s2, hj, rfl, rfl, hF, hFs, hr, hb, hsw5⟩ := hrel
                    have HFS2 := hid hFs
                    have HBW2 := hid hb
                    have HRW2 := hid hr
                    by_cases hltj : j < n
                    · obtain ⟨hc, _, hset⟩ := fi_open hF
                      obtain ⟨wq, hwq⟩ : ∃ wq : World, wq = wr.drew := ⟨_, rfl⟩
                      have a1 : wq.cell? ⟨gO, j, none⟩ = some (.int .i64 (g1 j)) := by rw [hwq]; have := (hc j hltj).1; rw [part_at] at this; exact this
                      have a2 : wq.frozen? ⟨gO, j, none⟩ = false := by rw [hwq]; exact (hc j hltj).2
                      have a3 : wq.cell? ⟨gM, oM + k, none⟩ = some (.slice (some ⟨Gm k, Om k, none⟩) n (Cm k)) := by rw [hwq]; exact (hb.cell (p := ⟨gM, oM + k, none⟩) (cell_lt (HROW.out k hlt))).trans (HROW.out k hlt)
                      have a4 : wq.cell? ⟨Gm k, Om k + j, none⟩ = some (.int .i64 (lapV n L k j)) := by rw [hwq]; exact (hb.cell (p := ⟨Gm k, Om k + j, none⟩) (cell_lt (HENT.out k j hlt hltj))).trans (HENT.out k j hlt hltj)
                      have hlb := lapV_bound HG.out (v := k) (u := j) hlt
                      have hyr := HBO.out j hltj
                      have hfire : (grL n L HG.out).fire g1 k 1 j = g1 j - lapV n L k j := by
                        unfold Gr.fire; rw [HLAP.out, Int.one_mul]
                      obtain ⟨m, hm⟩ : ∃ m, lapV n L k j = m := ⟨_, rfl⟩
                      obtain ⟨y, hy⟩ : ∃ y, g1 j = y := ⟨_, rfl⟩
                      rw [hm] at a4 hlb hfire
                      rw [hy] at a1 hyr hfire
                      have hst := hset j (y - m) hltj
                      rw [part_set n g1 _ hfire.symm] at hst
                      have HO : Hid (FInts (wq.setCell ⟨gO, j, none⟩ (.int .i64 (y - m))) loO hiO (.slice (some ⟨gO, 0, none⟩) n cO) (lst n (partF g1 ((grL n L HG.out).fire g1 k 1) (j + 1))) ∧ Touch loO hiO wr (wq.setCell ⟨gO, j, none⟩ (.int .i64 (y - m)))) := by
                        rw [hwq]; exact ⟨hst.1, ⟨hst.2.os, hst.2.tape, hst.2.output, hst.2.size, hst.2.block⟩⟩
                      have HWQ := hid hwq
                      have hjz : (j : Int) < (n : Int) := by omega
                      clear hF hFs hb hr hc hset hst hwq hm hy hfire
                      have f1 : IntKind.i64.wrap (y - m) = y - m := IntWalk.i64_in _ (by omega)
                      go_wp2
                      refine wp_region_still_tail 13 (by kernel_rfl) (by kernel_rfl) ?_
                      change wpStill _ _ wr.drew _ _ _
                      rw [← HWQ.out]
                      simp only [List.take_succ_cons, List.take_zero, List.drop_succ_cons, List.drop_zero]
                      repeat still_step
                      refine wpStill_nil ?_
                      change wpList _ _ _ _ _ wr.drew
                      rw [← HWQ.out]
                      clear f1
                      go_wp2
                      go_roundg (n - (j + 1))
                      case rel => exact ⟨j + 1, s2, by omega, rfl, by go_num, HO.out.1, HFS2.out.same (.of_touch HO.out.2 hdj), HRW2.out.far HAT.out.b HO.out.2 hAB.2, HBW2.out.trans (HO.out.2.below hd1 HBW2.out.size), Nat.le_trans hsw5 HO.out.2.size⟩
                      case measure => omega
                    · have hjn : j = n := by omega
                      subst hjn
                      rw [part_all] at hF
                      have HF2 := hid hF
                      clear hF hFs hb hr
                      go_wp2
                      go_roundg (j - (k + 1))
                      case rel => exact ⟨k + 1, s2, by omega, rfl, by go_num, by rw [HNEXT.out]; exact HF2.out, HFS2.out, HRW2.out, HBW2.out, hsw5⟩
                      case measure => omega
              · have hkn : k = n := by omega
                subst hkn
                clear hF hFs hb hr
                have hgq2 : -700 ≤ (grL k L HG.out).p2 q g q := Int.le_trans HGQ2.out HST.out.2.2.2
                have HG3 := hid hgq2
                have HF2 : Hid (FInts wi loO hiO (.slice (some ⟨gO, 0, none⟩) k cO) (lst k ((grL k L HG.out).p2 q g))) := by
                  have := HFW.out
                  show FInts _ _ _ _ _
                  unfold Gr.p2 Gr.fA
                  rw [HBB.out]; exact this
                clear hgq2
                go_wp2
                go_roundg (Gr.mu2 W ((grL k L HG.out).p2 q g))
                case rel => exact ⟨(grL k L HG.out).p2 q g, s1, _, rfl, HST.out.2.1, HG3.out, rfl, HTOT.out.trans HST.out.1, HF2.out, HFS1.out, HBW1.out, hsw4⟩
                case measure => exact HST.out.2.2.1
  -- B
  · go_wp2
    obtain ⟨w2, hw2⟩ : ∃ w2 : World, w2 = wO := ⟨_, rfl⟩
    have hal : Below w1.heap.size w1 (w1.alloc (.cells (madeCells #[.int .i64 0] n) 3)) := (Below.refl _ _).alloc (Nat.le_refl _) _
    have hbO' : Below (w1.alloc (.cells (madeCells #[.int .i64 0] n) 3)).heap.size (w1.alloc (.cells (madeCells #[.int .i64 0] n) 3)) wO := below_of_drew hbO
    have hsa : (w1.alloc (.cells (madeCells #[.int .i64 0] n) 3)).heap.size = w1.heap.size + 1 := by simp
    have hFO1 : FInts wO (w1.heap.size + 1) wO.heap.size uO (lst n f) := by rw [← hsa]; exact hFO
    obtain ⟨gO, cO, rfl, hlo, hhi⟩ := fi_form hFO1 (by omega)
    have hFS : FInts wO w1.heap.size (w1.heap.size + 1) (.slice (some ⟨w1.heap.size, 0, none⟩) n n) (lst n (fun _ => 0)) := (fi_made w1 n (by omega)).keep hbO'
    have hbw2 : Below w1.heap.size w1 wO := hal.trans (hbO'.mono hal.size)
    have hszz := hbO'.size
    obtain ⟨gB, hgB⟩ : ∃ gB, gB = w1.heap.size := ⟨_, rfl⟩
    obtain ⟨loO, hloO⟩ : ∃ lo, lo = w1.heap.size + 1 := ⟨_, rfl⟩
    obtain ⟨hiO, hhiO⟩ : ∃ lo, lo = wO.heap.size := ⟨_, rfl⟩
    have HX : Hid (FInts w2 loO hiO (.slice (some ⟨gO, 0, none⟩) n cO) (lst n f) ∧ FInts w2 gB (gB + 1) (.slice (some ⟨gB, 0, none⟩) n n) (lst n (fun _ => 0)) ∧ Below w1.heap.size w1 w2) := ⟨by rw [hloO, hhiO, hw2]; exact hFO1, by rw [hgB, hw2]; exact hFS, by rw [hw2]; exact hbw2⟩
    have hdis : (hiO ≤ gB ∨ gB + 1 ≤ loO) ∧ w1.heap.size ≤ loO ∧ w1.heap.size ≤ gB ∧ hiO ≤ w2.heap.size ∧ gB + 1 ≤ w2.heap.size := by rw [hw2]; omega
    rw [← hw2, ← hgB]
    clear hFO hFO1 hFS hbw2 hal hbO hbO' hw2 hgB hloO hhiO hszz hsa hmk
    obtain ⟨hdj, hd1, hd2, hd3, hd4⟩ := hdis
    have hdj' : hiO ≤ gB ∨ gB + 1 ≤ loO := hdj
    have hdj : gB + 1 ≤ loO ∨ hiO ≤ gB := hdj'.symm
    clear HDA HDB
    simp only [Act.put, List.getElem_cons_succ, List.getElem_cons_zero, List.getElem_toArray, List.setIfInBounds_toArray, List.set_cons_succ, List.set_cons_zero]
    go_loopg [13] (Gr.mu1 W f) (fun gk vv wr => ∃ (g s : Nat → Int) (z : Value), vv = z ∧ Gr.Inv1 (grL n L HG.out) S g ∧ gk = Gr.mu1 W g ∧ Gr.pay W f = Gr.loopW ((grL n L HG.out).owes q) ((grL n L HG.out).p1 q) (Gr.mu1 W g) g ∧
      FInts wr loO hiO (.slice (some ⟨gO, 0, none⟩) n cO) (lst n g) ∧ FInts wr gB (gB + 1) (.slice (some ⟨gB, 0, none⟩) n n) (lst n s) ∧ Below w1.heap.size w1 wr ∧ w2.heap.size ≤ wr.heap.size)
    case atStart => exact ⟨f, fun _ => 0, _, rfl, HI.out, rfl, rfl, HX.out.1, HX.out.2.1, HX.out.2.2, Nat.le_refl _⟩
    case round =>
      obtain ⟨g, s, z, rfl, hinv, rfl, htot, hF, hFs, hb, hsw⟩ := hrel
      obtain ⟨wo, rfl⟩ : ∃ wo : World, wo = wr := ⟨_, rfl⟩
      have HINV := hid hinv
      have HTOT := hid htot
      have HF := hid hF
      have HFS := hid hFs
      have HBW := hid hb
      have hro := hF.r
      clear hinv htot hFs hb HX hF
      rcases Bool.eq_false_or_eq_true ((grL n L HG.out).owes q g) with how | how
      · obtain ⟨st1, st2, st3⟩ := pay_step W HINV.out how
        have HST := hid (And.intro st1 (And.intro st2 st3))
        clear st1 st2 st3
        go_wp2_with (go_at_call 214; (with_reducible refine (rdOwes_c n q _ g (grL n L HG.out) HGN _ hro).mono ?_); rintro e w' ⟨rfl, rfl⟩; rw [how])
        clear hro how
        go_loopg [13] n (fun gk vv wr => ∃ (k : Nat) (s : Nat → Int), k ≤ n ∧ gk = n - k ∧ vv = .int .i64 k ∧ FInts wr loO hiO (.slice (some ⟨gO, 0, none⟩) n cO) (lst n ((grL n L HG.out).p1N q k g)) ∧ FInts wr gB (gB + 1) (.slice (some ⟨gB, 0, none⟩) n n) (lst n s) ∧ Below w1.heap.size w1 wr ∧ w2.heap.size ≤ wr.heap.size)
        case atStart => exact ⟨0, s, Nat.zero_le _, rfl, rfl, HF.out, HFS.out, HBW.out, hsw⟩
        case round =>
          obtain ⟨k, s1, hk, rfl, rfl, hF, hFs, hb, hsw1⟩ := hrel
          obtain ⟨wi, rfl⟩ : ∃ wi : World, wi = wr := ⟨_, rfl⟩
          have HFS1 := hid hFs
          have HBW1 := hid hb
          have HFW := hid hF
          clear HF HFS HBW
          by_cases hlt : k < n
          · obtain ⟨g1, hg1⟩ : ∃ g1, (grL n L HG.out).p1N q k g = g1 := ⟨_, rfl⟩
            have hnext : (grL n L HG.out).p1N q (k + 1) g = (grL n L HG.out).bor q g1 k := by rw [← hg1]; rfl
            have hinv1 : Gr.Inv1 (grL n L HG.out) S g1 := by rw [← hg1]; exact Gr.p1N_inv W HINV.out k hk
            rw [hg1] at hF HFW
            have HNEXT := hid hnext
            have HINV1 := hid hinv1
            obtain ⟨hc, _, hset⟩ := fi_open hF
            have c1 := (hc k hlt).1
            have hrg := inv1_range hinv1 hS hlt
            obtain ⟨x, hx⟩ : ∃ x, g1 k = x := ⟨_, rfl⟩
            rw [hx] at c1 hrg
            have HXX := hid hx
            have hkz : (k : Int) < (n : Int) := by omega
            clear hg1 hnext hinv1 hx hc hset hF hFs hb
            by_cases hkq : k = q
            · have t1 : ((k : Int) == (q : Int)) = true := beq_nat_true hkq
              have HBO : Hid ((grL n L HG.out).bor q g1 k = g1) := by show _ = _; unfold Gr.bor; rw [if_neg]; rintro ⟨h1, _⟩; exact h1 hkq
              clear hkq
              go_wp2
              go_roundg (n - (k + 1))
              case rel => exact ⟨k + 1, s1, by omega, rfl, by go_num, by rw [HNEXT.out, HBO.out]; exact HFW.out, HFS1.out, HBW1.out, hsw1⟩
              case measure => omega
            · have t1 : ((k : Int) == (q : Int)) = false := beq_nat_false hkq
              by_cases hneg : x < 0
              · have hval := W.val_pos (v := k) hlt hkq
                have hval2 := (grL n L HG.out).val_le k hlt
                have hts := Gr.times_spec (G := grL n L HG.out) (f := g1) hval (by rw [HXX.out]; exact hneg)
                have hbo : (grL n L HG.out).bor q g1 k = (grL n L HG.out).fire g1 k (- (grL n L HG.out).times g1 k) := by unfold Gr.bor; rw [if_pos ⟨hkq, by rw [HXX.out]; exact hneg⟩]
                have htd : (grL n L HG.out).times g1 k = (- x + (grL n L HG.out).val k - 1) / (grL n L HG.out).val k := by unfold Gr.times; rw [HXX.out]
                obtain ⟨c, hcc⟩ : ∃ c, (grL n L HG.out).val k = c := ⟨_, rfl⟩
                obtain ⟨t, htt⟩ : ∃ t, (grL n L HG.out).times g1 k = t := ⟨_, rfl⟩
                rw [hcc] at hval hval2 hts htd
                rw [htt] at hts hbo htd
                rw [HXX.out] at hts
                have ht600 : t ≤ 700 := by
                  have h1 : t * 1 ≤ t * c := Int.mul_le_mul_of_nonneg_left hval (by omega)
                  omega
                have ht1 := hts.1
                have HTD := hid htd
                have HBO := hid hbo
                have e1 := (HBW1.out.cell (p := ⟨gM, oM + k, none⟩) (cell_lt (HROW.out k hlt))).trans (HROW.out k hlt)
                have e2 := (HBW1.out.cell (p := ⟨Gm k, Om k + k, none⟩) (cell_lt (HENT.out k k hlt hlt))).trans (HENT.out k k hlt hlt)
                have hlk : lapV n L k k = c := by rw [← hcc]; unfold lapV; rw [if_pos rfl]; rfl
                rw [hlk] at e2
                obtain ⟨hsc, _, hsset⟩ := fi_open HFS1.out
                have c5 := (hsc k hlt).1
                have c6 := (hsc k hlt).2
                obtain ⟨sk, hsk⟩ : ∃ sk, s1 k = sk := ⟨_, rfl⟩
                rw [hsk] at c5
                have HSS := hid (fun y => hsset k y hlt)
                have f1 : IntKind.i64.wrap (-x) = -x := IntWalk.i64_in _ (by omega)
                have f2 : IntKind.i64.wrap (-x + c) = -x + c := IntWalk.i64_in _ (by omega)
                have f3 : IntKind.i64.wrap (-x + c - 1) = -x + c - 1 := IntWalk.i64_in _ (by omega)
                have f4 : (-x + c - 1).tdiv c = t := by rw [Int.tdiv_eq_ediv_of_nonneg (by omega)]; exact HTD.out.symm
                have f5 : IntKind.i64.wrap t = t := IntWalk.i64_in _ (by omega)
                have f6 : (c == 0) = false := by rw [beq_eq_false_iff_ne]; omega
                clear hts hbo htd hlk hsc hsset hsk hcc htt
                go_wp2
                go_quiet (fail)
                clear f1 f2 f3 f4 f5 f6
                go_wp2
                have hlapk : ∀ j, (grL n L HG.out).lap k j = lapV n L k j := fun j => rfl
                have HLAP := hid hlapk
                clear hlapk c1 c5 c6 e1 e2
                go_loopg [15] n (fun gk vv wr => ∃ (j : Nat) (s : Nat → Int), j ≤ n ∧ gk = n - j ∧ vv = .int .i64 j ∧ FInts wr loO hiO (.slice (some ⟨gO, 0, none⟩) n cO) (lst n (partF g1 ((grL n L HG.out).fire g1 k (-t)) j)) ∧ FInts wr gB (gB + 1) (.slice (some ⟨gB, 0, none⟩) n n) (lst n s) ∧ Below w1.heap.size w1 wr ∧ w2.heap.size ≤ wr.heap.size)
                case atStart => exact ⟨0, _, Nat.zero_le _, rfl, rfl, by rw [part_zero]; exact FInts.drewN (n := nq) (HFW.out.same (.of_touch (HSS.out _).2 hdj')), FInts.drewN (n := nq) (HSS.out _).1, below_drewN (HBW1.out.trans ((HSS.out _).2.below hd2 HBW1.out.size)) nq, by have := (HSS.out (0 : Int)).2.size; simp [World.setCell]; omega⟩
                case round =>
                  obtain ⟨j, s2, hj, rfl, rfl, hF, hFs, hb, hsw2⟩ := hrel
                  have HFS2 := hid hFs
                  have HBW2 := hid hb
                  by_cases hltj : j < n
                  · obtain ⟨hc, _, hset⟩ := fi_open hF
                    obtain ⟨wq, hwq⟩ : ∃ wq : World, wq = wr.drew := ⟨_, rfl⟩
                    have a1 : wq.cell? ⟨gO, j, none⟩ = some (.int .i64 (g1 j)) := by rw [hwq]; have := (hc j hltj).1; rw [part_at] at this; exact this
                    have a2 : wq.frozen? ⟨gO, j, none⟩ = false := by rw [hwq]; exact (hc j hltj).2
                    have a3 : wq.cell? ⟨gM, oM + k, none⟩ = some (.slice (some ⟨Gm k, Om k, none⟩) n (Cm k)) := by rw [hwq]; exact (hb.cell (p := ⟨gM, oM + k, none⟩) (cell_lt (HROW.out k hlt))).trans (HROW.out k hlt)
                    have a4 : wq.cell? ⟨Gm k, Om k + j, none⟩ = some (.int .i64 (lapV n L k j)) := by rw [hwq]; exact (hb.cell (p := ⟨Gm k, Om k + j, none⟩) (cell_lt (HENT.out k j hlt hltj))).trans (HENT.out k j hlt hltj)
                    have hlb := lapV_bound HG.out (v := k) (u := j) hlt
                    have hyr := inv1_range HINV1.out hS hltj
                    have hfire : (grL n L HG.out).fire g1 k (-t) j = g1 j + t * lapV n L k j := by
                      unfold Gr.fire; rw [HLAP.out, Int.neg_mul]; omega
                    obtain ⟨m, hm⟩ : ∃ m, lapV n L k j = m := ⟨_, rfl⟩
                    obtain ⟨y, hy⟩ : ∃ y, g1 j = y := ⟨_, rfl⟩
                    rw [hm] at a4 hlb hfire
                    rw [hy] at a1 hyr hfire
                    have hpb := prod_bound (t := t) (m := m) (T := 700) (M := 40) (by omega) ht600 hlb.1 hlb.2 (by decide)
                    obtain ⟨pr, hpr⟩ : ∃ pr, t * m = pr := ⟨_, rfl⟩
                    rw [hpr] at hpb hfire
                    have hst := hset j (y + pr) hltj
                    rw [part_set n g1 _ hfire.symm] at hst
                    have HO : Hid (FInts (wq.setCell ⟨gO, j, none⟩ (.int .i64 (y + pr))) loO hiO (.slice (some ⟨gO, 0, none⟩) n cO) (lst n (partF g1 ((grL n L HG.out).fire g1 k (-t)) (j + 1))) ∧ Touch loO hiO wr (wq.setCell ⟨gO, j, none⟩ (.int .i64 (y + pr)))) := by
                      rw [hwq]; exact ⟨hst.1, ⟨hst.2.os, hst.2.tape, hst.2.output, hst.2.size, hst.2.block⟩⟩
                    have HWQ := hid hwq
                    have hjz : (j : Int) < (n : Int) := by omega
                    clear hF hFs hb hc hset hst hwq hm hy hfire
                    have f1 : IntKind.i64.wrap (t * m) = pr := by rw [hpr]; exact IntWalk.i64_in _ (by omega)
                    have f2 : IntKind.i64.wrap (y + pr) = y + pr := IntWalk.i64_in _ (by omega)
                    clear hpr
                    go_wp2
                    refine wp_region_still_tail 15 (by kernel_rfl) (by kernel_rfl) ?_
                    change wpStill _ _ wr.drew _ _ _
                    rw [← HWQ.out]
                    simp only [List.take_succ_cons, List.take_zero, List.drop_succ_cons, List.drop_zero]
                    repeat still_step
                    refine wpStill_nil ?_
                    change wpList _ _ _ _ _ wr.drew
                    rw [← HWQ.out]
                    clear f1 f2
                    go_wp2
                    go_roundg (n - (j + 1))
                    case rel => exact ⟨j + 1, s2, by omega, rfl, by go_num, HO.out.1, HFS2.out.same (.of_touch HO.out.2 hdj), HBW2.out.trans (HO.out.2.below hd1 HBW2.out.size), Nat.le_trans hsw2 HO.out.2.size⟩
                    case measure => omega
                  · have hjn : j = n := by omega
                    subst hjn
                    rw [part_all] at hF
                    have HF2 := hid hF
                    clear hF hFs hb
                    go_wp2
                    go_roundg (j - (k + 1))
                    case rel => exact ⟨k + 1, s2, by omega, rfl, by go_num, by rw [HNEXT.out, HBO.out]; exact HF2.out, HFS2.out, HBW2.out, hsw2⟩
                    case measure => omega
              · have HBO : Hid ((grL n L HG.out).bor q g1 k = g1) := by show _ = _; unfold Gr.bor; rw [if_neg]; rintro ⟨_, h2⟩; rw [HXX.out] at h2; exact hneg h2
                go_wp2
                go_roundg (n - (k + 1))
                case rel => exact ⟨k + 1, s1, by omega, rfl, by go_num, by rw [HNEXT.out, HBO.out]; exact HFW.out, HFS1.out, HBW1.out, hsw1⟩
                case measure => omega
          · have hkn : k = n := by omega
            subst hkn
            clear hF hFs hb
            go_wp2
            go_roundg (Gr.mu1 W ((grL k L HG.out).p1 q g))
            case rel => exact ⟨(grL k L HG.out).p1 q g, s1, _, rfl, HST.out.2.1, rfl, HTOT.out.trans HST.out.1, HFW.out, HFS1.out, HBW1.out, hsw1⟩
            case measure => exact HST.out.2.2
      · have hpay : Gr.pay W f = g := by rw [HTOT.out]; exact Gr.loopW_no how _
        have hi2 : Gr.Inv2 (grL n L HG.out) q S g := ⟨(Gr.owes_false _).1 how, HINV.out.sum⟩
        have hgq := inv1_range HINV.out hS hq
        have HRED : Hid (Gr.red W f = Gr.loopW ((grL n L HG.out).more q) ((grL n L HG.out).p2 q) (Gr.mu2 W g) g ∧ Gr.Inv2 (grL n L HG.out) q S g) := ⟨by unfold Gr.red; rw [hpay]; rfl, hi2⟩
        have hgq2 : -700 ≤ g q := by omega
        have HGQ := hid hgq2
        clear hpay hi2 hgq hgq2 HTOT
        go_wp2_with (go_at_call 214; (with_reducible refine (rdOwes_c n q _ g (grL n L HG.out) HGN _ hro).mono ?_); rintro e w' ⟨rfl, rfl⟩; rw [how])
        clear hro how
        go_loopg [17] (Gr.mu2 W g) (fun gk vv wr => ∃ (g s : Nat → Int) (z : Value), vv = z ∧ Gr.Inv2 (grL n L HG.out) q S g ∧ -700 ≤ g q ∧ gk = Gr.mu2 W g ∧ Gr.red W f = Gr.loopW ((grL n L HG.out).more q) ((grL n L HG.out).p2 q) (Gr.mu2 W g) g ∧
          FInts wr loO hiO (.slice (some ⟨gO, 0, none⟩) n cO) (lst n g) ∧ FInts wr gB (gB + 1) (.slice (some ⟨gB, 0, none⟩) n n) (lst n s) ∧ Below w1.heap.size w1 wr ∧ w2.heap.size ≤ wr.heap.size)
        case atStart => exact ⟨g, s, _, rfl, HRED.out.2, HGQ.out, rfl, HRED.out.1, HF.out, HFS.out, HBW.out, hsw⟩
        case round =>
          obtain ⟨g, s, z, rfl, hinv, hgq, rfl, htot, hF, hFs, hb, hsw⟩ := hrel
          obtain ⟨wo, rfl⟩ : ∃ wo : World, wo = wr := ⟨_, rfl⟩
          have HINV2 := hid hinv
          have HTOT := hid htot
          have HF := hid hF
          have HFS := hid hFs
          have HBW := hid hb
          have HGQ2 := hid hgq
          have hro := hF.r
          have hrl := HR.out.keep (HB1.out.trans (hb.mono hsz))
          have hrange := fun i (hi : i < n) => inv2_range hinv hS hq hgq (v := i) hi
          have HRA := hid hrange
          clear hinv htot hFs hb hF hgq hrange HRED HINV HGQ
          go_wp2_with fail
          refine (rdBurnt_c n q _ _ L g _ hrl HG.out hro hq (fun i hi => by have := HRA.out i hi; omega)).mono ?_
          rintro e w3 ⟨u3, rfl, hr3, hb3, hat3⟩
          obtain ⟨bb, hbb⟩ : ∃ bb, (grL n L HG.out).burnt g q = bb := ⟨_, rfl⟩
          rw [hbb] at hr3
          have hll3 := setL_len bb n
          have hmore : (grL n L HG.out).more q g = decide (Gr.unm bb n ≠ 0) := by
            unfold Gr.more Gr.full; rw [hbb]; show (!decide (Gr.unm bb n = 0)) = _; simp
          have HBB := hid hbb
          have HR3 := hid hr3
          have HF3 := hid (HF.out.keep hb3)
          have HFS3 := hid (HFS.out.keep hb3)
          have HBW3 := hid (HBW.out.trans (hb3.mono HBW.out.size))
          have hsw3 := Nat.le_trans hsw hb3.size
          obtain ⟨a3, c3, rfl⟩ : ∃ a c, u3 = .slice a (setL bb n).length c := by obtain ⟨a, c, e, _⟩ := hr3; exact ⟨a, c, e⟩
          have HAT := hid (show AtA a3 wo.heap.size from hat3.a)
          obtain ⟨N, hN⟩ : ∃ N, (setL bb n).length = N := ⟨_, rfl⟩
          rw [hN] at hll3 HR3 ⊢
          have HN := hid hN
          clear hro hrl hr3 hb3 hat3 hbb hN
          by_cases hun : Gr.unm bb n = 0
          · have t1 : ((N : Int) == (n : Int)) = true := by rw [beq_iff_eq]; omega
            have HM : Hid ((grL n L HG.out).more q g = false) := by show _ = _; rw [hmore, decide_eq_false_iff_not]; exact fun h => h hun
            have HE : Hid (Gr.red W f = g) := by show _ = _; rw [HTOT.out, Gr.loopW_no HM.out]
            clear hmore hun hll3
            go_wp2
            go_ret2
            exact ⟨_, _, rfl, by rw [HE.out]; exact HF3.out.r, HB1.out.trans (HBW3.out.mono hsz)⟩
          · have t1 : ((N : Int) == (n : Int)) = false := by rw [beq_eq_false_iff_ne]; omega
            obtain ⟨st1, st2, st3, st4⟩ := win_step W HINV2.out (by rw [hmore, decide_eq_true_iff]; exact hun)
            have HST := hid (And.intro st1 (And.intro st2 (And.intro st3 st4)))
            clear hmore hun hll3 st1 st2 st3 st4
            go_wp2
            go_loopg [17] n (fun gk vv wr => ∃ (k : Nat) (s : Nat → Int), k ≤ n ∧ gk = n - k ∧ vv = .int .i64 k ∧ FInts wr loO hiO (.slice (some ⟨gO, 0, none⟩) n cO) (lst n ((grL n L HG.out).fN bb k g)) ∧ FInts wr gB (gB + 1) (.slice (some ⟨gB, 0, none⟩) n n) (lst n s) ∧ RInts wr (.slice a3 N c3) (setL bb n) ∧ Below w1.heap.size w1 wr ∧ w2.heap.size ≤ wr.heap.size)
            case atStart => exact ⟨0, s, Nat.zero_le _, rfl, rfl, HF3.out, HFS3.out, HR3.out, HBW3.out, hsw3⟩
            case round =>
              obtain ⟨k, s1, hk, rfl, rfl, hF, hFs, hr, hb, hsw4⟩ := hrel
              obtain ⟨wi, rfl⟩ : ∃ wi : World, wi = wr := ⟨_, rfl⟩
              have HFS1 := hid hFs
              have HBW1 := hid hb
              have HFW := hid hF
              have HRW := hid hr
              clear HF3 HFS3 HBW3 HR3 HF HFS HBW hsw3
              by_cases hlt : k < n
              · obtain ⟨g1, hg1⟩ : ∃ g1, (grL n L HG.out).fN bb k g = g1 := ⟨_, rfl⟩
                have hnext : (grL n L HG.out).fN bb (k + 1) g = if bb k then g1 else (grL n L HG.out).fire g1 k 1 := by rw [← hg1]; rfl
                have hbound : ∀ i, i < n → -1100 ≤ g1 i ∧ g1 i ≤ 1400 := fun i hi => by
                  have h1 := (grL n L HG.out).fN_bound bb g i hi k (Nat.le_of_lt hlt)
                  have h2 := HRA.out i hi
                  rw [hg1] at h1
                  omega
                rw [hg1] at HFW
                have HNEXT := hid hnext
                have HBO := hid hbound
                have hkz : (k : Int) < (n : Int) := by omega
                obtain ⟨bk, hbk⟩ : ∃ bk, bb k = bk := ⟨_, rfl⟩
                rw [hbk] at HNEXT
                have hhas : hasB (setL bb n) (k : Int) = bk := by rw [hasB_setL hlt, hbk]
                clear hg1 hnext hbound hF hFs hr hb hbk
                cases bk with
                | true =>
                  go_wp2_with (go_at_call 206; (with_reducible refine (l1Has_c _ (setL bb n) _ _ HRW.out).mono ?_); rintro e w' ⟨rfl, rfl⟩; rw [hhas])
                  go_roundg (n - (k + 1))
                  case rel => exact ⟨k + 1, s1, by omega, rfl, by go_num, by rw [HNEXT.out]; exact HFW.out, HFS1.out, HRW.out, HBW1.out, hsw4⟩
                  case measure => omega
                | false =>
                  obtain ⟨hsc, _, hsset⟩ := fi_open HFS1.out
                  have c5 := (hsc k hlt).1
                  have c6 := (hsc k hlt).2
                  obtain ⟨sk, hsk⟩ : ∃ sk, s1 k = sk := ⟨_, rfl⟩
                  rw [hsk] at c5
                  have HSS := hid (fun y => hsset k y hlt)
                  have hlapk : ∀ j, (grL n L HG.out).lap k j = lapV n L k j := fun j => rfl
                  have HLAP := hid hlapk
                  have hAB : gB + 1 ≤ wo.heap.size ∧ hiO ≤ wo.heap.size := by omega
                  clear hsc hsset hsk hlapk
                  go_wp2_with (go_at_call 206; (with_reducible refine (l1Has_c _ (setL bb n) _ _ HRW.out).mono ?_); rintro e w' ⟨rfl, rfl⟩; rw [hhas])
                  clear c5 c6 hhas
                  go_loopg [18] n (fun gk vv wr => ∃ (j : Nat) (s : Nat → Int), j ≤ n ∧ gk = n - j ∧ vv = .int .i64 j ∧ FInts wr loO hiO (.slice (some ⟨gO, 0, none⟩) n cO) (lst n (partF g1 ((grL n L HG.out).fire g1 k 1) j)) ∧ FInts wr gB (gB + 1) (.slice (some ⟨gB, 0, none⟩) n n) (lst n s) ∧ RInts wr (.slice a3 N c3) (setL bb n) ∧ Below w1.heap.size w1 wr ∧ w2.heap.size ≤ wr.heap.size)
                  case atStart => exact ⟨0, _, Nat.zero_le _, rfl, rfl, by rw [part_zero]; exact HFW.out.same (.of_touch (HSS.out _).2 hdj'), (HSS.out _).1, HRW.out.far HAT.out.b (HSS.out _).2 hAB.1, HBW1.out.trans ((HSS.out _).2.below hd2 HBW1.out.size), by simp [World.setCell]; omega⟩
                  case round =>
                    obtain ⟨j, s2, hj, rfl, rfl, hF, hFs, hr, hb, hsw5⟩ := hrel
                    have HFS2 := hid hFs
                    have HBW2 := hid hb
                    have HRW2 := hid hr
                    by_cases hltj : j < n
                    · obtain ⟨hc, _, hset⟩ := fi_open hF
                      obtain ⟨wq, hwq⟩ : ∃ wq : World, wq = wr.drew := ⟨_, rfl⟩
                      have a1 : wq.cell? ⟨gO, j, none⟩ = some (.int .i64 (g1 j)) := by rw [hwq]; have := (hc j hltj).1; rw [part_at] at this; exact this
                      have a2 : wq.frozen? ⟨gO, j, none⟩ = false := by rw [hwq]; exact (hc j hltj).2
                      have a3 : wq.cell? ⟨gM, oM + k, none⟩ = some (.slice (some ⟨Gm k, Om k, none⟩) n (Cm k)) := by rw [hwq]; exact (hb.cell (p := ⟨gM, oM + k, none⟩) (cell_lt (HROW.out k hlt))).trans (HROW.out k hlt)
                      have a4 : wq.cell? ⟨Gm k, Om k + j, none⟩ = some (.int .i64 (lapV n L k j)) := by rw [hwq]; exact (hb.cell (p := ⟨Gm k, Om k + j, none⟩) (cell_lt (HENT.out k j hlt hltj))).trans (HENT.out k j hlt hltj)
                      have hlb := lapV_bound HG.out (v := k) (u := j) hlt
                      have hyr := HBO.out j hltj
                      have hfire : (grL n L HG.out).fire g1 k 1 j = g1 j - lapV n L k j := by
                        unfold Gr.fire; rw [HLAP.out, Int.one_mul]
                      obtain ⟨m, hm⟩ : ∃ m, lapV n L k j = m := ⟨_, rfl⟩
                      obtain ⟨y, hy⟩ : ∃ y, g1 j = y := ⟨_, rfl⟩
                      rw [hm] at a4 hlb hfire
                      rw [hy] at a1 hyr hfire
                      have hst := hset j (y - m) hltj
                      rw [part_set n g1 _ hfire.symm] at hst
                      have HO : Hid (FInts (wq.setCell ⟨gO, j, none⟩ (.int .i64 (y - m))) loO hiO (.slice (some ⟨gO, 0, none⟩) n cO) (lst n (partF g1 ((grL n L HG.out).fire g1 k 1) (j + 1))) ∧ Touch loO hiO wr (wq.setCell ⟨gO, j, none⟩ (.int .i64 (y - m)))) := by
                        rw [hwq]; exact ⟨hst.1, ⟨hst.2.os, hst.2.tape, hst.2.output, hst.2.size, hst.2.block⟩⟩
                      have HWQ := hid hwq
                      have hjz : (j : Int) < (n : Int) := by omega
                      clear hF hFs hb hr hc hset hst hwq hm hy hfire
                      have f1 : IntKind.i64.wrap (y - m) = y - m := IntWalk.i64_in _ (by omega)
                      go_wp2
                      refine wp_region_still_tail 13 (by kernel_rfl) (by kernel_rfl) ?_
                      change wpStill _ _ wr.drew _ _ _
                      rw [← HWQ.out]
                      simp only [List.take_succ_cons, List.take_zero, List.drop_succ_cons, List.drop_zero]
                      repeat still_step
                      refine wpStill_nil ?_
                      change wpList _ _ _ _ _ wr.drew
                      rw [← HWQ.out]
                      clear f1
                      go_wp2
                      go_roundg (n - (j + 1))
                      case rel => exact ⟨j + 1, s2, by omega, rfl, by go_num, HO.out.1, HFS2.out.same (.of_touch HO.out.2 hdj), HRW2.out.far HAT.out.b HO.out.2 hAB.2, HBW2.out.trans (HO.out.2.below hd1 HBW2.out.size), Nat.le_trans hsw5 HO.out.2.size⟩
                      case measure => omega
                    · have hjn : j = n := by omega
                      subst hjn
                      rw [part_all] at hF
                      have HF2 := hid hF
                      clear hF hFs hb hr
                      go_wp2
                      go_roundg (j - (k + 1))
                      case rel => exact ⟨k + 1, s2, by omega, rfl, by go_num, by rw [HNEXT.out]; exact HF2.out, HFS2.out, HRW2.out, HBW2.out, hsw5⟩
                      case measure => omega
              · have hkn : k = n := by omega
                subst hkn
                clear hF hFs hb hr
                have hgq2 : -700 ≤ (grL k L HG.out).p2 q g q := Int.le_trans HGQ2.out HST.out.2.2.2
                have HG3 := hid hgq2
                have HF2 : Hid (FInts wi loO hiO (.slice (some ⟨gO, 0, none⟩) k cO) (lst k ((grL k L HG.out).p2 q g))) := by
                  have := HFW.out
                  show FInts _ _ _ _ _
                  unfold Gr.p2 Gr.fA
                  rw [HBB.out]; exact this
                clear hgq2
                go_wp2
                go_roundg (Gr.mu2 W ((grL k L HG.out).p2 q g))
                case rel => exact ⟨(grL k L HG.out).p2 q g, s1, _, rfl, HST.out.2.1, HG3.out, rfl, HTOT.out.trans HST.out.1, HF2.out, HFS1.out, HBW1.out, hsw4⟩
                case measure => exact HST.out.2.2.1

end Go.Proofs.Ytlehhfmbdcmpoaa
