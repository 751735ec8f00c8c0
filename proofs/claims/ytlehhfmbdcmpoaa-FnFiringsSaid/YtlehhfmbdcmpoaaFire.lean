/- The program's fire, outside, burnt, hasDebtBut. -/
import Derived.Test.YtlehhfmbdcmpoaaReduce
import Derived.Test.YtlehhfmbdcmpoaaRankI
namespace Go.Proofs.Ytlehhfmbdcmpoaa
open Go.RowKit
open Go.Lib (hid)

theorem go_lap {n : Nat} {L : List Lnk} (hG : GoodL n L) (v u : Nat) : (grL n L hG).lap v u = if u = v then valV n L v else - mulL L v u := rfl

set_option maxRecDepth 100000 in
set_option maxHeartbeats 4000000 in
theorem fire_c (n : Nat) (L : List Lnk) (hG : GoodL n L) (wE w : World) (p : Value) (hp : RG wE p n L) (lo hi : Nat) (hlo : wE.heap.size ≤ lo) (hb : Below wE.heap.size wE w) (g c v : Nat) (k : Int) (f : Nat → Int) (hF : FInts w lo hi (.slice (some ⟨g, 0, none⟩) n c) (lst n f)) (hv : v < n) (hk : k = 1 ∨ k = -1) (hbd : ∀ i, i < n → -100000 ≤ f i ∧ f i ≤ 100000) :
    Calls Try.prog 179 #[p, .slice (some ⟨g, 0, none⟩) n c, .int .i64 v, .int .i64 k] w fun e w' => e = .returned (.tuple #[]) ∧ FInts w' lo hi (.slice (some ⟨g, 0, none⟩) n c) (lst n ((grL n L hG).fire f v k)) ∧ Touch lo hi w w' := by
  have hn8 := hG.n8
  have hn1 := hG.n1
  obtain ⟨gp, bt, vt, rfl, c0, c1, c2, c3, hm, hvv⟩ := hp
  obtain ⟨gM, oM, cM, Gm, Om, Cm, rfl, hcm1, hcm2, hrow, hent⟩ := rm_open hm (by omega)
  obtain ⟨gv, ov, cv, rfl, hcv1, hcv2, hvc⟩ := ri_open hvv (by omega)
  have HROW := hid hrow
  have HENT := hid hent
  have HBE := hid hb
  have HBD := hid hbd
  have hsz := hb.size
  obtain ⟨hc, hgl, hset⟩ := fi_open hF
  have hgg := hgl (by omega)
  obtain ⟨wq, hwq⟩ : ∃ wq : World, wq = w.drew := ⟨_, rfl⟩
  have a1 : wq.cell? ⟨g, v, none⟩ = some (.int .i64 (f v)) := by rw [hwq]; exact (hc v hv).1
  have a2 : wq.frozen? ⟨g, v, none⟩ = false := by rw [hwq]; exact (hc v hv).2
  have a3 : wq.cell? ⟨gp, 2, none⟩ = some (.slice (some ⟨gv, ov, none⟩) n cv) := by rw [hwq]; exact (hb.cell (p := ⟨gp, 2, none⟩) (cell_lt c2)).trans c2
  have a4 : wq.cell? ⟨gv, ov + v, none⟩ = some (.int .i64 (valV n L v)) := by rw [hwq]; exact (hb.cell (p := ⟨gv, ov + v, none⟩) (cell_lt (hvc v hv))).trans (hvc v hv)
  have hvb := valV_bound hG hv
  have hfb := hbd v hv
  have HC1 := hid c1
  have hfv : (grL n L hG).fire f v k v = f v - k * valV n L v := by unfold Gr.fire; rw [go_lap, if_pos rfl]
  have hfo : ∀ j, j ≠ v → (grL n L hG).fire f v k j = f j + k * mulL L v j := fun j hj => by unfold Gr.fire; rw [go_lap, if_neg hj, Int.mul_neg]; omega
  have hirr : mulL L v v = 0 := (grL n L hG).irr v
  have hmb : ∀ j, 0 ≤ mulL L v j ∧ mulL L v j ≤ 5 := fun j => mulL_bound hG.each hG.sorted v j
  obtain ⟨FF, hFF⟩ : ∃ FF, (grL n L hG).fire f v k = FF := ⟨_, rfl⟩
  rw [hFF] at hfv hfo ⊢
  have HFO := hid hfo
  have HIRR := hid hirr
  have HMB := hid hmb
  obtain ⟨y, hy⟩ : ∃ y, f v = y := ⟨_, rfl⟩
  obtain ⟨vl, hvl⟩ : ∃ vl, valV n L v = vl := ⟨_, rfl⟩
  rw [hy] at a1 hfb hfv
  rw [hvl] at a4 hvb hfv
  obtain ⟨pr, hpr⟩ : ∃ pr, k * vl = pr := ⟨_, rfl⟩
  rw [hpr] at hfv
  have hprb : -35 ≤ pr ∧ pr ≤ 35 := by
    rw [← hpr]; rcases hk with rfl | rfl
    · omega
    · rw [Int.neg_mul]; omega
  have hst := hset v (y - pr) hv
  have HG0 : Hid (FInts (wq.setCell ⟨g, v, none⟩ (.int .i64 (y - pr))) lo hi (.slice (some ⟨g, 0, none⟩) n c) (lst n (partF (upd f v (y - pr)) FF 0)) ∧ Touch lo hi w (wq.setCell ⟨g, v, none⟩ (.int .i64 (y - pr)))) := by
    rw [hwq, part_zero]; exact ⟨hst.1, ⟨hst.2.os, hst.2.tape, hst.2.output, hst.2.size, hst.2.block⟩⟩
  have HFV := hid hfv
  have HWQ := hid hwq
  have HHK := hid hk
  have hvz : (v : Int) < (n : Int) := by omega
  clear hm hvv hrow hent hvc hb hbd hF hc hgl hset hst c0 c1 c2 c3 hfo hirr hmb hFF hy hvl hfv hwq hk hG
  have f1 : IntKind.i64.wrap (k * vl) = pr := by rw [hpr]; exact IntWalk.i64_in _ (by omega)
  have f2 : IntKind.i64.wrap (y - pr) = y - pr := IntWalk.i64_in _ (by omega)
  clear hpr
  go_enter Try.func179, Try.ntmps179
  go_wp2
  refine wp_region_still_tail 15 (by kernel_rfl) (by kernel_rfl) ?_
  change wpStill _ _ w.drew _ _ _
  rw [← HWQ.out]
  simp only [List.take_succ_cons, List.take_zero, List.drop_succ_cons, List.drop_zero]
  repeat still_step
  refine wpStill_nil ?_
  change wpList _ _ _ _ _ w.drew
  rw [← HWQ.out]
  clear f1 f2 a3 a4
  have hb2 := HBE.out.trans (HG0.out.2.below hlo hsz)
  have e1 := (hb2.cell (p := ⟨gp, 1, none⟩) (cell_lt HC1.out)).trans HC1.out
  have e2 := (hb2.cell (p := ⟨gM, oM + v, none⟩) (cell_lt (HROW.out v hv))).trans (HROW.out v hv)
  clear hb2
  go_wp2
  clear e1 e2 a1 a2
  go_loopg [33] n (fun gk iv wr => ∃ j : Nat, j ≤ n ∧ gk = n - j ∧ iv = .int .i64 j ∧ FInts wr lo hi (.slice (some ⟨g, 0, none⟩) n c) (lst n (partF (upd f v (y - pr)) FF j)) ∧ Touch lo hi w wr)
  case atStart => exact ⟨0, Nat.zero_le _, rfl, rfl, HG0.out.1, HG0.out.2⟩
  case round =>
    obtain ⟨j, hj, rfl, rfl, hF, hT⟩ := hrel
    by_cases hlt : j < n
    · obtain ⟨hc, _, hset⟩ := fi_open hF
      have a1 := (hc j hlt).1
      rw [part_at] at a1
      have a2 := (hc j hlt).2
      have hbr := HBE.out.trans (hT.below hlo hsz)
      have a3 := (hbr.cell (p := ⟨Gm v, Om v + j, none⟩) (cell_lt (HENT.out v j hv hlt))).trans (HENT.out v j hv hlt)
      have hmb := HMB.out j
      obtain ⟨x, hx⟩ : ∃ x, upd f v (y - pr) j = x := ⟨_, rfl⟩
      obtain ⟨m, hm⟩ : ∃ m, mulL L v j = m := ⟨_, rfl⟩
      have hxb : -200000 ≤ x ∧ x ≤ 200000 := by
        rw [← hx]; unfold upd
        by_cases e : j = v
        · rw [if_pos e]; omega
        · rw [if_neg e]; have := HBD.out j hlt; omega
      have hFj : x + k * m = FF j := by
        by_cases e : j = v
        · rw [← hx, ← hm, e, HIRR.out, upd_self, HFV.out]; omega
        · rw [HFO.out j e, ← hx, ← hm, upd_other _ _ e]
      rw [hx] at a1
      rw [hm] at a3 hmb
      obtain ⟨pm, hpm⟩ : ∃ pm, k * m = pm := ⟨_, rfl⟩
      rw [hpm] at hFj
      have hpmb : -5 ≤ pm ∧ pm ≤ 5 := by
        rw [← hpm]; rcases HHK.out with h | h <;> rw [h] <;> omega
      have hst := hset j (x + pm) hlt
      rw [part_set n _ FF hFj] at hst
      have HO := hid (And.intro hst.1 (hT.trans hst.2))
      have hjz : (j : Int) < (n : Int) := by omega
      clear hF hT hc hset hst hbr hx hm hFj
      have f1 : IntKind.i64.wrap (k * m) = pm := by rw [hpm]; exact IntWalk.i64_in _ (by omega)
      clear hpm
      go_wp2
      clear f1
      go_roundg (n - (j + 1))
      case rel => exact ⟨j + 1, by omega, rfl, by go_num, HO.out.1, HO.out.2⟩
      case measure => omega
    · have hjn : j = n := by omega
      subst hjn
      rw [part_all] at hF
      have HO := hid (And.intro hF hT)
      clear hF hT
      go_wp2
      go_end0
      exact ⟨rfl, HO.out.1, HO.out.2⟩

/-- marks as numbers -/
def bI (b : Nat → Bool) : Nat → Int := fun i => if b i then 1 else 0
/-- the edges to those that are not marked -/
def outS (n : Nat) (L : List Lnk) (b : Nat → Bool) (v : Nat) : Int := sumN n (fun u => if b u then 0 else mulL L v u)
theorem outS_eq {n : Nat} {L : List Lnk} (hG : GoodL n L) (b : Nat → Bool) (v : Nat) : valV n L v = (grL n L hG).edges b v + outS n L b v := by
  show sumN n (mulL L v) = sumN n (fun u => if b u then mulL L v u else 0) + _
  unfold outS
  rw [← sumN_add]
  apply sumN_congr; intro i _; split <;> omega

set_option maxHeartbeats 2000000 in
theorem outside_c (n : Nat) (L : List Lnk) (hG : GoodL n L) (w : World) (p u : Value) (hp : RG w p n L) (b : Nat → Bool) (v : Nat) (hu : RInts w u (lst n (bI b))) (hv : v < n) :
    Calls Try.prog 216 #[p, .int .i64 v, u] w fun e w' => e = .returned (.int .i64 (outS n L b v)) ∧ w' = w := by
  have hn1 := hG.n1
  have hn8 := hG.n8
  obtain ⟨gp, bt, vt, rfl, c0, c1, c2, c3, hm, hvv⟩ := hp
  obtain ⟨gM, oM, cM, Gm, Om, Cm, rfl, hcm1, hcm2, hrow, hent⟩ := rm_open hm (by omega)
  obtain ⟨gu, ou, cu, rfl, hcu1, hcu2, huc⟩ := ri_open hu (by omega)
  have HENT := hid hent
  have HUC := hid huc
  have e1 := hrow v hv
  have HMB := hid (fun j => mulL_bound hG.each hG.sorted v j)
  have hvz : (v : Int) < (n : Int) := by omega
  clear hm hvv hent huc hrow hu hG c0 c2 c3
  go_enter Try.func216, Try.ntmps216
  go_wp2
  clear c1 e1
  go_loop [7, 18] (fun s i => ∃ k : Nat, k ≤ n ∧ i = .int .i64 k ∧ s = .int .i64 (outS k L b v)) (fun _ i => n - (intOf i).toNat)
  case atStart => exact ⟨0, Nat.zero_le _, rfl, rfl⟩
  case round =>
    obtain ⟨k, hk, rfl, rfl⟩ := hrel
    by_cases hlt : k < n
    · have a1 := HENT.out v k hv hlt
      have a2 := HUC.out k hlt
      have hmb := HMB.out k
      have hob : 0 ≤ outS k L b v ∧ outS k L b v ≤ 5 * (k : Int) := by
        clear a1 a2 hmb hlt
        clear hk
        induction k with
        | zero => exact ⟨Int.le_refl _, Int.le_refl _⟩
        | succ k ih =>
          have := HMB.out k
          unfold outS at ih ⊢
          simp only [sumN]
          split <;> omega
      have hnx : outS (k + 1) L b v = outS k L b v + if b k then 0 else mulL L v k := rfl
      obtain ⟨m, hm⟩ : ∃ m, mulL L v k = m := ⟨_, rfl⟩
      obtain ⟨o, ho⟩ : ∃ o, outS k L b v = o := ⟨_, rfl⟩
      rw [hm] at a1 hmb hnx
      rw [ho] at hob hnx ⊢
      obtain ⟨bk, hbk⟩ : ∃ bk, b k = bk := ⟨_, rfl⟩
      unfold bI at a2
      rw [hbk] at a2 hnx
      have hkz : (k : Int) < (n : Int) := by omega
      clear hm ho hbk
      cases bk with
      | true =>
        rw [if_pos rfl] at a2 hnx
        have HN := hid hnx
        clear hnx
        go_wp2
        go_round
        case rel => exact ⟨k + 1, by omega, by go_num, by rw [HN.out] <;> go_num⟩
        case measure => simp [intOf]; omega
      | false =>
        rw [if_neg (by decide)] at a2 hnx
        have HN := hid hnx
        clear hnx
        go_wp2
        go_round
        case rel => exact ⟨k + 1, by omega, by go_num, by rw [HN.out] <;> go_num⟩
        case measure => simp [intOf]; omega
    · have hkn : k = n := by omega
      subst hkn
      go_wp2
      go_ret
      exact ⟨rfl, rfl⟩

set_option maxHeartbeats 1000000 in
theorem hasDebtBut_c (n q : Nat) (v : Value) (f : Nat → Int) (G : Gr) (hGn : Hid (G.n = n)) (w : World) (h : RInts w v (lst n f)) :
    Calls Try.prog 209 #[v, .int .i64 q] w fun e w' => e = .returned (.bool (G.owes q f)) ∧ w = w' := by
  obtain ⟨a, cap, rfl, h1, h2, hc⟩ := h
  unfold maxLen at h2
  rw [lst_len] at hc h1 ⊢
  go_enter Try.func209, Try.ntmps209
  go_wp2
  go_loop [9] (fun i => ∃ k : Nat, k ≤ n ∧ i = .int .i64 k ∧ ∀ v, v < k → v ≠ q → 0 ≤ f v) (fun i => n - (intOf i).toNat)
  case atStart => exact ⟨0, Nat.zero_le _, rfl, fun v hv => by omega⟩
  case round =>
    obtain ⟨k, hk, rfl, hr⟩ := hrel
    have HR := hid hr; clear hr
    by_cases hlt : k < n
    · obtain ⟨g, o, rfl, hcell⟩ := hc k hlt
      rw [lst_at f hlt] at hcell
      obtain ⟨x, hx⟩ : ∃ x, f k = x := ⟨_, rfl⟩
      rw [hx] at hcell
      have HX := hid hx
      have hkz : (k : Int) < (n : Int) := by omega
      clear hc hx
      by_cases hkq : k = q
      · have t1 : ((k : Int) == (q : Int)) = true := beq_nat_true hkq
        have t2 : ((k : Int) != (q : Int)) = false := bne_of_true t1
        have HKQ := hid hkq
        clear hkq
        go_wp2
        go_round
        case rel => exact ⟨k + 1, by omega, by go_num, fun v hv hne => by
          by_cases e : v = k
          · exact (hne (e.trans HKQ.out)).elim
          · exact HR.out v (by omega) hne⟩
        case measure => simp [intOf]; omega
      · have t1 : ((k : Int) == (q : Int)) = false := beq_nat_false hkq
        have t2 : ((k : Int) != (q : Int)) = true := bne_of_false t1
        have HKQ := hid hkq
        clear hkq
        by_cases hneg : x < 0
        · go_wp2
          go_ret
          exact ⟨ret_bool (((G.owes_iff).2 ⟨k, by rw [hGn.out]; exact hlt, HKQ.out, by rw [HX.out]; exact hneg⟩).symm), rfl⟩
        · go_wp2
          go_round
          case rel => exact ⟨k + 1, by omega, by go_num, fun v hv hne => by
            by_cases e : v = k
            · rw [e, HX.out]; omega
            · exact HR.out v (by omega) hne⟩
          case measure => simp [intOf]; omega
    · have hkn : k = n := by omega
      clear hc
      have HE : Hid (G.owes q f = false) := (G.owes_false).2 (fun v hv hne => HR.out v (by rw [hGn.out] at hv; omega) hne)
      go_wp2
      go_ret
      exact ⟨ret_bool HE.out.symm, rfl⟩

theorem bI_mark (n : Nat) (b : Nat → Bool) (v : Nat) : lst n (upd (bI b) v 1) = lst n (bI (Gr.mark b v)) := lst_congr (fun i _ => by
  unfold upd bI Gr.mark
  by_cases e : i = v
  · rw [if_pos e, if_pos e]; rfl
  · rw [if_neg e, if_neg e])

set_option maxRecDepth 100000 in
set_option maxHeartbeats 4000000 in
theorem burnt_c (n q : Nat) (L : List Lnk) (hG : GoodL n L) (w : World) (p u : Value) (hp : RG w p n L) (f : Nat → Int) (hd : RInts w u (lst n f)) (hq : q < n) (hb : ∀ i, i < n → -100000 ≤ f i ∧ f i ≤ 100000) :
    Calls Try.prog 210 #[p, u, .int .i64 q] w (RetInts w (lst n (bI ((grL n L hG).burnt f q)))) := by
  have hn8 := hG.n8
  have hn1 := hG.n1
  have HP := hid hp
  obtain ⟨gp, bt, vt, rfl, c0, c1, c2, c3, hm, hvv⟩ := hp
  obtain ⟨gv, ov, cv, rfl, hcv1, hcv2, hvc⟩ := ri_open hvv (by omega)
  obtain ⟨gd, od, cd, rfl, hcd1, hcd2, hdc⟩ := ri_open hd (by omega)
  have HVC := hid hvc
  have HDC := hid hdc
  have HBF := hid hb
  have HG := hid hG
  have HC := hid (And.intro c0 c2)
  have HVB := hid (fun i (hi : i < n) => valV_bound hG hi)
  have hmk := run_make_row' (P := Try.prog) 23 3 (.int .i64 0) 8 Try.underlying23 Try.infoInt rfl .i64 .i64 n (by omega) (by omega)
  have hal : Below w.heap.size w (w.alloc (.cells (madeCells #[.int .i64 0] n) 3)) := (Below.refl _ _).alloc (Nat.le_refl _) _
  have hF0 := fi_made w n (by omega)
  obtain ⟨hfc, _, hfs⟩ := fi_open hF0
  have b1 := (hfc q hq).1
  have b2 := (hfc q hq).2
  have hst := hfs q 1 hq
  have hz : lst n (upd (fun _ => 0) q 1) = lst n (bI (Gr.only q)) := lst_congr (fun i _ => by
    unfold upd bI Gr.only
    by_cases e : i = q
    · rw [if_pos e, if_pos (by simpa using e)]
    · rw [if_neg e, if_neg (by simpa using e)])
  rw [hz] at hst
  have HS := hid (And.intro hst (hal.trans (hst.2.below (Nat.le_refl _) (by simp) : Below w.heap.size _ _)))
  have e0 := (hal.cell (p := ⟨gp, 0, none⟩) (cell_lt c0)).trans c0
  have hqz : (q : Int) < (n : Int) := by omega
  have hsc : w.alloc (.cells ((madeCells #[.int .i64 0] n).setIfInBounds q (.int .i64 1)) 3) = (w.alloc (.cells (madeCells #[.int .i64 0] n) 3)).setCell ⟨w.heap.size, q, none⟩ (.int .i64 1) := (World.setCell_alloc_at _ _ _ _ _ rfl).symm
  have HSC := hid hsc
  clear hm hvv hvc hdc hb hd hfc hfs hst hz hF0 c1 c2 c3 hal hsc
  go_enter Try.func210, Try.ntmps210
  obtain ⟨ws, hws⟩ : ∃ ws, (w.alloc (.cells (madeCells #[.int .i64 0] n) 3)).setCell ⟨w.heap.size, q, none⟩ (.int .i64 1) = ws := ⟨_, rfl⟩
  rw [hws] at HS
  have HWS := hid hws
  clear hws
  go_wp2
  rw [show (w.alloc (.cells ((madeCells #[.int .i64 0] n).setIfInBounds q (.int .i64 1)) 3)) = ws from (HSC.out).trans HWS.out]
  clear hmk e0 b1 b2 c0
  go_loopg [8] ((grL n L HG.out).muB (Gr.only q, true)) (fun gk ag wr => ∃ (b : Nat → Bool) (s : Bool), ag = .bool s ∧ FInts wr w.heap.size (w.heap.size + 1) (.slice (some ⟨w.heap.size, 0, none⟩) n n) (lst n (bI b)) ∧ gk = (grL n L HG.out).muB (b, s) ∧
    (grL n L HG.out).burnt f q = (Gr.loopW Prod.snd ((grL n L HG.out).bP f) ((grL n L HG.out).muB (b, s)) (b, s)).1 ∧ Below w.heap.size w wr ∧ w.heap.size + 1 ≤ wr.heap.size)
  case atStart => exact ⟨Gr.only q, true, rfl, HS.out.1.1, rfl, rfl, HS.out.2, by rw [← HWS.out, ← HSC.out, World.size_alloc]; exact Nat.le_refl _⟩
  case round =>
    obtain ⟨b, s, rfl, hF, rfl, htot, hbw, hsz⟩ := hrel
    obtain ⟨wo, rfl⟩ : ∃ wo : World, wo = wr := ⟨_, rfl⟩
    have HF := hid hF
    have HTOT := hid htot
    have HBW := hid hbw
    have e0 := (hbw.cell (p := ⟨gp, 0, none⟩) (cell_lt HC.out.1)).trans HC.out.1
    clear hF htot hbw HS
    cases s with
    | false =>
      have HE : Hid ((grL n L HG.out).burnt f q = b) := by show _ = _; rw [HTOT.out, Gr.loopW_no rfl]
      clear e0
      go_wp2
      go_ret
      exact ⟨_, rfl, by rw [HE.out]; exact HF.out.mono (Nat.le_refl _) hsz, HBW.out⟩
    | true =>
      have HMU := hid ((grL n L HG.out).stepB f (b, true) trivial rfl).2
      have HT2 : Hid ((grL n L HG.out).burnt f q = (Gr.loopW Prod.snd ((grL n L HG.out).bP f) ((grL n L HG.out).muB ((grL n L HG.out).bP f (b, true))) ((grL n L HG.out).bP f (b, true))).1) := by
        show _ = _
        rw [HTOT.out, Gr.loopW_yes ((grL n L HG.out).stepB f) trivial rfl]
      go_wp2
      clear e0
      go_loopg [8, 23] n (fun gk ag vv wr => ∃ k : Nat, ag = .bool ((grL n L HG.out).bN f k (b, false)).2 ∧ k ≤ n ∧ gk = n - k ∧ vv = .int .i64 k ∧ FInts wr w.heap.size (w.heap.size + 1) (.slice (some ⟨w.heap.size, 0, none⟩) n n) (lst n (bI ((grL n L HG.out).bN f k (b, false)).1)) ∧ Below w.heap.size w wr ∧ w.heap.size + 1 ≤ wr.heap.size)
      case atStart => exact ⟨0, rfl, Nat.zero_le _, rfl, rfl, HF.out, HBW.out, hsz⟩
      case round =>
        obtain ⟨k, rfl, hk, rfl, rfl, hF, hbw, hsw⟩ := hrel
        obtain ⟨wi, rfl⟩ : ∃ wi : World, wi = wr := ⟨_, rfl⟩
        by_cases hlt : k < n
        · obtain ⟨st, hst⟩ : ∃ st, (grL n L HG.out).bN f k (b, false) = st := ⟨_, rfl⟩
          have HNEXT : Hid ((grL n L HG.out).bN f (k + 1) (b, false) = (grL n L HG.out).brn f st k) := by show _ = _; rw [← hst]; rfl
          rw [hst] at hF ⊢
          obtain ⟨b', s'⟩ := st
          have HF1 := hid hF
          have HBW1 := hid hbw
          obtain ⟨hc, _, hset⟩ := fi_open hF
          have a1 := (hc k hlt).1
          have a2 := (hc k hlt).2
          have a3 := (hbw.cell (p := ⟨gp, 2, none⟩) (cell_lt HC.out.2)).trans HC.out.2
          have a4 := (hbw.cell (p := ⟨gv, ov + k, none⟩) (cell_lt (HVC.out k hlt))).trans (HVC.out k hlt)
          have a5 := (hbw.cell (p := ⟨gd, od + k, none⟩) (cell_lt (HDC.out k hlt))).trans (HDC.out k hlt)
          have hvb := HVB.out k hlt
          have hfb := HBF.out k hlt
          have hoe := outS_eq HG.out b' k
          have hstt := hset k 1 hlt
          rw [bI_mark] at hstt
          have HST := hid (And.intro hstt.1 (And.intro (hbw.trans (hstt.2.below (Nat.le_refl _) hbw.size)) (Nat.le_trans hsw hstt.2.size)))
          have hqo : ∀ r, Calls Try.prog 216 #[.pointer (some ⟨gp, 0, none⟩), .int .i64 k, .slice (some ⟨w.heap.size, 0, none⟩) n n] (wi.drewN r) fun e w' => e = .returned (.int .i64 (outS n L b' k)) ∧ w' = wi.drewN r := fun r => outside_c n L HG.out _ _ _ ((HP.out.keep hbw).drewN) b' k (RInts.drewN hF.r) hlt
          obtain ⟨O, hO⟩ : ∃ O, outS n L b' k = O := ⟨_, rfl⟩
          obtain ⟨V, hV⟩ : ∃ V, valV n L k = V := ⟨_, rfl⟩
          obtain ⟨E, hE⟩ : ∃ E, (grL n L HG.out).edges b' k = E := ⟨_, rfl⟩
          obtain ⟨y, hy⟩ : ∃ y, f k = y := ⟨_, rfl⟩
          rw [hO] at hqo hoe
          rw [hV] at a4 hvb hoe
          rw [hE] at hoe
          rw [hy] at a5 hfb
          have hE0 : 0 ≤ E := by rw [← hE]; exact sumN_nonneg (fun i _ => by split; exact (grL n L HG.out).pos k i; exact Int.le_refl _)
          have hO0 : 0 ≤ O := by rw [← hO]; exact sumN_nonneg (fun i _ => by split; exact Int.le_refl _; exact (grL n L HG.out).pos k i)
          have hVO : V - O = E := by omega
          have HQO := hid hqo
          have HY := hid hy
          have HE := hid hE
          obtain ⟨bk, hbk⟩ : ∃ bk, b' k = bk := ⟨_, rfl⟩
          change wi.cell? ⟨w.heap.size, k, none⟩ = some (.int .i64 (if b' k then 1 else 0)) at a1
          rw [hbk] at a1
          have HBK := hid hbk
          have hkz : (k : Int) < (n : Int) := by omega
          have HVO := hid hVO
          clear hst hF hbw hc hset hstt hqo hO hV hE hy hbk hVO
          cases bk with
          | true =>
            have HBR : Hid ((grL n L HG.out).brn f (b', s') k = (b', s')) := by
              show _ = _; unfold Gr.brn; rw [if_neg]; rintro ⟨h1, _⟩; have h2 : b' k = false := h1; rw [HBK.out] at h2; cases h2
            rw [if_pos rfl] at a1
            go_wp2
            go_quiet (fail)
            go_wp2
            go_roundg (n - (k + 1))
            case rel => exact ⟨k + 1, by rw [HNEXT.out, HBR.out], by omega, rfl, by go_num, by rw [HNEXT.out, HBR.out]; exact FInts.drewN HF1.out, below_drewN HBW1.out _, hsw⟩
            case measure => omega
          | false =>
            rw [if_neg (by decide)] at a1
            have f1 : IntKind.i64.wrap (V - O) = E := by rw [HVO.out]; exact IntWalk.i64_in _ (by omega)
            by_cases hc : y < E
            · have HBR : Hid ((grL n L HG.out).brn f (b', s') k = (Gr.mark b' k, true)) := by
                show _ = _; unfold Gr.brn; rw [if_pos]; exact ⟨HBK.out, by dsimp only; rw [HY.out, HE.out]; exact hc⟩
              go_wp2
              go_quiet ((go_at_call 216; with_reducible exact Calls.quiet_of_same (HQO.out _)))
              clear f1
              go_wp2
              go_roundg (n - (k + 1))
              case rel => exact ⟨k + 1, by rw [HNEXT.out, HBR.out], by omega, rfl, by go_num, by rw [HNEXT.out, HBR.out]; exact FInts.drewN (n := nq) HST.out.1, below_drewN HST.out.2.1 _, HST.out.2.2⟩
              case measure => omega
            · have HBR : Hid ((grL n L HG.out).brn f (b', s') k = (b', s')) := by
                show _ = _; unfold Gr.brn; rw [if_neg]; rintro ⟨_, h2⟩; dsimp only at h2; rw [HY.out, HE.out] at h2; exact hc h2
              go_wp2
              go_quiet ((go_at_call 216; with_reducible exact Calls.quiet_of_same (HQO.out _)))
              clear f1
              go_wp2
              go_roundg (n - (k + 1))
              case rel => exact ⟨k + 1, by rw [HNEXT.out, HBR.out], by omega, rfl, by go_num, by rw [HNEXT.out, HBR.out]; exact FInts.drewN HF1.out, below_drewN HBW1.out _, hsw⟩
              case measure => omega
        · have hkn : k = n := by omega
          subst hkn
          have HO := hid (And.intro hF (And.intro hbw hsw))
          clear hF hbw
          go_wp2
          go_roundg ((grL k L HG.out).muB ((grL k L HG.out).bP f (b, true)))
          case rel => exact ⟨((grL k L HG.out).bP f (b, true)).1, ((grL k L HG.out).bP f (b, true)).2, rfl, HO.out.1, rfl, HT2.out, HO.out.2.1, HO.out.2.2⟩
          case measure => exact HMU.out

end Go.Proofs.Ytlehhfmbdcmpoaa
