/- The program's firing: a script, whole (printed by wip/firegen.py). -/
import Derived.Test.YtlehhfmbdcmpoaaFire
import Derived.Test.YtlehhfmbdcmpoaaFireS
import Derived.Test.YtlehhfmbdcmpoaaRankI
namespace Go.Proofs.Ytlehhfmbdcmpoaa
open Go.RowKit
open Go.Lib (hid)

set_option maxRecDepth 100000 in
set_option maxHeartbeats 4000000 in
theorem fireK_c (n : Nat) (L : List Lnk) (hG : GoodL n L) (wE w : World) (p : Value) (hp : RG wE p n L) (lo hi : Nat) (hlo : wE.heap.size ≤ lo) (hb : Below wE.heap.size wE w) (g c v : Nat) (k : Int) (f : Nat → Int) (hF : FInts w lo hi (.slice (some ⟨g, 0, none⟩) n c) (lst n f)) (hv : v < n) (hk : -20 ≤ k ∧ k ≤ 20) (hbd : ∀ i, i < n → -500000 ≤ f i ∧ f i ≤ 500000) :
    Calls Try.prog 179 #[p, .slice (some ⟨g, 0, none⟩) n c, .int .i64 v, .int .i64 k] w fun e w' => e = .returned (.tuple #[]) ∧ FInts w' lo hi (.slice (some ⟨g, 0, none⟩) n c) (lst n ((grL n L hG).fire f v k)) ∧ Touch lo hi w w' := by
  have hn8 := hG.n8
  have hn1 := hG.n1
  obtain ⟨gp, bt, vt, rfl, c0, c1, c2, c3, hm, hvv⟩ := hp
  obtain ⟨gM, oM, cM, Gm, Om, Cm, rfl, hcm1, hcm2, hrow, hent⟩ := rm_open hm (by omega)
  obtain ⟨gv, ov, cv, rfl, hcv1, hcv2, hvc⟩ := ri_open hvv (by omega)
  have HROW := hid hrow
  have HENT := hid hent
  have HBE := hid hb
  have HBD := hid hbd
  have hsz := hb.size
  obtain ⟨hc, hgl, hset⟩ := fi_open hF
  have hgg := hgl (by omega)
  obtain ⟨wq, hwq⟩ : ∃ wq : World, wq = w.drew := ⟨_, rfl⟩
  have a1 : wq.cell? ⟨g, v, none⟩ = some (.int .i64 (f v)) := by rw [hwq]; exact (hc v hv).1
  have a2 : wq.frozen? ⟨g, v, none⟩ = false := by rw [hwq]; exact (hc v hv).2
  have a3 : wq.cell? ⟨gp, 2, none⟩ = some (.slice (some ⟨gv, ov, none⟩) n cv) := by rw [hwq]; exact (hb.cell (p := ⟨gp, 2, none⟩) (cell_lt c2)).trans c2
  have a4 : wq.cell? ⟨gv, ov + v, none⟩ = some (.int .i64 (valV n L v)) := by rw [hwq]; exact (hb.cell (p := ⟨gv, ov + v, none⟩) (cell_lt (hvc v hv))).trans (hvc v hv)
  have hvb := valV_bound hG hv
  have hfb := hbd v hv
  have HC1 := hid c1
  have hfv : (grL n L hG).fire f v k v = f v - k * valV n L v := by unfold Gr.fire; rw [go_lap, if_pos rfl]
  have hfo : ∀ j, j ≠ v → (grL n L hG).fire f v k j = f j + k * mulL L v j := fun j hj => by unfold Gr.fire; rw [go_lap, if_neg hj, Int.mul_neg]; omega
  have hirr : mulL L v v = 0 := (grL n L hG).irr v
  have hmb : ∀ j, 0 ≤ mulL L v j ∧ mulL L v j ≤ 5 := fun j => mulL_bound hG.each hG.sorted v j
  obtain ⟨FF, hFF⟩ : ∃ FF, (grL n L hG).fire f v k = FF := ⟨_, rfl⟩
  rw [hFF] at hfv hfo ⊢
  have HFO := hid hfo
  have HIRR := hid hirr
  have HMB := hid hmb
  obtain ⟨y, hy⟩ : ∃ y, f v = y := ⟨_, rfl⟩
  obtain ⟨vl, hvl⟩ : ∃ vl, valV n L v = vl := ⟨_, rfl⟩
  rw [hy] at a1 hfb hfv
  rw [hvl] at a4 hvb hfv
  obtain ⟨pr, hpr⟩ : ∃ pr, k * vl = pr := ⟨_, rfl⟩
  rw [hpr] at hfv
  have hprb : -700 ≤ pr ∧ pr ≤ 700 := by
    rw [← hpr]
    have := mul_bound (x := k) (y := vl) (A := 20) (B := 35) (by omega) (by omega) (by omega) (by omega) (by decide)
    omega
  have hst := hset v (y - pr) hv
  have HG0 : Hid (FInts (wq.setCell ⟨g, v, none⟩ (.int .i64 (y - pr))) lo hi (.slice (some ⟨g, 0, none⟩) n c) (lst n (partF (upd f v (y - pr)) FF 0)) ∧ Touch lo hi w (wq.setCell ⟨g, v, none⟩ (.int .i64 (y - pr)))) := by
    rw [hwq, part_zero]; exact ⟨hst.1, ⟨hst.2.os, hst.2.tape, hst.2.output, hst.2.size, hst.2.block⟩⟩
  have HFV := hid hfv
  have HWQ := hid hwq
  have HHK := hid hk
  have hvz : (v : Int) < (n : Int) := by omega
  clear hm hvv hrow hent hvc hb hbd hF hc hgl hset hst c0 c1 c2 c3 hfo hirr hmb hFF hy hvl hfv hwq hk hG
  have f1 : IntKind.i64.wrap (k * vl) = pr := by rw [hpr]; exact IntWalk.i64_in _ (by omega)
  have f2 : IntKind.i64.wrap (y - pr) = y - pr := IntWalk.i64_in _ (by omega)
  clear hpr
  go_enter Try.func179, Try.ntmps179
  go_wp2
  refine wp_region_still_tail 15 (by kernel_rfl) (by kernel_rfl) ?_
  change wpStill _ _ w.drew _ _ _
  rw [← HWQ.out]
  simp only [List.take_succ_cons, List.take_zero, List.drop_succ_cons, List.drop_zero]
  repeat still_step
  refine wpStill_nil ?_
  change wpList _ _ _ _ _ w.drew
  rw [← HWQ.out]
  clear f1 f2 a3 a4
  have hb2 := HBE.out.trans (HG0.out.2.below hlo hsz)
  have e1 := (hb2.cell (p := ⟨gp, 1, none⟩) (cell_lt HC1.out)).trans HC1.out
  have e2 := (hb2.cell (p := ⟨gM, oM + v, none⟩) (cell_lt (HROW.out v hv))).trans (HROW.out v hv)
  clear hb2
  go_wp2
  clear e1 e2 a1 a2
  go_loopg [33] n (fun gk iv wr => ∃ j : Nat, j ≤ n ∧ gk = n - j ∧ iv = .int .i64 j ∧ FInts wr lo hi (.slice (some ⟨g, 0, none⟩) n c) (lst n (partF (upd f v (y - pr)) FF j)) ∧ Touch lo hi w wr)
  case atStart => exact ⟨0, Nat.zero_le _, rfl, rfl, HG0.out.1, HG0.out.2⟩
  case round =>
    obtain ⟨j, hj, rfl, rfl, hF, hT⟩ := hrel
    by_cases hlt : j < n
    · obtain ⟨hc, _, hset⟩ := fi_open hF
      have a1 := (hc j hlt).1
      rw [part_at] at a1
      have a2 := (hc j hlt).2
      have hbr := HBE.out.trans (hT.below hlo hsz)
      have a3 := (hbr.cell (p := ⟨Gm v, Om v + j, none⟩) (cell_lt (HENT.out v j hv hlt))).trans (HENT.out v j hv hlt)
      have hmb := HMB.out j
      obtain ⟨x, hx⟩ : ∃ x, upd f v (y - pr) j = x := ⟨_, rfl⟩
      obtain ⟨m, hm⟩ : ∃ m, mulL L v j = m := ⟨_, rfl⟩
      have hxb : -600000 ≤ x ∧ x ≤ 600000 := by
        rw [← hx]; unfold upd
        by_cases e : j = v
        · rw [if_pos e]; omega
        · rw [if_neg e]; have := HBD.out j hlt; omega
      have hFj : x + k * m = FF j := by
        by_cases e : j = v
        · rw [← hx, ← hm, e, HIRR.out, upd_self, HFV.out]; omega
        · rw [HFO.out j e, ← hx, ← hm, upd_other _ _ e]
      rw [hx] at a1
      rw [hm] at a3 hmb
      obtain ⟨pm, hpm⟩ : ∃ pm, k * m = pm := ⟨_, rfl⟩
      rw [hpm] at hFj
      have hpmb : -100 ≤ pm ∧ pm ≤ 100 := by
        rw [← hpm]
        have hk2 := HHK.out
        have := mul_bound (x := k) (y := m) (A := 20) (B := 5) (by omega) (by omega) (by omega) (by omega) (by decide)
        omega
      have hst := hset j (x + pm) hlt
      rw [part_set n _ FF hFj] at hst
      have HO := hid (And.intro hst.1 (hT.trans hst.2))
      have hjz : (j : Int) < (n : Int) := by omega
      clear hF hT hc hset hst hbr hx hm hFj
      have f1 : IntKind.i64.wrap (k * m) = pm := by rw [hpm]; exact IntWalk.i64_in _ (by omega)
      clear hpm
      go_wp2
      clear f1
      go_roundg (n - (j + 1))
      case rel => exact ⟨j + 1, by omega, rfl, by go_num, HO.out.1, HO.out.2⟩
      case measure => omega
    · have hjn : j = n := by omega
      subst hjn
      rw [part_all] at hF
      have HO := hid (And.intro hF hT)
      clear hF hT
      go_wp2
      go_end0
      exact ⟨rfl, HO.out.1, HO.out.2⟩

set_option maxRecDepth 100000 in
set_option maxHeartbeats 4000000 in
theorem fireScript_c (n : Nat) (L : List Lnk) (hG : GoodL n L) (w : World) (p u x : Value) (hp : RG w p n L) (f s : Nat → Int) (hd : RInts w u (lst n f)) (hx : RInts w x (lst n s)) (hf : ∀ i, i < n → -1000 ≤ f i ∧ f i ≤ 1000) (hs : ∀ i, i < n → -20 ≤ s i ∧ s i ≤ 20) :
    Calls Try.prog 106 #[p, u, x] w (RetInts w (lst n ((grL n L hG).after f s))) := by
  have HP := hid hp
  have HD := hid hd
  have HX := hid hx
  have HF := hid hf
  have HS := hid hs
  have hn8 := hG.n8
  have hn1 := hG.n1
  obtain ⟨gp, rfl⟩ := hp.form
  obtain ⟨ad, od, cd, rfl, _, _, _⟩ := ri_open hd (by omega)
  obtain ⟨ax, ox, cx, rfl, hx1, hx2, hxc⟩ := ri_open hx (by omega)
  have HXC := hid hxc
  clear hp hd hx hf hs hxc
  go_enter Try.func106, Try.ntmps106
  go_wp2_with fail
  refine (clone_c _ (lst n f) _ HD.out (by rw [lst_len]; omega)).mono ?_
  rintro e w1 ⟨u1, rfl, hF1, hb1⟩
  obtain ⟨g1, c1, rfl, hg1, hg2⟩ := fi_form hF1 (by omega)
  have HF1 : Hid (FInts w1 w.heap.size w1.heap.size (.slice (some ⟨g1, 0, none⟩) n c1) (lst n ((grL n L hG).aftN f s 0))) := by show FInts _ _ _ _ _; rw [Gr.aftN_zero]; exact hF1
  have HB1 := hid hb1
  clear hF1 hb1
  go_wp2
  go_loopg [14] n (fun gk iv wr => ∃ k : Nat, k ≤ n ∧ gk = n - k ∧ iv = .int .i64 k ∧ FInts wr w.heap.size w1.heap.size (.slice (some ⟨g1, 0, none⟩) n c1) (lst n ((grL n L hG).aftN f s k)) ∧ Touch w.heap.size w1.heap.size w1 wr)
  case atStart => exact ⟨0, Nat.zero_le _, rfl, rfl, HF1.out, Touch.refl _ _ _⟩
  case round =>
    obtain ⟨k, hk, rfl, rfl, hF, hT⟩ := hrel
    have HFR := hid hF
    have HTR := hid hT
    have hbw : Below w.heap.size w wr := HB1.out.trans (hT.below (Nat.le_refl _) HB1.out.size)
    have HBW := hid hbw
    by_cases hlt : k < n
    · have e1 := (hbw.cell (p := ⟨ax, ox + k, none⟩) (cell_lt (HXC.out k hlt))).trans (HXC.out k hlt)
      have hsk := HS.out k hlt
      obtain ⟨y, hy⟩ : ∃ y, s k = y := ⟨_, rfl⟩
      rw [hy] at e1 hsk
      have hstep : lst n ((grL n L hG).fire ((grL n L hG).aftN f s k) k y) = lst n ((grL n L hG).aftN f s (k + 1)) := lst_congr fun i _ => by rw [Gr.aftN_succ]; unfold Gr.fire; rw [hy]
      have HSTEP := hid hstep
      have hbd : ∀ i, i < n → -500000 ≤ (grL n L hG).aftN f s k i ∧ (grL n L hG).aftN f s k i ≤ 500000 := fun i hi => by
        have := aftN_bound hG (f := f) (s := s) (fun j hj => by have := HF.out j hj; omega) (fun j hj => by have := HS.out j hj; omega) hi k (by omega)
        omega
      have HBD := hid hbd
      have hkz : (k : Int) < (n : Int) := by omega
      clear hy hstep hF hT hbw hbd
      go_wp2_with fail
      refine (fireK_c n L hG w _ _ HP.out w.heap.size w1.heap.size (Nat.le_refl _) HBW.out g1 c1 k y _ HFR.out hlt hsk HBD.out).mono ?_
      rintro e w2 ⟨rfl, hF2, hT2⟩
      rw [HSTEP.out] at hF2
      have HF2 := hid hF2
      have HT2 := hid (HTR.out.trans hT2)
      clear hF2 hT2 e1
      go_wp2
      go_roundg (n - (k + 1))
      case rel => exact ⟨k + 1, by omega, rfl, by go_num, HF2.out, HT2.out⟩
      case measure => omega
    · obtain rfl : k = n := by omega
      clear hF hT hbw
      go_wp2
      go_ret
      exact ⟨_, rfl, HFR.out.mono (Nat.le_refl _) HTR.out.size, HBW.out⟩

end Go.Proofs.Ytlehhfmbdcmpoaa
