/- The program's fire, outside, burnt, hasDebtBut. -/
import Derived.Test.YtifdhapaonideaaReduce
import Derived.Test.YtifdhapaonideaaRankI
namespace Go.Proofs.Ytifdhapaonideaa
open Go.RowKit
open Go.Lib (hid)

theorem go_lap {n : Nat} {L : List Lnk} (hG : GoodL n L) (v u : Nat) : (grL n L hG).lap v u = if u = v then valV n L v else - mulL L v u := rfl

set_option maxRecDepth 100000 in
set_option maxHeartbeats 4000000 in
theorem fire_c (n : Nat) (L : List Lnk) (hG : GoodL n L) (wE w : World) (p : Value) (hp : RG wE p n L) (lo hi : Nat) (hlo : wE.heap.size ≤ lo) (hb : Below wE.heap.size wE w) (g c v : Nat) (k : Int) (f : Nat → Int) (hF : FInts w lo hi (.slice (some ⟨g, 0, none⟩) n c) (lst n f)) (hv : v < n) (hk : k = 1 ∨ k = -1) (hbd : ∀ i, i < n → -100000 ≤ f i ∧ f i ≤ 100000) :
    Calls Try.prog 73 #[p, .slice (some ⟨g, 0, none⟩) n c, .int .i64 v, .int .i64 k] w fun e w' => e = .returned (.tuple #[]) ∧ FInts w' lo hi (.slice (some ⟨g, 0, none⟩) n c) (lst n ((grL n L hG).fire f v k)) ∧ Touch lo hi w w' := by
  have hn8 := hG.n8
  have hn1 := hG.n1
  obtain ⟨gp, bt, vt, rfl, c0, c1, c2, c3, hm, hvv⟩ := hp
  obtain ⟨gM, oM, cM, Gm, Om, Cm, rfl, hcm1, hcm2, hrow, hent⟩ := rm_open hm (by omega)
  obtain ⟨gv, ov, cv, rfl, hcv1, hcv2, hvc⟩ := ri_open hvv (by omega)
  have HROW := hid hrow
  have HENT := hid hent
  have HBE := hid hb
  have HBD := hid hbd
  have hsz := hb.size
  obtain ⟨hc, hgl, hset⟩ := fi_open hF
  have hgg := hgl (by omega)
  obtain ⟨wq, hwq⟩ : ∃ wq : World, wq = w.drew := ⟨_, rfl⟩
  have a1 : wq.cell? ⟨g, v, none⟩ = some (.int .i64 (f v)) := by rw [hwq]; exact (hc v hv).1
  have a2 : wq.frozen? ⟨g, v, none⟩ = false := by rw [hwq]; exact (hc v hv).2
  have a3 : wq.cell? ⟨gp, 2, none⟩ = some (.slice (some ⟨gv, ov, none⟩) n cv) := by rw [hwq]; exact (hb.cell (p := ⟨gp, 2, none⟩) (cell_lt c2)).trans c2
  have a4 : wq.cell? ⟨gv, ov + v, none⟩ = some (.int .i64 (valV n L v)) := by rw [hwq]; exact (hb.cell (p := ⟨gv, ov + v, none⟩) (cell_lt (hvc v hv))).trans (hvc v hv)
  have hvb := valV_bound hG hv
  have hfb := hbd v hv
  have HC1 := hid c1
  have hfv : (grL n L hG).fire f v k v = f v - k * valV n L v := by unfold Gr.fire; rw [go_lap, if_pos rfl]
  have hfo : ∀ j, j ≠ v → (grL n L hG).fire f v k j = f j + k * mulL L v j := fun j hj => by unfold Gr.fire; rw [go_lap, if_neg hj, Int.mul_neg]; omega
  have hirr : mulL L v v = 0 := (grL n L hG).irr v
  have hmb : ∀ j, 0 ≤ mulL L v j ∧ mulL L v j ≤ 5 := fun j => mulL_bound hG.each hG.sorted v j
  obtain ⟨FF, hFF⟩ : ∃ FF, (grL n L hG).fire f v k = FF := ⟨_, rfl⟩
  rw [hFF] at hfv hfo ⊢
  have HFO := hid hfo
  have HIRR := hid hirr
  have HMB := hid hmb
  obtain ⟨y, hy⟩ : ∃ y, f v = y := ⟨_, rfl⟩
  obtain ⟨vl, hvl⟩ : ∃ vl, valV n L v = vl := ⟨_, rfl⟩
  rw [hy] at a1 hfb hfv
  rw [hvl] at a4 hvb hfv
  obtain ⟨pr, hpr⟩ : ∃ pr, k * vl = pr := ⟨_, rfl⟩
  rw [hpr] at hfv
  have hprb : -35 ≤ pr ∧ pr ≤ 35 := by
    rw [← hpr]; rcases hk with rfl | rfl
    · omega
    · rw [Int.neg_mul]; omega
  have hst := hset v (y - pr) hv
  have HG0 : Hid (FInts (wq.setCell ⟨g, v, none⟩ (.int .i64 (y - pr))) lo hi (.slice (some ⟨g, 0, none⟩) n c) (lst n (partF (upd f v (y - pr)) FF 0)) ∧ Touch lo hi w (wq.setCell ⟨g, v, none⟩ (.int .i64 (y - pr)))) := by
    rw [hwq, part_zero]; exact ⟨hst.1, ⟨hst.2.os, hst.2.tape, hst.2.output, hst.2.size, hst.2.block⟩⟩
  have HFV := hid hfv
  have HWQ := hid hwq
  have HHK := hid hk
  have hvz : (v : Int) < (n : Int) := by omega
  clear hm hvv hrow hent hvc hb hbd hF hc hgl hset hst c0 c1 c2 c3 hfo hirr hmb hFF hy hvl hfv hwq hk hG
  have f1 : IntKind.i64.wrap (k * vl) = pr := by rw [hpr]; exact IntWalk.i64_in _ (by omega)
  have f2 : IntKind.i64.wrap (y - pr) = y - pr := IntWalk.i64_in _ (by omega)
  clear hpr
  go_enter Try.func73, Try.ntmps73
  go_wp2
  refine wp_region_still_tail 15 (by kernel_rfl) (by kernel_rfl) ?_
  change wpStill _ _ w.drew _ _ _
  rw [← HWQ.out]
  simp only [List.take_succ_cons, List.take_zero, List.drop_succ_cons, List.drop_zero]
  repeat still_step
  refine wpStill_nil ?_
  change wpList _ _ _ _ _ w.drew
  rw [← HWQ.out]
  clear f1 f2 a3 a4
  have hb2 := HBE.out.trans (HG0.out.2.below hlo hsz)
  have e1 := (hb2.cell (p := ⟨gp, 1, none⟩) (cell_lt HC1.out)).trans HC1.out
  have e2 := (hb2.cell (p := ⟨gM, oM + v, none⟩) (cell_lt (HROW.out v hv))).trans (HROW.out v hv)
  clear hb2
  go_wp2
  clear e1 e2 a1 a2
  go_loopg [33] n (fun gk iv wr => ∃ j : Nat, j ≤ n ∧ gk = n - j ∧ iv = .int .i64 j ∧ FInts wr lo hi (.slice (some ⟨g, 0, none⟩) n c) (lst n (partF (upd f v (y - pr)) FF j)) ∧ Touch lo hi w wr)
  case atStart => exact ⟨0, Nat.zero_le _, rfl, rfl, HG0.out.1, HG0.out.2⟩
  case round =>
    obtain ⟨j, hj, rfl, rfl, hF, hT⟩ := hrel
    by_cases hlt : j < n
    · obtain ⟨hc, _, hset⟩ := fi_open hF
      have a1 := (hc j hlt).1
      rw [part_at] at a1
      have a2 := (hc j hlt).2
      have hbr := HBE.out.trans (hT.below hlo hsz)
      have a3 := (hbr.cell (p := ⟨Gm v, Om v + j, none⟩) (cell_lt (HENT.out v j hv hlt))).trans (HENT.out v j hv hlt)
      have hmb := HMB.out j
      obtain ⟨x, hx⟩ : ∃ x, upd f v (y - pr) j = x := ⟨_, rfl⟩
      obtain ⟨m, hm⟩ : ∃ m, mulL L v j = m := ⟨_, rfl⟩
      have hxb : -200000 ≤ x ∧ x ≤ 200000 := by
        rw [← hx]; unfold upd
        by_cases e : j = v
        · rw [if_pos e]; omega
        · rw [if_neg e]; have := HBD.out j hlt; omega
      have hFj : x + k * m = FF j := by
        by_cases e : j = v
        · rw [← hx, ← hm, e, HIRR.out, upd_self, HFV.out]; omega
        · rw [HFO.out j e, ← hx, ← hm, upd_other _ _ e]
      rw [hx] at a1
      rw [hm] at a3 hmb
      obtain ⟨pm, hpm⟩ : ∃ pm, k * m = pm := ⟨_, rfl⟩
      rw [hpm] at hFj
      have hpmb : -5 ≤ pm ∧ pm ≤ 5 := by
        rw [← hpm]; rcases HHK.out with h | h <;> rw [h] <;> omega
      have hst := hset j (x + pm) hlt
      rw [part_set n _ FF hFj] at hst
      have HO := hid (And.intro hst.1 (hT.trans hst.2))
      have hjz : (j : Int) < (n : Int) := by omega
      clear hF hT hc hset hst hbr hx hm hFj
      have f1 : IntKind.i64.wrap (k * m) = pm := by rw [hpm]; exact IntWalk.i64_in _ (by omega)
      clear hpm
      go_wp2
      clear f1
      go_roundg (n - (j + 1))
      case rel => exact ⟨j + 1, by omega, rfl, by go_num, HO.out.1, HO.out.2⟩
      case measure => omega
    · have hjn : j = n := by omega
      subst hjn
      rw [part_all] at hF
      have HO := hid (And.intro hF hT)
      clear hF hT
      go_wp2
      go_end0
      exact ⟨rfl, HO.out.1, HO.out.2⟩

/-- marks as numbers -/
def bI (b : Nat → Bool) : Nat → Int := fun i => if b i then 1 else 0
/-- the edges to those that are not marked -/
def outS (n : Nat) (L : List Lnk) (b : Nat → Bool) (v : Nat) : Int := sumN n (fun u => if b u then 0 else mulL L v u)
theorem outS_eq {n : Nat} {L : List Lnk} (hG : GoodL n L) (b : Nat → Bool) (v : Nat) : valV n L v = (grL n L hG).edges b v + outS n L b v := by
  show sumN n (mulL L v) = sumN n (fun u => if b u then mulL L v u else 0) + _
  unfold outS
  rw [← sumN_add]
  apply sumN_congr; intro i _; split <;> omega

theorem bI_mark (n : Nat) (b : Nat → Bool) (v : Nat) : lst n (upd (bI b) v 1) = lst n (bI (Gr.mark b v)) := lst_congr (fun i _ => by
  unfold upd bI Gr.mark
  by_cases e : i = v
  · rw [if_pos e, if_pos e]; rfl
  · rw [if_neg e, if_neg e])

end Go.Proofs.Ytifdhapaonideaa
