/- Firing by a script, sets as scripts: the reference. -/
import Derived.Test.YtifdhapaonideaaReduce
import Derived.Test.YtifdhapaonideaaOwn
import Derived.Test.YtifdhapaonideaaPileD
namespace Go.Proofs.Ytifdhapaonideaa
open Go.RowKit
open Go.Lib (hid)

/-- an own matrix at every index, and where its rows lie -/
theorem fm_rm {w : World} {lo hi : Nat} {v : Value} {n : Nat} {m : Nat → Nat → Int} (h : FMat w lo hi v (mat n m)) (hn : 0 < n) :
    ∃ (g cap : Nat) (G C : Nat → Nat), v = .slice (some ⟨g, 0, none⟩) n cap ∧ (lo ≤ g ∧ g < hi) ∧ (∀ i, i < n → w.cell? ⟨g, i, none⟩ = some (.slice (some ⟨G i, 0, none⟩) n (C i))) ∧
      (∀ i, i < n → lo ≤ G i ∧ G i < hi) ∧ ∀ i j, i < n → j < n → w.cell? ⟨G i, j, none⟩ = some (.int .i64 (m i j)) := by
  have hl : (mat n m).length = n := mat_len n m
  obtain ⟨g, cap, rfl, h1, h2⟩ := h.form_some (by omega)
  rw [hl]
  rw [hl] at h
  have each : ∀ i, i < n → ∃ q : Nat × Nat, w.cell? ⟨g, i, none⟩ = some (.slice (some ⟨q.1, 0, none⟩) n q.2) ∧ (lo ≤ q.1 ∧ q.1 < hi) ∧ ∀ j, j < n → w.cell? ⟨q.1, j, none⟩ = some (.int .i64 (m i j)) := by
    intro i hi'
    obtain ⟨g', r, x, he, _, _, hc, _, hr, HX, _⟩ := h.at (i := i) (by omega)
    simp only [Option.some.injEq, Addr.mk.injEq, and_true] at he
    subst he
    have hx : x = lst n (m i) := by rw [← HX.out, mat_row m hi']
    subst hx
    obtain ⟨gr, cr, rfl, h3, h4⟩ := fi_form hr hn
    refine ⟨(gr, cr), by rw [hc], ⟨h3, h4⟩, fun j hj => ((fi_open hr).1 j hj).1⟩
  obtain ⟨q, hq⟩ := Go.Deep.choose_lt each
  exact ⟨g, cap, fun i => (q i).1, fun i => (q i).2, rfl, ⟨h1, h2⟩, fun i hi => (hq i hi).1, fun i hi => (hq i hi).2.1, fun i j hi hj => (hq i hi).2.2 j hj⟩

theorem mul_bound {x y A B : Int} (h1 : -A ≤ x) (h2 : x ≤ A) (h3 : -B ≤ y) (h4 : y ≤ B) (hB : 0 ≤ B) : -(A * B) ≤ x * y ∧ x * y ≤ A * B := by
  by_cases hx : 0 ≤ x
  · exact prod_bound hx h2 h3 h4 hB
  · have := prod_bound (t := -x) (m := y) (T := A) (M := B) (by omega) (by omega) h3 h4 hB
    rw [Int.neg_mul] at this; omega
namespace Gr
/-- the first k vertices of a script have fired -/
def aftN (G : Gr) (f s : Nat → Int) (k : Nat) : Nat → Int := fun u => f u - sumN k (fun x => s x * G.lap x u)
theorem aftN_zero (G : Gr) (f s : Nat → Int) : G.aftN f s 0 = f := funext fun u => by unfold aftN; simp [sumN]
theorem aftN_all (G : Gr) (f s : Nat → Int) : G.aftN f s G.n = G.after f s := rfl
theorem aftN_succ (G : Gr) (f s : Nat → Int) (k u : Nat) : G.aftN f s (k + 1) u = G.aftN f s k u - s k * G.lap k u := by unfold aftN; simp only [sumN]; omega
end Gr
theorem aftN_bound {n : Nat} {L : List Lnk} (hG : GoodL n L) {f s : Nat → Int} (hf : ∀ i, i < n → -100000 ≤ f i ∧ f i ≤ 100000) (hs : ∀ i, i < n → -1000 ≤ s i ∧ s i ≤ 1000) {u : Nat} (hu : u < n) : ∀ k, k ≤ n → -100000 - 40000 * (k : Int) ≤ (grL n L hG).aftN f s k u ∧ (grL n L hG).aftN f s k u ≤ 100000 + 40000 * (k : Int) := by
  intro k
  induction k with
  | zero => intro _; rw [Gr.aftN_zero]; have := hf u hu; omega
  | succ k ih =>
    intro hk
    have h1 := ih (by omega)
    have h2 := lapV_bound hG (v := k) (u := u) (by omega)
    have h3 := hs k (by omega)
    have h4 := mul_bound (A := 1000) (B := 40) h3.1 h3.2 h2.1 h2.2 (by decide)
    rw [Gr.aftN_succ]
    have h5 : (grL n L hG).lap k u = lapV n L k u := rfl
    rw [h5]; omega

set_option maxRecDepth 100000 in
set_option maxHeartbeats 4000000 in
theorem chFire_c (n : Nat) (v u x : Value) (L : List Lnk) (f s : Nat → Int) (w : World) (h : RLinks w v L) (hG : GoodL n L) (hd : RInts w u (lst n f)) (hx : RInts w x (lst n s)) (hf : ∀ i, i < n → -100000 ≤ f i ∧ f i ≤ 100000) (hs : ∀ i, i < n → -1000 ≤ s i ∧ s i ≤ 1000) :
    Calls Try.prog 75 #[.int .i64 n, v, u, x] w (RetInts w (lst n ((grL n L hG).after f s))) := by
  have HR := hid h
  have HD := hid hd
  have HX := hid hx
  have hn8 := hG.n8
  have hn1 := hG.n1
  obtain ⟨a, cap, rfl⟩ := h.form
  obtain ⟨gd, od, cd, rfl, _, _, _⟩ := ri_open hd (by omega)
  obtain ⟨gx, ox, cx, rfl, hcx1, hcx2, hxc⟩ := ri_open hx (by omega)
  have HXC := hid hxc
  have HG := hid hG
  have HB := hid (fun k hk u hu => aftN_bound hG hf hs (u := u) hu k hk)
  have HS := hid hs
  have hll : (lst n f).length ≤ 1048576 := by rw [lst_len]; omega
  clear h hd hx hxc hf hs
  go_enter Try.func75, Try.ntmps75
  go_wp2_with fail
  refine (l1Own_c _ (lst n f) _ HD.out hll).mono ?_
  rintro e w1 ⟨uO, rfl, hFO, hbO⟩
  obtain ⟨gO, cO, rfl, hlo, hhi⟩ := fi_form hFO (by omega)
  have HFO := hid hFO
  have HBO := hid hbO
  have HR1 := hid (HR.out.keep hbO)
  have hsO := hbO.size
  clear hFO hbO
  go_wp2_with fail
  refine (chLaplacian_c n _ L _ HR1.out HG.out).mono ?_
  rintro e w2 ⟨um, rfl, hFM, hbM⟩
  obtain ⟨gM, cM, Gm, Cm, rfl, hgM, hrow, hGm, hent⟩ := fm_rm hFM (by omega)
  have HROW := hid hrow
  have HGM := hid hGm
  have HENT := hid hent
  have HFO2 := hid (HFO.out.keep hbM)
  have HBM := hid (HBO.out.trans (hbM.mono HBO.out.size))
  have hsM := hbM.size
  have HXC2 := hid (fun i (hi : i < n) => (HBM.out.cell (p := ⟨gx, ox + i, none⟩) (cell_lt (HXC.out i hi))).trans (HXC.out i hi))
  have HXG : Hid (gx < w.heap.size) := cell_lt (HXC.out 0 (by omega))
  clear hFM hbM hrow hGm hent
  go_wp2
  go_loopg [20] n (fun gk vv wr => ∃ k : Nat, k ≤ n ∧ gk = n - k ∧ vv = .int .i64 k ∧ FInts wr w.heap.size w1.heap.size (.slice (some ⟨gO, 0, none⟩) n cO) (lst n ((grL n L HG.out).aftN f s k)) ∧ Touch w.heap.size w1.heap.size w2 wr)
  case atStart => exact ⟨0, Nat.zero_le _, rfl, rfl, by rw [Gr.aftN_zero]; exact HFO2.out, Touch.refl _ _ _⟩
  case round =>
    obtain ⟨k, hk, rfl, rfl, hF, hT⟩ := hrel
    obtain ⟨wo, rfl⟩ : ∃ wo : World, wo = wr := ⟨_, rfl⟩
    have HFW := hid hF
    have HTW := hid hT
    by_cases hlt : k < n
    · have e1 := hT.cell (by omega) (HROW.out k hlt)
      obtain ⟨g1, hg1⟩ : ∃ g1, (grL n L HG.out).aftN f s k = g1 := ⟨_, rfl⟩
      obtain ⟨g2, hg2⟩ : ∃ g2, (grL n L HG.out).aftN f s (k + 1) = g2 := ⟨_, rfl⟩
      have hstep : ∀ j, g2 j = g1 j - s k * lapV n L k j := fun j => by rw [← hg1, ← hg2]; exact Gr.aftN_succ _ _ _ _ _
      have hbnd : ∀ j, j < n → -500000 ≤ g1 j ∧ g1 j ≤ 500000 := fun j hj => by have := HB.out k hk j hj; rw [hg1] at this; omega
      rw [hg1] at HFW
      have HG2 := hid hg2
      have HSTEP := hid hstep
      have HBND := hid hbnd
      have hkz : (k : Int) < (n : Int) := by omega
      clear hF hT hg1 hg2 hstep hbnd
      go_wp2
      clear e1
      go_loopg [27] n (fun gk vv wr => ∃ j : Nat, j ≤ n ∧ gk = n - j ∧ vv = .int .i64 j ∧ FInts wr w.heap.size w1.heap.size (.slice (some ⟨gO, 0, none⟩) n cO) (lst n (partF g1 g2 j)) ∧ Touch w.heap.size w1.heap.size w2 wr)
      case atStart => exact ⟨0, Nat.zero_le _, rfl, rfl, by rw [part_zero]; exact HFW.out, HTW.out⟩
      case round =>
        obtain ⟨j, hj, rfl, rfl, hF, hT⟩ := hrel
        by_cases hltj : j < n
        · obtain ⟨hc, _, hset⟩ := fi_open hF
          obtain ⟨wq, hwq⟩ : ∃ wq : World, wq = wr.drew := ⟨_, rfl⟩
          have a1 : wq.cell? ⟨gO, j, none⟩ = some (.int .i64 (g1 j)) := by rw [hwq]; have := (hc j hltj).1; rw [part_at] at this; exact this
          have a2 : wq.frozen? ⟨gO, j, none⟩ = false := by rw [hwq]; exact (hc j hltj).2
          have a3 : wr.cell? ⟨Gm k, j, none⟩ = some (.int .i64 (lapV n L k j)) := hT.cell (by have := HGM.out k hlt; omega) (HENT.out k j hlt hltj)
          have a4 : wq.cell? ⟨gx, ox + k, none⟩ = some (.int .i64 (s k)) := by rw [hwq]; exact hT.cell (by have := HXG.out; omega) (HXC2.out k hlt)
          have hlb := lapV_bound HG.out (v := k) (u := j) hlt
          have hyr := HBND.out j hltj
          have hsr := HS.out k hlt
          have hfire := HSTEP.out j
          obtain ⟨m, hm⟩ : ∃ m, lapV n L k j = m := ⟨_, rfl⟩
          obtain ⟨y, hy⟩ : ∃ y, g1 j = y := ⟨_, rfl⟩
          obtain ⟨z, hz⟩ : ∃ z, s k = z := ⟨_, rfl⟩
          rw [hm] at a3 hlb hfire
          rw [hy] at a1 hyr hfire
          rw [hz] at a4 hsr hfire
          have hpb := mul_bound (A := 40) (B := 1000) hlb.1 hlb.2 hsr.1 hsr.2 (by decide)
          rw [Int.mul_comm z m] at hfire
          obtain ⟨pr, hpr⟩ : ∃ pr, m * z = pr := ⟨_, rfl⟩
          rw [hpr] at hpb hfire
          have hst := hset j (y - pr) hltj
          rw [part_set n g1 _ hfire.symm] at hst
          have HO : Hid (FInts (wq.setCell ⟨gO, j, none⟩ (.int .i64 (y - pr))) w.heap.size w1.heap.size (.slice (some ⟨gO, 0, none⟩) n cO) (lst n (partF g1 g2 (j + 1))) ∧ Touch w.heap.size w1.heap.size wr (wq.setCell ⟨gO, j, none⟩ (.int .i64 (y - pr)))) := by
            rw [hwq]; exact ⟨hst.1, ⟨hst.2.os, hst.2.tape, hst.2.output, hst.2.size, hst.2.block⟩⟩
          have HWQ := hid hwq
          have HTW2 := hid hT
          have hjz : (j : Int) < (n : Int) := by omega
          clear hF hT hc hset hst hwq hm hy hz hfire
          have f1 : IntKind.i64.wrap (m * z) = pr := by rw [hpr]; exact IntWalk.i64_in _ (by omega)
          have f2 : IntKind.i64.wrap (y - pr) = y - pr := IntWalk.i64_in _ (by omega)
          clear hpr
          go_wp2
          refine wp_region_still_tail 12 (by kernel_rfl) (by kernel_rfl) ?_
          change wpStill _ _ wr.drew _ _ _
          rw [← HWQ.out]
          simp only [List.take_succ_cons, List.take_zero, List.drop_succ_cons, List.drop_zero]
          repeat still_step
          refine wpStill_nil ?_
          change wpList _ _ _ _ _ wr.drew
          rw [← HWQ.out]
          clear f1 f2
          go_wp2
          go_roundg (n - (j + 1))
          case rel => exact ⟨j + 1, by omega, rfl, by go_num, HO.out.1, HTW2.out.trans HO.out.2⟩
          case measure => omega
        · have hjn : j = n := by omega
          subst hjn
          rw [part_all] at hF
          have HF2 := hid hF
          have HT2 := hid hT
          clear hF hT
          go_wp2
          go_roundg (j - (k + 1))
          case rel => exact ⟨k + 1, by omega, rfl, by go_num, by rw [HG2.out]; exact HF2.out, HT2.out⟩
          case measure => omega
    · have hkn : k = n := by omega
      subst hkn
      clear hF hT
      go_wp2
      go_ret
      exact ⟨_, rfl, HFW.out.mono (Nat.le_refl _) (by have := HTW.out.size; omega), HBM.out.trans (HTW.out.below (Nat.le_refl _) (by omega))⟩

/-- a set as a script -/
def setF (l : List Int) (u : Nat) : Int := if hasB l u then 1 else 0
theorem take_succ_i (l : List Int) (i : Nat) (h : i < l.length) : l.take (i + 1) = l.take i ++ [l.getD i 0] := by
  rw [List.take_add_one]; simp [List.getD, h]
theorem setF_take {l : List Int} {i : Nat} (h : i < l.length) {a : Nat} (ha : l.getD i 0 = a) (n : Nat) : lst n (upd (setF (l.take i)) a 1) = lst n (setF (l.take (i + 1))) := lst_congr fun u _ => by
  rw [take_succ_i l i h, ha]
  unfold upd setF
  by_cases e : u = a
  · rw [if_pos e, if_pos]
    rw [hasB_mem]; simp [e]
  · rw [if_neg e]
    have : hasB (l.take i ++ [(a : Int)]) u = hasB (l.take i) u := by
      rw [Bool.eq_iff_iff, hasB_mem, hasB_mem, List.mem_append, List.mem_singleton]
      constructor
      · rintro (h | h)
        · exact h
        · omega
      · exact .inl
    rw [this]

set_option maxRecDepth 100000 in
set_option maxHeartbeats 2000000 in
theorem chSet_c (n : Nat) (v : Value) (l : List Int) (w : World) (hn : n ≤ 1000) (h : RInts w v l) (hl : ∀ x ∈ l, 0 ≤ x ∧ x < (n : Int)) :
    Calls Try.prog 76 #[.int .i64 n, v] w (RetInts w (lst n (setF l))) := by
  have HR := hid h
  obtain ⟨a, cap, rfl, h1, h2, hc⟩ := h
  clear hc
  unfold maxLen at h2
  have HL := hid hl
  have hmk := run_make_row' (P := Try.prog) 25 3 (.int .i64 0) 8 Try.underlying25 Try.infoInt rfl .i64 .i64 n (by omega) (by omega)
  have HF0 := hid (fi_made w n (by omega))
  have HB0 : Hid (Below w.heap.size w (w.alloc (.cells (madeCells #[.int .i64 0] n) 3))) := (Below.refl _ _).alloc (Nat.le_refl _) _
  clear hl
  go_enter Try.func76, Try.ntmps76
  go_wp2
  clear hmk
  go_loopg [12] l.length (fun gk vv wr => ∃ i : Nat, i ≤ l.length ∧ gk = l.length - i ∧ vv = .int .i64 i ∧ FInts wr w.heap.size (w.heap.size + 1) (.slice (some ⟨w.heap.size, 0, none⟩) n n) (lst n (setF (l.take i))) ∧ Below w.heap.size w wr ∧ w.heap.size + 1 ≤ wr.heap.size)
  case atStart => exact ⟨0, Nat.zero_le _, rfl, rfl, HF0.out, HB0.out, by simp⟩
  case round =>
    obtain ⟨i, hi, rfl, rfl, hF, hb, hsz⟩ := hrel
    by_cases hlt : i < l.length
    · have hm := HR.out.keep hb
      obtain ⟨a2, cap2, he, _, _, hc⟩ := hm
      simp only [Value.slice.injEq, true_and] at he
      obtain ⟨rfl, rfl⟩ := he
      obtain ⟨g, o, x, rfl, hcell, HD, HX⟩ := ints_at hc hlt
      have hmem : x ∈ l := by rw [← HX.out]; simp [List.getD, List.getElem?_eq_getElem hlt]
      have hx := HL.out x hmem
      obtain ⟨y, rfl⟩ : ∃ y : Nat, x = y := ⟨x.toNat, by omega⟩
      obtain ⟨hc0, _, hset⟩ := fi_open hF
      have hyn : y < n := by omega
      have b2 := (hc0 y hyn).2
      have b1 := (hc0 y hyn).1
      have hst := hset y 1 hyn
      rw [setF_take hlt HX.out] at hst
      have HO := hid (And.intro hst.1 (And.intro (hb.trans (hst.2.below (Nat.le_refl _) hb.size)) (Nat.le_trans hsz hst.2.size)))
      have hiz : (i : Int) < (l.length : Int) := by omega
      have hyz : (y : Int) < (n : Int) := by omega
      clear hF hb hc hc0 hset hst hmem hx HD HX
      go_wp2
      go_roundg (l.length - (i + 1))
      case rel => exact ⟨i + 1, by omega, rfl, by go_num, HO.out⟩
      case measure => omega
    · obtain rfl : i = l.length := by omega
      rw [List.take_length] at hF
      have HF := hid (And.intro hF (And.intro hb hsz))
      clear hF hb
      go_wp2
      go_ret
      exact ⟨_, rfl, HF.out.1.mono (Nat.le_refl _) HF.out.2.2, HF.out.2.1⟩

end Go.Proofs.Ytifdhapaonideaa
