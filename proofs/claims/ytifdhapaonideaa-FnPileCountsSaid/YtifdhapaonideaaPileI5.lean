/- Piles: the program's withPiles. -/
import Derived.Test.YtifdhapaonideaaPileI4
import Derived.Deep.RegionHeld3
namespace Go.Proofs.Ytifdhapaonideaa
open Go.RowKit
open Go.Lib (hid)

set_option maxHeartbeats 1000000 in
theorem withPilesF_c (n q p b : Nat) (L : List Lnk) (r : Value) (x : List Int) (w : World) (hp : RG w (.pointer (some ⟨p, 0, none⟩)) n L) (hq : q < n) (hr : RInts w r x) (b0 : w.cell? ⟨b, 0, none⟩ = some (.pointer (some ⟨p, 0, none⟩))) (b1 : w.cell? ⟨b, 1, none⟩ = some (.int .i64 q)) :
    Calls Try.prog 71 (#[r] ++ #[.pointer (some ⟨b, 0, none⟩)]) w fun e w' => e = .returned (.bool (!piPB n q x)) ∧ Below w.heap.size w w' := by
  show Calls Try.prog 71 #[r, .pointer (some ⟨b, 0, none⟩)] w _
  have HR := hid hr
  obtain ⟨a, cap, rfl, _, _, hc⟩ := hr
  have HP := hid hp
  clear hc hp
  go_enter Try.func71, Try.ntmps71
  go_wp2_with fail
  refine (isPile_c n q p L _ x _ HP.out HR.out hq).mono ?_
  rintro e w' ⟨rfl, hb⟩
  have HB := hid hb
  clear hb b0 b1
  go_wp2
  go_ret
  exact ⟨rfl, HB.out⟩
theorem all_any (M : List (List Int)) (p : List Int → Bool) : (M.any fun x => !p x) = !M.all p := by
  induction M with
  | nil => rfl
  | cons x xs ih => simp only [List.any_cons, List.all_cons, ih]; cases p x <;> simp

theorem tnew (w1 : World) (ap : Option Addr) (x : Int) : (w1.alloc (.cells #[.pointer ap, .int .i64 x] 54)).cell? ⟨w1.heap.size, 0, none⟩ = some (.pointer ap) ∧ (w1.alloc (.cells #[.pointer ap, .int .i64 x] 54)).cell? ⟨w1.heap.size, 1, none⟩ = some (.int .i64 x) ∧
    Below w1.heap.size w1 (w1.alloc (.cells #[.pointer ap, .int .i64 x] 54)) := by
  have hbx : (w1.alloc (.cells #[.pointer ap, .int .i64 x] 54)).heap[w1.heap.size]? = some (.cells #[.pointer ap, .int .i64 x] 54 (0, 0)) := heap_alloc_new _ _
  exact ⟨by rw [cell_of_row _ _ _ _ _ _ hbx]; rfl, by rw [cell_of_row _ _ _ _ _ _ hbx]; rfl, (Below.refl _ _).alloc (Nat.le_refl _) _⟩

set_option maxRecDepth 100000 in
set_option maxHeartbeats 4000000 in
theorem withPiles_yes (n q : Nat) (v u : Value) (L : List Lnk) (M : List (List Int)) (w : World) (h : RLinks w v L) (hm : RMat w u M) (hs : piGB (n : Int) L (q : Int) = true) (ha : M.all (fun x => piPB n q x) = true) :
    Calls Try.prog 37 #[.int .i64 n, v, .int .i64 q, u] w (RetT w n L q) := by
  have HR := hid h
  have HM := hid hm
  obtain ⟨a, cap, rfl⟩ := h.form
  obtain ⟨a2, cap2, rfl, _, _, hc⟩ := hm
  have hq := (piGB_parts hs).2.2.1.hq
  simp only [Int.toNat_natCast] at hq
  have HA := hid ha
  have hal : Below w.heap.size w (w.alloc (.cells #[.pointer none, .int .i64 0] 54)) := (Below.refl _ _).alloc (Nat.le_refl _) _
  have HAL := hid hal
  clear h hc hal ha
  go_enter Try.func37, Try.ntmps37
  go_wp2_with fail
  refine (tableOf_yes n q _ L _ (HR.out.keep HAL.out) hs).mono ?_
  rintro e w1 ⟨g, rfl, hg, hb1, hfar⟩
  obtain ⟨c0, c1, hw2⟩ := tnew w1 (some ⟨g, 0, none⟩) q
  obtain ⟨w2, hww⟩ : ∃ w2 : World, w2 = (w1.alloc (.cells #[.pointer (some ⟨g, 0, none⟩), .int .i64 q] 54)) := ⟨_, rfl⟩
  rw [← hww] at hw2 c0 c1
  have HFAR := hid hfar
  have HB1 := hid hb1
  have HW2 := hid hw2
  have HWW := hid hww
  have HRG := hid (hg.keep hw2)
  have hb02 := hb1.trans (hw2.mono hb1.size)
  have HB02 := hid hb02
  have HM2 := hid ((HM.out.keep HAL.out).keep hb02)
  have HC := hid (And.intro c0 c1)
  have hlt1 := cell_lt c0
  obtain ⟨BX, hBX⟩ : ∃ BX, w1.heap.size = BX := ⟨_, rfl⟩
  rw [hBX] at c0 c1 HC hlt1
  have hne : BX ≠ w.heap.size := by have := HB1.out.size; simp at this; omega
  have hne' : w.heap.size ≠ BX := fun e => hne e.symm
  clear hww hb1 hw2 hb02 hg hfar
  go_upto_region 2 with fail
  rw [← HWW.out]
  clear hBX
  go_region_held3 (fun w' => w'.cell? ⟨BX, 0, none⟩ = some (.pointer (some ⟨g, 0, none⟩)) ∧ w'.cell? ⟨BX, 1, none⟩ = some (.int .i64 q))
    (first | go_keep | exact ⟨(hb5.cell (p := ⟨BX, 0, none⟩) hlt1).trans HC.out.1, (hb5.cell (p := ⟨BX, 1, none⟩) hlt1).trans HC.out.2⟩)
    ((go_at_call 70; refine (containsFuncMB_c _ M w2.drew _ _ (fun x => !piPB n q x) HM2.out Try.call71 (fun r x w' hbw hr _ => withPilesF_c n q g BX L r x w' (HRG.out.keep (below_of_drew hbw)) hq hr (((below_of_drew hbw).cell (p := ⟨BX, 0, none⟩) hlt1).trans HC.out.1) (((below_of_drew hbw).cell (p := ⟨BX, 1, none⟩) hlt1).trans HC.out.2))).mono ?_; rintro e w5 ⟨rfl, hb5⟩; rw [all_any, HA.out]; obtain ⟨k1, k2, k3, k4⟩ := tbox (w := w) rfl rfl (HB02.out.trans ((show Below w2.heap.size w2 w5 from below_of_drew hb5).mono HB02.out.size)); have m0 := (hb5.cell (p := ⟨BX, 0, none⟩) hlt1).trans HC.out.1; have m1 := (hb5.cell (p := ⟨BX, 1, none⟩) hlt1).trans HC.out.2))
  have hz1 := HB1.out.size
  have hz2 := HW2.out.size
  have hz0 : (w.alloc (.cells #[.pointer none, .int .i64 0] 54)).heap.size = w.heap.size + 1 := by simp
  have hb5' : Below w2.heap.size w2 w5 := below_of_drew hb5
  have hz5 := hb5'.size
  have hk : ∀ b', w.heap.size + 1 ≤ b' → b' < w1.heap.size → ((w5.setCell ⟨w.heap.size, 0, none⟩ (.pointer (some ⟨g, 0, none⟩))).setCell ⟨w.heap.size, 1, none⟩ (.int .i64 q)).heap[b']? = w1.heap[b']? := fun b' h1 h2 => by
    rw [heap_setCell_other _ _ _ _ (by show b' ≠ w.heap.size; omega), heap_setCell_other _ _ _ _ (by show b' ≠ w.heap.size; omega), hb5'.block b' (by omega), HW2.out.block b' (by omega)]
  have hsz : ((w5.setCell ⟨w.heap.size, 0, none⟩ (.pointer (some ⟨g, 0, none⟩))).setCell ⟨w.heap.size, 1, none⟩ (.int .i64 q)).heap.size = w5.heap.size := by simp [World.setCell]
  have hfar2 := HFAR.out _ (fun b' h1 h2 _ => hk b' (by omega) h2)
  have hbe := tbox_none (w := w) (o := .cells #[.pointer none, .int .i64 0] 54) rfl (HB02.out.trans (hb5'.mono HB02.out.size)) (.pointer (some ⟨g, 0, none⟩)) (.int .i64 q)
  have HEND := hid (And.intro hfar2 (And.intro hbe (fun w'' (hs : Same w.heap.size ((w5.setCell ⟨w.heap.size, 0, none⟩ (.pointer (some ⟨g, 0, none⟩))).setCell ⟨w.heap.size, 1, none⟩ (.int .i64 q)).heap.size ((w5.setCell ⟨w.heap.size, 0, none⟩ (.pointer (some ⟨g, 0, none⟩))).setCell ⟨w.heap.size, 1, none⟩ (.int .i64 q)) w'') => HFAR.out w'' (fun b' h1 h2 _ => (hs b' (by omega) (by omega) (by omega)).trans (hk b' (by omega) h2)))))
  clear hk hsz hfar2 hbe hb5' hz1 hz2 hz0 hz5
  go_wp2
  refine bodyPost_ret (v := .tuple #[.agg #[.pointer (some ⟨g, 0, none⟩), .int .i64 q], .bool true]) (by simp [results, Try.results37, go_sem, k1, k2]) rfl ?_
  exact ⟨g, rfl, HEND.out⟩

set_option maxRecDepth 100000 in
set_option maxHeartbeats 4000000 in
theorem withPiles_no2 (n q : Nat) (v u : Value) (L : List Lnk) (M : List (List Int)) (w : World) (h : RLinks w v L) (hm : RMat w u M) (hs : piGB (n : Int) L (q : Int) = true) (ha : M.all (fun x => piPB n q x) = false) :
    Calls Try.prog 37 #[.int .i64 n, v, .int .i64 q, u] w (RetNoT w) := by
  have HR := hid h
  have HM := hid hm
  obtain ⟨a, cap, rfl⟩ := h.form
  obtain ⟨a2, cap2, rfl, _, _, hc⟩ := hm
  have hq := (piGB_parts hs).2.2.1.hq
  simp only [Int.toNat_natCast] at hq
  have HA := hid ha
  have hal : Below w.heap.size w (w.alloc (.cells #[.pointer none, .int .i64 0] 54)) := (Below.refl _ _).alloc (Nat.le_refl _) _
  have HAL := hid hal
  clear h hc hal ha
  go_enter Try.func37, Try.ntmps37
  go_wp2_with fail
  refine (tableOf_yes n q _ L _ (HR.out.keep HAL.out) hs).mono ?_
  rintro e w1 ⟨g, rfl, hg, hb1, hfar⟩
  obtain ⟨c0, c1, hw2⟩ := tnew w1 (some ⟨g, 0, none⟩) q
  obtain ⟨w2, hww⟩ : ∃ w2 : World, w2 = (w1.alloc (.cells #[.pointer (some ⟨g, 0, none⟩), .int .i64 q] 54)) := ⟨_, rfl⟩
  rw [← hww] at hw2 c0 c1
  have HB1 := hid hb1
  have HWW := hid hww
  have HRG := hid (hg.keep hw2)
  have hb02 := hb1.trans (hw2.mono hb1.size)
  have HB02 := hid hb02
  have HM2 := hid ((HM.out.keep HAL.out).keep hb02)
  have HC := hid (And.intro c0 c1)
  have hlt1 := cell_lt c0
  obtain ⟨BX, hBX⟩ : ∃ BX, w1.heap.size = BX := ⟨_, rfl⟩
  rw [hBX] at c0 c1 HC hlt1
  have hne : BX ≠ w.heap.size := by have := HB1.out.size; simp at this; omega
  have hne' : w.heap.size ≠ BX := fun e => hne e.symm
  clear hww hb1 hw2 hb02 hg hfar
  go_upto_region 2 with fail
  rw [← HWW.out]
  clear hBX
  go_region_held3 (fun w' => w'.cell? ⟨BX, 0, none⟩ = some (.pointer (some ⟨g, 0, none⟩)) ∧ w'.cell? ⟨BX, 1, none⟩ = some (.int .i64 q))
    (first | go_keep | exact ⟨(hb5.cell (p := ⟨BX, 0, none⟩) hlt1).trans HC.out.1, (hb5.cell (p := ⟨BX, 1, none⟩) hlt1).trans HC.out.2⟩)
    ((go_at_call 70; refine (containsFuncMB_c _ M w2.drew _ _ (fun x => !piPB n q x) HM2.out Try.call71 (fun r x w' hbw hr _ => withPilesF_c n q g BX L r x w' (HRG.out.keep (below_of_drew hbw)) hq hr (((below_of_drew hbw).cell (p := ⟨BX, 0, none⟩) hlt1).trans HC.out.1) (((below_of_drew hbw).cell (p := ⟨BX, 1, none⟩) hlt1).trans HC.out.2))).mono ?_; rintro e w5 ⟨rfl, hb5⟩; rw [all_any, HA.out]; obtain ⟨k1, k2, k3, k4⟩ := tbox (w := w) rfl rfl (HB02.out.trans ((show Below w2.heap.size w2 w5 from below_of_drew hb5).mono HB02.out.size)); have m0 := (hb5.cell (p := ⟨BX, 0, none⟩) hlt1).trans HC.out.1; have m1 := (hb5.cell (p := ⟨BX, 1, none⟩) hlt1).trans HC.out.2))
  have HEND := hid (tbox_none (w := w) (o := .cells #[.pointer none, .int .i64 0] 54) rfl (HB02.out.trans ((show Below w2.heap.size w2 w5 from below_of_drew hb5).mono HB02.out.size)) (.pointer (some ⟨g, 0, none⟩)) (.int .i64 q))
  go_wp2
  refine bodyPost_ret (v := .tuple #[.agg #[.pointer (some ⟨g, 0, none⟩), .int .i64 q], .bool false]) (by simp [results, Try.results37, go_sem, k1, k2]) rfl ?_
  exact ⟨_, _, rfl, HEND.out⟩

set_option maxRecDepth 100000 in
set_option maxHeartbeats 4000000 in
theorem withPiles_no1 (n q : Int) (v u : Value) (L : List Lnk) (M : List (List Int)) (w : World) (h : RLinks w v L) (hm : RMat w u M) (hs : piGB n L q = false) :
    Calls Try.prog 37 #[.int .i64 n, v, .int .i64 q, u] w (RetNoT w) := by
  have HR := hid h
  obtain ⟨a, cap, rfl⟩ := h.form
  obtain ⟨a2, cap2, rfl, _, _, hc⟩ := hm
  clear h hc
  have hal : Below w.heap.size w (w.alloc (.cells #[.pointer none, .int .i64 0] 54)) := (Below.refl _ _).alloc (Nat.le_refl _) _
  have HAL := hid hal
  clear hal
  go_enter Try.func37, Try.ntmps37
  go_wp2_with fail
  refine (tableOf_no n q _ L _ (HR.out.keep HAL.out) hs).mono ?_
  rintro e w1 ⟨ap, x, rfl, hb1⟩
  obtain ⟨c0, c1, hw2⟩ := tnew w1 ap x
  obtain ⟨w2, hww⟩ : ∃ w2 : World, w2 = (w1.alloc (.cells #[.pointer ap, .int .i64 x] 54)) := ⟨_, rfl⟩
  rw [← hww] at hw2 c0 c1
  have hb02 := hb1.trans (hw2.mono hb1.size)
  obtain ⟨k1, k2, k3, k4⟩ := tbox rfl rfl hb02
  have HWW := hid hww
  have HEND := hid (fun v u => tbox_none rfl hb02 v u)
  obtain ⟨BX, hBX⟩ : ∃ BX, w1.heap.size = BX := ⟨_, rfl⟩
  rw [hBX] at c0 c1
  have hne : BX ≠ w.heap.size := by have := hb1.size; simp at this; omega
  have hne' : w.heap.size ≠ BX := fun e => hne e.symm
  clear hww hb1 hw2 hb02
  go_upto_region 2 with fail
  rw [← HWW.out]
  clear hBX
  have HE2 : Hid (Below w.heap.size w ((w2.setCell ⟨w.heap.size, 0, none⟩ (.pointer ap)).setCell ⟨w.heap.size, 1, none⟩ (.int .i64 x)).drew) := by
    have := HEND.out (.pointer ap) (.int .i64 x)
    exact ⟨this.os, this.tape, this.output, this.size, this.block⟩
  first
    | (go_region_with (fail))
    | fail
  all_goals
    go_wp2
    refine bodyPost_ret (v := .tuple #[.agg #[.pointer ap, .int .i64 x], .bool false]) (by simp [results, Try.results37, go_sem, k1, k2]) rfl ?_
    exact ⟨_, _, rfl, HE2.out⟩

theorem rmat_one {w : World} {v : Value} {d : List Int} (h : RInts w v d) : RMat (w.alloc (.cells #[v] 25)) (.slice (some ⟨w.heap.size, 0, none⟩) 1 1) [d] ∧ Below w.heap.size w (w.alloc (.cells #[v] 25)) := by
  have hal : Below w.heap.size w (w.alloc (.cells #[v] 25)) := (Below.refl _ _).alloc (Nat.le_refl _) _
  have hbx : (w.alloc (.cells #[v] 25)).heap[w.heap.size]? = some (.cells #[v] 25 (0, 0)) := heap_alloc_new _ _
  refine ⟨⟨_, 1, rfl, Nat.le_refl _, by unfold maxLen; omega, fun i hi => ?_⟩, hal⟩
  obtain rfl : i = 0 := by simp at hi; exact hi
  exact ⟨w.heap.size, 0, v, rfl, by rw [cell_of_row _ _ _ _ _ _ hbx]; rfl, h.keep hal⟩
/-- for one pile -/
theorem withPile_yes (n q : Nat) (v u : Value) (L : List Lnk) (d : List Int) (w : World) (h : RLinks w v L) (hm : RMat w u [d]) (hs : piAB (n : Int) L (q : Int) d = true) :
    Calls Try.prog 37 #[.int .i64 n, v, .int .i64 q, u] w (RetT w n L q) := by
  unfold piAB at hs
  simp only [Bool.and_eq_true] at hs
  exact withPiles_yes n q v u L [d] w h hm hs.1 (by simp [hs.2])
theorem withPile_no (n q : Int) (v u : Value) (L : List Lnk) (d : List Int) (w : World) (h : RLinks w v L) (hm : RMat w u [d]) (hs : piAB n L q d = false) :
    Calls Try.prog 37 #[.int .i64 n, v, .int .i64 q, u] w (RetNoT w) := by
  rcases Bool.eq_false_or_eq_true (piGB n L q) with t | t
  · unfold piAB at hs
    rw [t, Bool.true_and] at hs
    obtain ⟨h1, h2, _⟩ := piGB_parts t
    obtain ⟨m, hm'⟩ : ∃ m : Nat, n.toNat = m := ⟨_, rfl⟩
    obtain ⟨k, hk⟩ : ∃ k : Nat, q.toNat = k := ⟨_, rfl⟩
    rw [hm'] at h1
    rw [hk] at h2
    subst h1
    subst h2
    exact withPiles_no2 m k v u L [d] w h hm t (by simp [hs])
  · exact withPiles_no1 n q v u L [d] w h hm t

end Go.Proofs.Ytifdhapaonideaa
