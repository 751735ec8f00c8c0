/- Piles: the program's withRecurrent; OrderOfPile of the program. -/
import Derived.Test.YtifdhapaonideaaPileR4
import Derived.Test.YtifdhapaonideaaPileI5
namespace Go.Proofs.Ytifdhapaonideaa
open Go.RowKit
open Go.Lib (hid)

/-- a region of withRecurrent, the end of each way -/
theorem rb_split {n q : Int} {L : List Lnk} {d : List Int} (h : piRB n L q d = false) : piAB n L q d = false ∨ (piAB n L q d = true ∧ stB n.toNat L q.toNat (fun i => d.getD i 0) = false) ∨ (piAB n L q d = true ∧ stB n.toNat L q.toNat (fun i => d.getD i 0) = true ∧ recB n.toNat L q.toNat (fun i => d.getD i 0) = false) := by
  unfold piRB piSB at h
  cases h1 : piAB n L q d with
  | false => exact .inl rfl
  | true =>
    cases h2 : stB n.toNat L q.toNat (fun i => d.getD i 0) with
    | false => exact .inr (.inl ⟨rfl, rfl⟩)
    | true =>
      rw [h1, h2] at h
      exact .inr (.inr ⟨rfl, rfl, by simpa using h⟩)

set_option maxRecDepth 100000 in
set_option maxHeartbeats 4000000 in
theorem withRecY_c (m k : Nat) (v u : Value) (L : List Lnk) (d : List Int) (w : World) (h : RLinks w v L) (hd : RInts w u d) (hA : piAB (m : Int) L (k : Int) d = true)
    (hs1 : stB m L k (fun i => d.getD i 0) = true) (hs2 : recB m L k (fun i => d.getD i 0) = true) :
    Calls Try.prog 48 #[.int .i64 m, v, .int .i64 k, u] w (RetT w m L k) := by
  obtain ⟨m2, k2, hm2, hk2, -, -, hP, hl, hz, -⟩ := piAB_parts hA
  have e1 : m2 = m := by omega
  have e2 : k2 = k := by omega
  subst e1
  subst e2
  have HR := hid h
  have HD := hid hd
  obtain ⟨a, cap, rfl⟩ := h.form
  obtain ⟨a2, cap2, rfl, _, _, hc⟩ := hd
  have hal : Below w.heap.size w (w.alloc (.cells #[.pointer none, .int .i64 0] 54)) := (Below.refl _ _).alloc (Nat.le_refl _) _
  have HAL := hid hal
  obtain ⟨hm1, hal2⟩ := rmat_one (HD.out.keep hal)
  rw [World.size_alloc] at hm1
  have HM := hid hm1
  have hlow : Below w.heap.size w ((w.alloc (.cells #[.pointer none, .int .i64 0] 54)).alloc (.cells #[.slice a2 d.length cap2] 25)) := hal.trans (hal2.mono (by simp))
  have HLOW := hid hlow
  have HAL2 := hid hal2
  have HDL := hid (rints_lst HD.out hl)
  have HZ := hid hz
  have HA := hid hA
  have HS1 := hid hs1
  have HS2 := hid hs2
  clear hs2
  clear h hc hal hal2 hm1 hlow hm2 hk2 hl hz hA hs1
  go_enter Try.func48, Try.ntmps48
  go_wp2_with fail
  refine (withPile_yes m2 k2 _ _ L d _ (HR.out.keep HLOW.out) HM.out HA.out).mono ?_
  rintro e w1 ⟨g, rfl, hg, hb1, hfar⟩
  obtain ⟨c0, c1, hw2⟩ := tnew w1 (some ⟨g, 0, none⟩) k2
  obtain ⟨w2, hww⟩ : ∃ w2 : World, w2 = (w1.alloc (.cells #[.pointer (some ⟨g, 0, none⟩), .int .i64 k2] 54)) := ⟨_, rfl⟩
  rw [← hww] at hw2 c0 c1
  have HFAR := hid hfar
  have HB1 := hid hb1
  have HW2 := hid hw2
  have HWW := hid hww
  have hb02 := HAL2.out.trans ((hb1.trans (hw2.mono hb1.size)).mono HAL2.out.size)
  have HB02 := hid hb02
  have HRG := hid (show RG w2.drew (.pointer (some ⟨g, 0, none⟩)) m2 L by have := hg.keep hw2; exact this)
  have HDD := hid (show RInts w2.drew (.slice a2 d.length cap2) (lst m2 (fun i => d.getD i 0)) by have := (HDL.out.keep HAL.out).keep hb02; exact this)
  have HC := hid (And.intro c0 c1)
  have hlt1 := cell_lt c0
  obtain ⟨BX, hBX⟩ : ∃ BX, w1.heap.size = BX := ⟨_, rfl⟩
  rw [hBX] at c0 c1 HC hlt1
  have hz01 : ((w.alloc (.cells #[.pointer none, .int .i64 0] 54)).alloc (.cells #[.slice a2 d.length cap2] 25)).heap.size = w.heap.size + 2 := by simp
  have hz1 : w.heap.size + 1 ≤ w1.heap.size := by have := HB1.out.size; omega
  clear hz01
  have hne : BX ≠ w.heap.size := by omega
  have hne' : w.heap.size ≠ BX := fun e => hne e.symm
  clear hww hb1 hw2 hb02 hg hfar
  go_upto_region 2 with fail
  rw [← HWW.out]
  clear hBX
  go_region_held3 (fun w' => w'.cell? ⟨BX, 0, none⟩ = some (.pointer (some ⟨g, 0, none⟩)) ∧ w'.cell? ⟨BX, 1, none⟩ = some (.int .i64 k2))
    (first | go_keep | exact ⟨m0, m1⟩ | exact ⟨n0, n1⟩)
    (first
      | (go_at_call 41; (with_reducible refine (isStable_c m2 k2 g L _ _ _ HRG.out hP.good HDD.out).mono ?_); rintro e w5 ⟨rfl, hb5⟩; rw [HS1.out]; have hb5' : Below w2.heap.size w2 w5 := below_of_drew hb5; have m0 := (hb5'.cell (p := ⟨BX, 0, none⟩) hlt1).trans HC.out.1; have m1 := (hb5'.cell (p := ⟨BX, 1, none⟩) hlt1).trans HC.out.2; have HRG5 := hid (HRG.out.keep hb5); have HDD5 := hid (HDD.out.keep hb5); have HST5 := hid ((stB_iff hP.good).1 HS1.out))
      | (go_at_call 57; (with_reducible refine (isRecurrent_c m2 k2 g _ L _ _ hP HRG5.out HDD5.out (HZ.out.mono (by decide)) HST5.out).mono ?_); rintro e w6 ⟨rfl, hb6⟩; rw [HS2.out]; have hb6' : Below w2.heap.size w2 w6 := hb5'.trans (hb6.mono hb5'.size); have n0 := (hb6'.cell (p := ⟨BX, 0, none⟩) hlt1).trans HC.out.1; have n1 := (hb6'.cell (p := ⟨BX, 1, none⟩) hlt1).trans HC.out.2; obtain ⟨k1, k2', k3, k4⟩ := tbox (w := w) rfl rfl (HB02.out.trans (hb6'.mono HB02.out.size))))
  have hz2 := HW2.out.size
  have hz6 := hb6'.size
  have hk : ∀ b', w.heap.size + 1 ≤ b' → b' < w1.heap.size → ((w6.setCell ⟨w.heap.size, 0, none⟩ (.pointer (some ⟨g, 0, none⟩))).setCell ⟨w.heap.size, 1, none⟩ (.int .i64 k2)).heap[b']? = w1.heap[b']? := fun b' h1 h2 => by
    rw [heap_setCell_other _ _ _ _ (by show b' ≠ w.heap.size; omega), heap_setCell_other _ _ _ _ (by show b' ≠ w.heap.size; omega), hb6'.block b' (by omega), HW2.out.block b' (by omega)]
  have hsz : ((w6.setCell ⟨w.heap.size, 0, none⟩ (.pointer (some ⟨g, 0, none⟩))).setCell ⟨w.heap.size, 1, none⟩ (.int .i64 k2)).heap.size = w6.heap.size := by simp [World.setCell]
  have hz3 : ((w.alloc (.cells #[.pointer none, .int .i64 0] 54)).alloc (.cells #[.slice a2 d.length cap2] 25)).heap.size = w.heap.size + 2 := by simp
  have hfar2 := HFAR.out _ (fun b' h1 h2 _ => hk b' (by omega) h2)
  have hbe := tbox_none (w := w) (o := .cells #[.pointer none, .int .i64 0] 54) rfl (HB02.out.trans (hb6'.mono HB02.out.size)) (.pointer (some ⟨g, 0, none⟩)) (.int .i64 k2)
  have HEND := hid (And.intro hfar2 (And.intro hbe (fun w'' (hs : Same w.heap.size ((w6.setCell ⟨w.heap.size, 0, none⟩ (.pointer (some ⟨g, 0, none⟩))).setCell ⟨w.heap.size, 1, none⟩ (.int .i64 k2)).heap.size ((w6.setCell ⟨w.heap.size, 0, none⟩ (.pointer (some ⟨g, 0, none⟩))).setCell ⟨w.heap.size, 1, none⟩ (.int .i64 k2)) w'') => HFAR.out w'' (fun b' h1 h2 _ => (hs b' (by omega) (by omega) (by omega)).trans (hk b' (by omega) h2)))))
  clear hk hsz hfar2 hbe hz1 hz2 hz3 hz6
  go_wp2
  refine bodyPost_ret (v := .tuple #[.agg #[.pointer (some ⟨g, 0, none⟩), .int .i64 k2], .bool true]) (by simp [results, Try.results48, go_sem, k1, k2']) rfl ?_
  exact ⟨g, rfl, HEND.out⟩
set_option maxRecDepth 100000 in
set_option maxHeartbeats 4000000 in
theorem withRecS_c (m k : Nat) (v u : Value) (L : List Lnk) (d : List Int) (w : World) (h : RLinks w v L) (hd : RInts w u d) (hA : piAB (m : Int) L (k : Int) d = true)
    (hs1 : stB m L k (fun i => d.getD i 0) = false) :
    Calls Try.prog 48 #[.int .i64 m, v, .int .i64 k, u] w (RetNoT w) := by
  obtain ⟨m2, k2, hm2, hk2, -, -, hP, hl, hz, -⟩ := piAB_parts hA
  have e1 : m2 = m := by omega
  have e2 : k2 = k := by omega
  subst e1
  subst e2
  have HR := hid h
  have HD := hid hd
  obtain ⟨a, cap, rfl⟩ := h.form
  obtain ⟨a2, cap2, rfl, _, _, hc⟩ := hd
  have hal : Below w.heap.size w (w.alloc (.cells #[.pointer none, .int .i64 0] 54)) := (Below.refl _ _).alloc (Nat.le_refl _) _
  have HAL := hid hal
  obtain ⟨hm1, hal2⟩ := rmat_one (HD.out.keep hal)
  rw [World.size_alloc] at hm1
  have HM := hid hm1
  have hlow : Below w.heap.size w ((w.alloc (.cells #[.pointer none, .int .i64 0] 54)).alloc (.cells #[.slice a2 d.length cap2] 25)) := hal.trans (hal2.mono (by simp))
  have HLOW := hid hlow
  have HAL2 := hid hal2
  have HDL := hid (rints_lst HD.out hl)
  have HZ := hid hz
  have HA := hid hA
  have HS1 := hid hs1
  clear h hc hal hal2 hm1 hlow hm2 hk2 hl hz hA hs1
  go_enter Try.func48, Try.ntmps48
  go_wp2_with fail
  refine (withPile_yes m2 k2 _ _ L d _ (HR.out.keep HLOW.out) HM.out HA.out).mono ?_
  rintro e w1 ⟨g, rfl, hg, hb1, hfar⟩
  obtain ⟨c0, c1, hw2⟩ := tnew w1 (some ⟨g, 0, none⟩) k2
  obtain ⟨w2, hww⟩ : ∃ w2 : World, w2 = (w1.alloc (.cells #[.pointer (some ⟨g, 0, none⟩), .int .i64 k2] 54)) := ⟨_, rfl⟩
  rw [← hww] at hw2 c0 c1
  have HFAR := hid hfar
  have HB1 := hid hb1
  have HW2 := hid hw2
  have HWW := hid hww
  have hb02 := HAL2.out.trans ((hb1.trans (hw2.mono hb1.size)).mono HAL2.out.size)
  have HB02 := hid hb02
  have HRG := hid (show RG w2.drew (.pointer (some ⟨g, 0, none⟩)) m2 L by have := hg.keep hw2; exact this)
  have HDD := hid (show RInts w2.drew (.slice a2 d.length cap2) (lst m2 (fun i => d.getD i 0)) by have := (HDL.out.keep HAL.out).keep hb02; exact this)
  have HC := hid (And.intro c0 c1)
  have hlt1 := cell_lt c0
  obtain ⟨BX, hBX⟩ : ∃ BX, w1.heap.size = BX := ⟨_, rfl⟩
  rw [hBX] at c0 c1 HC hlt1
  have hz01 : ((w.alloc (.cells #[.pointer none, .int .i64 0] 54)).alloc (.cells #[.slice a2 d.length cap2] 25)).heap.size = w.heap.size + 2 := by simp
  have hz1 : w.heap.size + 1 ≤ w1.heap.size := by have := HB1.out.size; omega
  clear hz01
  have hne : BX ≠ w.heap.size := by omega
  have hne' : w.heap.size ≠ BX := fun e => hne e.symm
  clear hww hb1 hw2 hb02 hg hfar
  go_upto_region 2 with fail
  rw [← HWW.out]
  clear hBX
  first
    | (go_region_with (go_at_call 41; (with_reducible refine (isStable_c m2 k2 g L _ _ _ HRG.out hP.good HDD.out).mono ?_); rintro e w5 ⟨rfl, hb5⟩; rw [HS1.out]; have hb5' : Below w2.heap.size w2 w5 := below_of_drew hb5; obtain ⟨k1, k2', k3, k4⟩ := tbox (w := w) rfl rfl (HB02.out.trans (hb5'.mono HB02.out.size)); have m0 := (hb5'.cell (p := ⟨BX, 0, none⟩) hlt1).trans HC.out.1; have m1 := (hb5'.cell (p := ⟨BX, 1, none⟩) hlt1).trans HC.out.2))
    | fail
  all_goals
    have HEND := hid (tbox_none (w := w) (o := .cells #[.pointer none, .int .i64 0] 54) rfl (HB02.out.trans (hb5'.mono HB02.out.size)) (.pointer (some ⟨g, 0, none⟩)) (.int .i64 k2))
    go_wp2
    refine bodyPost_ret (v := .tuple #[.agg #[.pointer (some ⟨g, 0, none⟩), .int .i64 k2], .bool false]) (by simp [results, Try.results48, go_sem, k1, k2']) rfl ?_
    exact ⟨_, _, rfl, HEND.out⟩
set_option maxRecDepth 100000 in
set_option maxHeartbeats 4000000 in
theorem withRecR_c (m k : Nat) (v u : Value) (L : List Lnk) (d : List Int) (w : World) (h : RLinks w v L) (hd : RInts w u d) (hA : piAB (m : Int) L (k : Int) d = true)
    (hs1 : stB m L k (fun i => d.getD i 0) = true) (hs2 : recB m L k (fun i => d.getD i 0) = false) :
    Calls Try.prog 48 #[.int .i64 m, v, .int .i64 k, u] w (RetNoT w) := by
  obtain ⟨m2, k2, hm2, hk2, -, -, hP, hl, hz, -⟩ := piAB_parts hA
  have e1 : m2 = m := by omega
  have e2 : k2 = k := by omega
  subst e1
  subst e2
  have HR := hid h
  have HD := hid hd
  obtain ⟨a, cap, rfl⟩ := h.form
  obtain ⟨a2, cap2, rfl, _, _, hc⟩ := hd
  have hal : Below w.heap.size w (w.alloc (.cells #[.pointer none, .int .i64 0] 54)) := (Below.refl _ _).alloc (Nat.le_refl _) _
  have HAL := hid hal
  obtain ⟨hm1, hal2⟩ := rmat_one (HD.out.keep hal)
  rw [World.size_alloc] at hm1
  have HM := hid hm1
  have hlow : Below w.heap.size w ((w.alloc (.cells #[.pointer none, .int .i64 0] 54)).alloc (.cells #[.slice a2 d.length cap2] 25)) := hal.trans (hal2.mono (by simp))
  have HLOW := hid hlow
  have HAL2 := hid hal2
  have HDL := hid (rints_lst HD.out hl)
  have HZ := hid hz
  have HA := hid hA
  have HS1 := hid hs1
  have HS2 := hid hs2
  clear hs2
  clear h hc hal hal2 hm1 hlow hm2 hk2 hl hz hA hs1
  go_enter Try.func48, Try.ntmps48
  go_wp2_with fail
  refine (withPile_yes m2 k2 _ _ L d _ (HR.out.keep HLOW.out) HM.out HA.out).mono ?_
  rintro e w1 ⟨g, rfl, hg, hb1, hfar⟩
  obtain ⟨c0, c1, hw2⟩ := tnew w1 (some ⟨g, 0, none⟩) k2
  obtain ⟨w2, hww⟩ : ∃ w2 : World, w2 = (w1.alloc (.cells #[.pointer (some ⟨g, 0, none⟩), .int .i64 k2] 54)) := ⟨_, rfl⟩
  rw [← hww] at hw2 c0 c1
  have HFAR := hid hfar
  have HB1 := hid hb1
  have HW2 := hid hw2
  have HWW := hid hww
  have hb02 := HAL2.out.trans ((hb1.trans (hw2.mono hb1.size)).mono HAL2.out.size)
  have HB02 := hid hb02
  have HRG := hid (show RG w2.drew (.pointer (some ⟨g, 0, none⟩)) m2 L by have := hg.keep hw2; exact this)
  have HDD := hid (show RInts w2.drew (.slice a2 d.length cap2) (lst m2 (fun i => d.getD i 0)) by have := (HDL.out.keep HAL.out).keep hb02; exact this)
  have HC := hid (And.intro c0 c1)
  have hlt1 := cell_lt c0
  obtain ⟨BX, hBX⟩ : ∃ BX, w1.heap.size = BX := ⟨_, rfl⟩
  rw [hBX] at c0 c1 HC hlt1
  have hz01 : ((w.alloc (.cells #[.pointer none, .int .i64 0] 54)).alloc (.cells #[.slice a2 d.length cap2] 25)).heap.size = w.heap.size + 2 := by simp
  have hz1 : w.heap.size + 1 ≤ w1.heap.size := by have := HB1.out.size; omega
  clear hz01
  have hne : BX ≠ w.heap.size := by omega
  have hne' : w.heap.size ≠ BX := fun e => hne e.symm
  clear hww hb1 hw2 hb02 hg hfar
  go_upto_region 2 with fail
  rw [← HWW.out]
  clear hBX
  go_region_held3 (fun w' => w'.cell? ⟨BX, 0, none⟩ = some (.pointer (some ⟨g, 0, none⟩)) ∧ w'.cell? ⟨BX, 1, none⟩ = some (.int .i64 k2))
    (first | go_keep | exact ⟨m0, m1⟩ | exact ⟨n0, n1⟩)
    (first
      | (go_at_call 41; (with_reducible refine (isStable_c m2 k2 g L _ _ _ HRG.out hP.good HDD.out).mono ?_); rintro e w5 ⟨rfl, hb5⟩; rw [HS1.out]; have hb5' : Below w2.heap.size w2 w5 := below_of_drew hb5; have m0 := (hb5'.cell (p := ⟨BX, 0, none⟩) hlt1).trans HC.out.1; have m1 := (hb5'.cell (p := ⟨BX, 1, none⟩) hlt1).trans HC.out.2; have HRG5 := hid (HRG.out.keep hb5); have HDD5 := hid (HDD.out.keep hb5); have HST5 := hid ((stB_iff hP.good).1 HS1.out))
      | (go_at_call 57; (with_reducible refine (isRecurrent_c m2 k2 g _ L _ _ hP HRG5.out HDD5.out (HZ.out.mono (by decide)) HST5.out).mono ?_); rintro e w6 ⟨rfl, hb6⟩; rw [HS2.out]; have hb6' : Below w2.heap.size w2 w6 := hb5'.trans (hb6.mono hb5'.size); have n0 := (hb6'.cell (p := ⟨BX, 0, none⟩) hlt1).trans HC.out.1; have n1 := (hb6'.cell (p := ⟨BX, 1, none⟩) hlt1).trans HC.out.2; obtain ⟨k1, k2', k3, k4⟩ := tbox (w := w) rfl rfl (HB02.out.trans (hb6'.mono HB02.out.size))))
  have HEND := hid (tbox_none (w := w) (o := .cells #[.pointer none, .int .i64 0] 54) rfl (HB02.out.trans (hb6'.mono HB02.out.size)) (.pointer (some ⟨g, 0, none⟩)) (.int .i64 k2))
  go_wp2
  refine bodyPost_ret (v := .tuple #[.agg #[.pointer (some ⟨g, 0, none⟩), .int .i64 k2], .bool false]) (by simp [results, Try.results48, go_sem, k1, k2']) rfl ?_
  exact ⟨_, _, rfl, HEND.out⟩

end Go.Proofs.Ytifdhapaonideaa
