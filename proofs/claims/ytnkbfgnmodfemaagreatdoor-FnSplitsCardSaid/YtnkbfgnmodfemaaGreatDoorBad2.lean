/- The first four points that break the condition, found by choices; tree metrics. -/
import Derived.Test.YtnkbfgnmodfemaaGreatDoorBad
namespace Go.Proofs.YtnkbfgnmodfemaaGreatDoor
open Go.RowKit
open Go.Lib (hid)

/-- the visitor's box, block wp.heap.size, holds what was found; the rest below it is as it was -/
def VBad (wp : World) (s : Option (List Int)) (w : World) (D : Nat → Prop) : Prop :=
  Below wp.heap.size wp w ∧ wp.heap.size + 1 ≤ w.heap.size ∧ ∃ lv, Boxed w wp.heap.size 27 lv ∧ (∀ b, D b ↔ b = wp.heap.size ∨ lv.ownBlock = some b) ∧ FInts w (wp.heap.size + 1) w.heap.size lv (getL s)
theorem VBad.frame {wp : World} {s : Option (List Int)} {w w' : World} {D : Nat → Prop} (h : VBad wp s w D) (hk : KeepOn (fun b => b < wp.heap.size + 1 ∨ D b) w w') : VBad wp s w' D := by
  obtain ⟨h1, h2, lv, h3, h4, h5⟩ := h
  refine ⟨h1.trans (hk.below (fun b hb => .inl (by omega)) (by omega)), Nat.le_trans h2 hk.size, lv, (hk.block _ h3.lt (.inl (by omega))).trans h3, h4, fints_new (hi := w.heap.size) ⟨own_same h5.1 (fun g hg => hk.block g (h5.1.lt g hg).2 (.inr ((h4 g).2 (.inr hg)))), h5.2⟩⟩
def nxtB (g : Bool) (s : Option (List Int)) (xs : List Int) : Option (List Int) := if g then s else some xs
theorem preC_four {n : Nat} {xs : List Int} (h : preC n 4 xs) : ∃ i j k l : Nat, xs = [(i : Int), (j : Int), (k : Int), (l : Int)] ∧ i < n ∧ j < n ∧ k < n ∧ l < n := by
  obtain ⟨h1, h2, h3⟩ := h
  match xs, h1 with
  | [a, b, c, d], _ =>
    simp at h2
    exact ⟨a.toNat, b.toNat, c.toNat, d.toNat, by rw [Int.toNat_of_nonneg h2.1.1, Int.toNat_of_nonneg h2.2.1.1, Int.toNat_of_nonneg h2.2.2.1.1, Int.toNat_of_nonneg h2.2.2.2.1], by omega, by omega, by omega, by omega⟩

set_option maxRecDepth 100000 in
set_option maxHeartbeats 2000000 in
theorem iBadF_c (M : List (List Int)) (mv : Value) (bm : Nat) (wp w : World) (D : Nat → Prop) (s : Option (List Int)) (hm : metB M = true) (h : RMat wp mv M) (hbm : wp.cell? ⟨bm, 0, none⟩ = some mv) (hV : VBad wp s w D) (v : Value) (i j k l : Nat)
    (hl : RInts w v [(i : Int), (j : Int), (k : Int), (l : Int)]) (hi : i < M.length) (hj : j < M.length) (hk : k < M.length) (hll : l < M.length) :
    Calls Tryz.prog 78 (#[v] ++ #[.pointer (some ⟨bm, 0, none⟩), .pointer (some ⟨wp.heap.size, 0, none⟩)]) w (RetV (VBad wp) D w (goodF M i j k l) (nxtB (goodF M i j k l) s [(i : Int), (j : Int), (k : Int), (l : Int)])) := by
  show Calls Tryz.prog 78 #[v, .pointer (some ⟨bm, 0, none⟩), .pointer (some ⟨wp.heap.size, 0, none⟩)] w _
  have HV := hid hV
  obtain ⟨hb, hsz, lv, hbx, hDD, hF0⟩ := hV
  have HB0 := hid hb
  have HDD := hid hDD
  have HBX := hid hbx
  have HL := hid hl
  have hmat := h.keep hb
  have e0 := (hb.cell (p := ⟨bm, 0, none⟩) (cell_lt hbm)).trans hbm
  obtain ⟨wq, hwq⟩ : ∃ wq : World, wq = w.drew := ⟨_, rfl⟩
  have HMAT : Hid (RMat wq mv M) := by show RMat wq mv M; rw [hwq]; exact hmat.drewN (n := 1)
  obtain ⟨ad, lcap, rfl, l1, l2, hc⟩ := hl
  obtain ⟨gl, ol, rfl, d0⟩ := hc 0 (by simp)
  obtain ⟨g1, o1, he, d1⟩ := hc 1 (by simp)
  simp only [Option.some.injEq, Addr.mk.injEq, and_true] at he
  obtain ⟨rfl, rfl⟩ := he
  obtain ⟨g1, o1, he, d2⟩ := hc 2 (by simp)
  simp only [Option.some.injEq, Addr.mk.injEq, and_true] at he
  obtain ⟨rfl, rfl⟩ := he
  obtain ⟨g1, o1, he, d3⟩ := hc 3 (by simp)
  simp only [Option.some.injEq, Addr.mk.injEq, and_true] at he
  obtain ⟨rfl, rfl⟩ := he
  clear hc
  have d0 : wq.cell? ⟨gl, ol, none⟩ = some (.int .i64 (i : Int)) := by rw [hwq]; exact d0
  have d1 : wq.cell? ⟨gl, ol + 1, none⟩ = some (.int .i64 (j : Int)) := by rw [hwq]; exact d1
  have d2 : wq.cell? ⟨gl, ol + 2, none⟩ = some (.int .i64 (k : Int)) := by rw [hwq]; exact d2
  have d3 : wq.cell? ⟨gl, ol + 3, none⟩ = some (.int .i64 (l : Int)) := by rw [hwq]; exact d3
  have e0 : wq.cell? ⟨bm, 0, none⟩ = some mv := by rw [hwq]; exact e0
  obtain ⟨am, cm, hmv, _⟩ := h
  subst hmv
  unfold maxLen at l2
  simp only [List.length_cons, List.length_nil, Nat.reduceAdd] at l1 HL ⊢
  have HBQ : Hid (Below w.heap.size w wq) := by show Below _ _ _; rw [hwq]; exact (Below.refl _ _).drew
  have HWQ := hid hwq
  have HSZ := hid hsz
  clear hwq hb hDD hbx hF0 hbm hmat hsz
  have hget : getL (some [(i : Int), (j : Int), (k : Int), (l : Int)]) = [(i : Int), (j : Int), (k : Int), (l : Int)] := rfl
  have HGET := hid hget
  clear hget
  go_enter Tryz.func78, Tryz.ntmps78
  go_wp2
  refine wp_region_still_tail 13 (by kernel_rfl) (by kernel_rfl) ?_
  change wpStill _ _ w.drew _ _ _
  rw [← HWQ.out]
  simp only [List.take_succ_cons, List.take_zero, List.drop_succ_cons, List.drop_zero]
  repeat still_step
  refine wpStill_nil ?_
  change wpList _ _ _ _ _ w.drew
  rw [← HWQ.out]
  clear d0 d1 d2 d3 e0
  go_wp2_with fail
  refine (fourSums_c _ M _ hm HMAT.out i j k l hi hj hk hll).mono ?_
  rintro e w1 ⟨u, rfl, hF, hb1⟩
  have HB1 := hid (HBQ.out.trans (hb1.mono HBQ.out.size))
  have hu := hF.r
  clear hF hb1
  go_wp2_with fail
  refine (reachesTwice_c _ (sumA M i j k l) (sumA M i k j l) (sumA M i l j k) _ hu).mono ?_
  rintro e w2 ⟨rfl, hb2⟩
  have HB2 := hid (HB1.out.trans (hb2.mono HB1.out.size))
  clear hu hb2
  have HG : Hid (tw3 (sumA M i j k l) (sumA M i k j l) (sumA M i l j k) = goodF M i j k l) := rfl
  rw [HG.out]
  rcases Bool.eq_false_or_eq_true (goodF M i j k l) with t | t
  · rw [t]
    go_wp2
    go_ret
    exact ⟨D, by rw [t]; rfl, by rw [t]; exact HV.out.frame (KeepOn.of_below HB2.out), fun c hc => ⟨by
      rcases (HDD.out c).1 hc with h1 | h1
      · have := HSZ.out; have := HB2.out.size; omega
      · obtain ⟨_, _, lv', hb', hd', hf'⟩ := HV.out
        have : lv' = lv := by have := hb'.cell.symm.trans HBX.out.cell; simpa using this
        subst this
        have := (hf'.1.lt c h1).2; have := HB2.out.size; omega, .inl hc⟩, KeepOn.of_below HB2.out⟩
  · rw [t]
    go_wp2_with fail
    refine (clone_c _ [(i : Int), (j : Int), (k : Int), (l : Int)] _ (HL.out.keep HB2.out) (by simp)).mono ?_
    rintro e w3 ⟨u3, rfl, hF3, hb3⟩
    have hB3 := HB2.out.trans (hb3.mono HB2.out.size)
    have hbx3 : Boxed w3 wp.heap.size 27 lv := (hB3.block _ HBX.out.lt).trans HBX.out
    have e5 := hbx3.cell
    have f5 := hbx3.frozen
    obtain ⟨g3, c3, rfl⟩ := fints_pos hF3 (by simp)
    have hg3 : w.heap.size ≤ g3 ∧ g3 < w3.heap.size := by have := hF3.1.lt g3 rfl; have := HB2.out.size; omega
    have hVn : VBad wp (some [(i : Int), (j : Int), (k : Int), (l : Int)]) (w3.setCell ⟨wp.heap.size, 0, none⟩ (.slice (some ⟨g3, 0, none⟩) [(i : Int), (j : Int), (k : Int), (l : Int)].length c3)) (fun b => b = wp.heap.size ∨ b = g3) := by
      have hss : (w3.setCell ⟨wp.heap.size, 0, none⟩ (.slice (some ⟨g3, 0, none⟩) [(i : Int), (j : Int), (k : Int), (l : Int)].length c3)).heap.size = w3.heap.size := by simp [World.setCell]
      have hsz := HSZ.out
      have hB := HB0.out.trans (hB3.mono (by omega))
      refine ⟨hB.setCell (Nat.le_refl _) _, by rw [hss]; omega, _, hbx3.set _, fun b => ?_, ?_⟩
      · simp only [Value.ownBlock, Option.some.injEq]
        constructor
        · rintro (h1 | h1)
          · exact .inl h1
          · exact .inr h1.symm
        · rintro (h1 | h1)
          · exact .inl h1
          · exact .inr h1.symm
      · rw [HGET.out]
        refine fints_new (hi := w3.heap.size) ⟨own_mono (own_same hF3.1 (fun g hg => heap_setCell_other _ _ _ _ ?_)) (by have := HB2.out.size; omega), hF3.2⟩
        have := (hF3.1.lt g hg).1
        have := HB2.out.size
        show g ≠ wp.heap.size
        omega
    have hKn : KeepOn (fun c => ¬ D c) w (w3.setCell ⟨wp.heap.size, 0, none⟩ (.slice (some ⟨g3, 0, none⟩) [(i : Int), (j : Int), (k : Int), (l : Int)].length c3)) :=
      (KeepOn.of_below hB3).trans (KeepOn.set _ _ _ (fun hn => hn ((HDD.out _).2 (.inl rfl))))
    have hDn : ∀ c, (c = wp.heap.size ∨ c = g3) → c < (w3.setCell ⟨wp.heap.size, 0, none⟩ (.slice (some ⟨g3, 0, none⟩) [(i : Int), (j : Int), (k : Int), (l : Int)].length c3)).heap.size ∧ (D c ∨ w.heap.size ≤ c) := by
      intro c hc
      have hss : (w3.setCell ⟨wp.heap.size, 0, none⟩ (.slice (some ⟨g3, 0, none⟩) [(i : Int), (j : Int), (k : Int), (l : Int)].length c3)).heap.size = w3.heap.size := by simp [World.setCell]
      rw [hss]
      rcases hc with h1 | h1
      · exact ⟨by rw [h1]; exact hbx3.lt, .inl ((HDD.out c).2 (.inl h1))⟩
      · exact ⟨by omega, .inr (by omega)⟩
    have HVN := hid hVn
    have HKN := hid hKn
    have HDN := hid hDn
    clear hVn hKn hDn hF3 hb3 hB3 hbx3 hg3
    go_wp2
    go_ret
    exact ⟨_, by rw [t]; rfl, by rw [t]; exact HVN.out, HDN.out, HKN.out⟩

theorem iBad_vis (M : List (List Int)) (mv : Value) (bm : Nat) (wp : World) (hm : metB M = true) (h : RMat wp mv M) (hbm : wp.cell? ⟨bm, 0, none⟩ = some mv) :
    Vis (Option (List Int)) (wp.heap.size + 1) 78 #[.pointer (some ⟨bm, 0, none⟩), .pointer (some ⟨wp.heap.size, 0, none⟩)] (okB M) (stepB M) (VBad wp) (preC M.length 4) where
  enter := Tryz.call78
  frame := fun s w w' D hv hk => hv.frame hk
  call := fun s w D v xs hv hl hp hw => by
    obtain ⟨i, j, k, l, rfl, h1, h2, h3, h4⟩ := preC_four hp
    have := iBadF_c M mv bm wp w D s hm h hbm hv v i j k l hl h1 h2 h3 h4
    simpa [okB, stepB, nxtB] using this

def retB (o : Option (List Int)) : List Int × Bool := (getL o, o.isSome)
/-- a list and whether there is one, the list in new memory -/
def RetIntsB2 (w : World) (p : List Int × Bool) (e : Ending) (w' : World) : Prop := ∃ v, e = .returned (.tuple #[v, .bool p.2]) ∧ FInts w' w.heap.size w'.heap.size v p.1 ∧ Below w.heap.size w w'

set_option maxHeartbeats 2000000 in
theorem badFour_c (v : Value) (M : List (List Int)) (w : World) (hm : metB M = true) (h : RMat w v M) :
    Calls Tryz.prog 56 #[v] w (RetIntsB2 w (retB (badF M))) := by
  have hp := metB_parts hm
  have hn7 := hp.2.1
  have HR := hid h
  obtain ⟨a, cap, rfl, q1, q2, hc⟩ := h
  clear hc
  obtain ⟨wp, hwp⟩ : ∃ wp : World, wp = w.alloc (.cells #[.slice a M.length cap] 23) := ⟨_, rfl⟩
  have hb0 : Below w.heap.size w wp := by rw [hwp]; exact (Below.refl _ _).alloc (Nat.le_refl _) _
  have hc0 : wp.cell? ⟨w.heap.size, 0, none⟩ = some (.slice a M.length cap) := by rw [hwp]; exact cell_new w _ _
  have hps : wp.heap.size = w.heap.size + 1 := by rw [hwp]; simp
  have hs1 : (wp.alloc (.cells #[.slice none 0 0] 27)).heap.size = wp.heap.size + 1 := by simp
  have hv0 := iBad_vis M (.slice a M.length cap) w.heap.size wp hm (HR.out.keep hb0) hc0
  rw [← hs1] at hv0
  have HV0 := hid hv0
  clear hv0
  have HVI : Hid (VBad wp none (wp.alloc (.cells #[.slice none 0 0] 27)) (fun b => b = wp.heap.size)) := by
    refine ⟨(Below.refl _ _).alloc (Nat.le_refl _) _, by simp, .slice none 0 0, Boxed.new wp _ _, fun b => by simp [Value.ownBlock], ints_nil _ _ _⟩
  have HB0 := hid hb0
  have HPS := hid hps
  have HS1 := hid hs1
  have HWP := hid hwp
  have HN := hid (nextR_bad M)
  clear hp hb0 hc0 hps hs1 hwp
  go_enter Tryz.func56, Tryz.ntmps56
  go_wp2_with fail
  have hcall := choices_c M.length 4 (by omega) (by omega) none (fun b => b = wp.heap.size) (wp.alloc (.cells #[.slice none 0 0] 27)) HV0.out (fun xs h1 h2 h3 => ⟨h1, h2, h3⟩) HVI.out (fun b hb => by rw [HS1.out, hb]; omega)
  rw [HN.out, HPS.out, HWP.out] at hcall
  refine hcall.mono ?_
  clear hcall
  rintro e w1 ⟨D1, rfl, ⟨k1, k2, lv, k3, k4, k5⟩, hD1, hk1⟩
  have e1 : w1.cell? ⟨w.heap.size + 1, 0, none⟩ = some lv := by have := k3.cell; simpa using this
  have HB1 := hid (show Below w.heap.size w w1 from HB0.out.trans (by rw [HWP.out]; exact k1.mono (by simp)))
  have HF1 := hid (show FInts w1 w.heap.size w1.heap.size lv (getL (badF M)) from k5.mono (by simp; omega) (Nat.le_refl _))
  have HQ : Hid ((!(badF M).isNone) = (badF M).isSome) := by show _ = _; cases badF M <;> rfl
  obtain ⟨al, nl, cl, rfl⟩ := k5.form3
  clear k1 k2 k3 k4 k5 hD1 hk1
  go_wp2
  go_ret2
  exact ⟨_, by rw [retB, ← HQ.out]; rfl, HF1.out, HB1.out⟩

def treeB (M : List (List Int)) : Bool := metB M && (badF M).isNone
def isTreeB (M : List (List Int)) : Bool × Bool := if metB M then ((badF M).isNone, true) else (false, false)
theorem isTreeB_yes {M : List (List Int)} (h : metB M = true) : isTreeB M = ((badF M).isNone, true) := by rw [isTreeB, h]; rfl
theorem isTreeB_no {M : List (List Int)} (h : metB M = false) : isTreeB M = (false, false) := by rw [isTreeB, h]; rfl
def firstBadB (M : List (List Int)) : List Int × Bool := if metB M then retB (badF M) else ([], false)
theorem firstBadB_yes {M : List (List Int)} (h : metB M = true) : firstBadB M = retB (badF M) := by rw [firstBadB, h]; rfl
theorem firstBadB_no {M : List (List Int)} (h : metB M = false) : firstBadB M = ([], false) := by rw [firstBadB, h]; rfl
theorem firstBadB_len (M : List (List Int)) : (firstBadB M).1.length ≤ 4 := by
  rcases Bool.eq_false_or_eq_true (metB M) with h | h
  · rw [firstBadB_yes h]
    cases hb : badF M with
    | none => simp [retB, getL]
    | some r => have := badF_len hb; simp [retB, getL]; omega
  · rw [firstBadB_no h]; simp
theorem getL_zero (M : List (List Int)) : (((getL (badF M)).length : Int) == 0) = (badF M).isNone := by
  cases hb : badF M with
  | none => rfl
  | some r => have := badF_len hb; simp [getL]; intro h; rw [h] at this; simp at this

set_option maxHeartbeats 1000000 in
theorem isTreeMetric_c (v : Value) (M : List (List Int)) (w : World) (h : RMat w v M) :
    Calls Tryz.prog 26 #[v] w fun e w' => e = .returned (.bool (treeB M)) ∧ Below w.heap.size w w' := by
  rcases Bool.eq_false_or_eq_true (metB M) with t | t
  · have HQ : Hid ((!(badF M).isSome) = treeB M) := by show _ = _; rw [treeB, t]; cases badF M <;> rfl
    go_enter Tryz.func26, Tryz.ntmps26
    go_wp2_with fail
    refine (isMetric_c _ M _ h).mono ?_
    rintro e w1 ⟨rfl, hb1⟩
    rw [t]
    have h1 := h.keep hb1
    have HB1 := hid hb1
    clear hb1
    go_wp2_with fail
    refine (badFour_c _ M _ t h1).mono ?_
    rintro e w2 ⟨u, rfl, hF, hb2⟩
    have HB2 := hid (HB1.out.trans (hb2.mono HB1.out.size))
    clear hF hb2
    go_wp2
    go_ret
    exact ⟨ret_bool (by rw [← HQ.out]; rfl), HB2.out⟩
  · go_enter Tryz.func26, Tryz.ntmps26
    go_wp2_with fail
    refine (isMetric_c _ M _ h).mono ?_
    rintro e w1 ⟨rfl, hb1⟩
    rw [t]
    go_wp2
    go_ret
    exact ⟨ret_bool (by rw [treeB, t]; rfl), hb1⟩


end Go.Proofs.YtnkbfgnmodfemaaGreatDoor
