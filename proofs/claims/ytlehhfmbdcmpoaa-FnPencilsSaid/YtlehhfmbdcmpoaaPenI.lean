/- Pencils: the program. -/
import Derived.Test.YtlehhfmbdcmpoaaPenS
namespace Go.Proofs.Ytlehhfmbdcmpoaa
open Go.RowKit
open Go.Lib (hid)

/-- the first that is good is kept -/
noncomputable def stepP (n : Nat) (L : List Lnk) (s : Option (List Int)) (e : List Int) : Option (List Int) := if (brkO n L (ofL e) 1).isNone then some e else s
noncomputable def okP (n : Nat) (L : List Lnk) (s : Option (List Int)) (e : List Int) : Bool := (stepP n L s e).isNone
theorem vis_findg (p : List Int → Bool) (l : List (List Int)) : visL (fun (s : Option (List Int)) e => (if p e then some e else s).isNone) (fun s e => if p e then some e else s) l none = ((l.find? p).isNone, l.find? p) := by
  induction l with
  | nil => rfl
  | cons x xs ih =>
    cases h : p x with
    | true => simp [visL, h]
    | false => simp [visL, h, ih]
theorem vis_pen (n : Nat) (L : List Lnk) (k : Nat) : visL (okP n L) (stepP n L) (allL (n - 1) k) none = ((penO n L k).isNone, penO n L k) :=
  vis_findg (fun e => (brkO n L (ofL e) 1).isNone) (allL (n - 1) k)
/-- the box is nil till one is found -/
def VPen (wp : World) (s : Option (List Int)) (w : World) (D : Nat → Prop) : Prop :=
  VFnd wp s w D ∧ (s = none → w.cell? ⟨wp.heap.size, 0, none⟩ = some (.slice none 0 0)) ∧ ∀ x, s = some x → 0 < x.length
theorem VPen.frame {wp : World} {s : Option (List Int)} {w w' : World} {D : Nat → Prop} (h : VPen wp s w D) (hk : KeepOn (fun b => b < wp.heap.size + 1 ∨ D b) w w') : VPen wp s w' D := by
  refine ⟨h.1.frame hk, fun hs => ?_, h.2.2⟩
  have h1 := h.2.1 hs
  have hb := hk.block wp.heap.size (cell_lt h1) (.inl (by omega))
  rw [← h1]
  unfold World.cell?
  dsimp only
  rw [hb]
theorem VPen.nil {wp : World} {s : Option (List Int)} {w : World} {D : Nat → Prop} (h : VPen wp s w D) : ∃ a m c, w.cell? ⟨wp.heap.size, 0, none⟩ = some (.slice a m c) ∧ a.isNone = s.isNone := by
  cases s with
  | none => exact ⟨none, 0, 0, h.2.1 rfl, rfl⟩
  | some x =>
    obtain ⟨⟨_, _, lv, hb, _, hF⟩, _, h3⟩ := h
    obtain ⟨g, c, rfl⟩ := fints_pos hF (h3 x rfl)
    exact ⟨_, _, _, hb.cell, rfl⟩

set_option maxRecDepth 100000 in
set_option maxHeartbeats 2000000 in
theorem penF_c (n k : Nat) (pv : Value) (L : List Lnk) (hG : GoodL n L) (hc : (grL n L hG).Conn 0) (hk : k ≤ 8) (b : Nat) (wp w : World) (D : Nat → Prop) (s : Option (List Int)) (hbp : Boxed wp b 81 pv) (hp : RG wp pv n L)
    (hV : VPen wp s w D) (v : Value) (e : List Int) (hl : RInts w v e) (he : e ∈ allL (n - 1) k) :
    Calls Try.prog 201 (#[v] ++ #[.pointer (some ⟨b, 0, none⟩), .pointer (some ⟨wp.heap.size, 0, none⟩)]) w (RetV (VPen wp) D w (okP n L s e) (stepP n L s e)) := by
  show Calls Try.prog 201 #[v, .pointer (some ⟨b, 0, none⟩), .pointer (some ⟨wp.heap.size, 0, none⟩)] w _
  have hn1 := hG.n1
  have hn8 := hG.n8
  have HV := hid hV
  have hlen : e.length = n := by have := (allL_mem _ _ e he).1; omega
  have hs8 : small8 n (ofL e) := by have := eff_small hk he; rwa [show n - 1 + 1 = n by omega] at this
  have hsum : sumN n (ofL e) ≤ 8 := by rw [show sumN n (ofL e) = e.sum from sum_getD hlen, allL_sum _ _ e he]; omega
  have hro := rank_one hG hc hk he
  obtain ⟨⟨hb, hsz, lv, hbx, hDD, hF0⟩, hnn, hlp⟩ := hV
  have HB0 := hid hb
  have HDD := hid hDD
  have HBX := hid hbx
  have HSZ := hid hsz
  have HP := hid (hp.keep hb)
  have HL := hid hl
  have HRL : Hid (RInts w v (lst n (ofL e))) := rints_lst hl hlen
  have HS := hid (And.intro hs8 hsum)
  have HEL := hid hlen
  have e0 := (hb.cell (p := ⟨b, 0, none⟩) (cell_lt hbp.cell)).trans hbp.cell
  obtain ⟨gp, rfl⟩ := hp.form
  obtain ⟨ae, ce, rfl, _, _, _⟩ := hl
  obtain ⟨Z, hZ⟩ : ∃ Z, rkZ n L (ofL e) = Z := ⟨_, rfl⟩
  rw [hZ] at hro
  have HZ := hid hZ
  have hst : stepP n L s e = if 1 ≤ Z then some e else s := by
    unfold stepP
    rw [← hro]
    by_cases h : 1 ≤ Z
    · rw [if_pos (by simpa using h), if_pos h]
    · rw [if_neg (by simpa using h), if_neg h]
  obtain ⟨st, hse⟩ : ∃ st, stepP n L s e = st := ⟨_, rfl⟩
  have hok : okP n L s e = st.isNone := by unfold okP; rw [hse]
  rw [hok, hse]
  rw [hse] at hst
  have HST := hid hst
  obtain ⟨ne, hne⟩ : ∃ ne, e.length = ne := ⟨_, rfl⟩
  rw [hne] at HL HRL ⊢
  clear hb hDD hbx hF0 hbp hsz hp he hne hnn hlp hlen hs8 hsum hro hZ hst hok hse
  go_enter Try.func201, Try.ntmps201
  go_wp2_with fail
  refine (rank_c n _ _ L (ofL e) _ HP.out hG hc HRL.out HS.out.1 HS.out.2).mono ?_
  rintro e1 w1 ⟨rfl, hb1⟩
  rw [HZ.out]
  have HB1 := hid hb1
  have HV1 := hid (HV.out.frame (KeepOn.of_below hb1))
  clear hb1 e0
  by_cases hz : 1 ≤ Z
  · have HS2 : Hid (st = some e) := by show _ = _; rw [HST.out, if_pos hz]
    have hel : 0 < e.length := by rw [HEL.out]; omega
    have hel2 : e.length ≤ 1048576 := by rw [HEL.out]; omega
    go_wp2_with fail
    refine (clone_c _ e _ (HL.out.keep HB1.out) hel2).mono ?_
    rintro e7 w3 ⟨u3, rfl, hF3, hb3⟩
    have hB3 := HB1.out.trans (hb3.mono HB1.out.size)
    have hbx3 : Boxed w3 wp.heap.size 23 lv := (hB3.block _ HBX.out.lt).trans HBX.out
    have f5 := hbx3.frozen
    have e5 := hbx3.cell
    obtain ⟨g3, c3, rfl⟩ := fints_pos hF3 hel
    have hg3 : w.heap.size ≤ g3 ∧ g3 < w3.heap.size := by have := hF3.1.lt g3 rfl; have := HB1.out.size; omega
    obtain ⟨ln, hln⟩ : ∃ ln, e.length = ln := ⟨_, rfl⟩
    rw [hln] at hF3
    obtain ⟨W, hW⟩ : ∃ W, w3.setCell ⟨wp.heap.size, 0, none⟩ (.slice (some ⟨g3, 0, none⟩) ln c3) = W := ⟨_, rfl⟩
    have hss : W.heap.size = w3.heap.size := by rw [← hW]; simp [World.setCell]
    have hbx4 : Boxed W wp.heap.size 23 (.slice (some ⟨g3, 0, none⟩) ln c3) := by rw [← hW]; exact hbx3.set _
    have hVn : VFnd wp (some e) W (fun b => b = wp.heap.size ∨ b = g3) := by
      have hsz := HSZ.out
      have hB := HB0.out.trans (hB3.mono (by omega))
      refine ⟨by rw [← hW]; exact hB.setCell (Nat.le_refl _) _, by omega, _, hbx4, fun b => ?_, ?_⟩
      · simp only [Value.ownBlock, Option.some.injEq]
        constructor
        · rintro (h1 | h1)
          · exact .inl h1
          · exact .inr h1.symm
        · rintro (h1 | h1)
          · exact .inl h1
          · exact .inr h1.symm
      · show FInts _ _ _ _ e
        rw [← hW]
        refine fints_new (hi := w3.heap.size) ⟨own_mono (own_same hF3.1 (fun g hg => heap_setCell_other _ _ _ _ ?_)) (by have := HB1.out.size; omega), hF3.2⟩
        have := (hF3.1.lt g hg).1
        have := HB1.out.size
        show g ≠ wp.heap.size
        omega
    have hKn : KeepOn (fun c => ¬ D c) w W := by
      rw [← hW]
      exact (KeepOn.of_below hB3).trans (KeepOn.set _ _ _ (fun hn => hn ((HDD.out _).2 (.inl rfl))))
    have hDn : ∀ c, (c = wp.heap.size ∨ c = g3) → c < W.heap.size ∧ (D c ∨ w.heap.size ≤ c) := by
      intro c hc
      rw [hss]
      rcases hc with h1 | h1
      · exact ⟨by rw [h1]; exact hbx3.lt, .inl ((HDD.out c).2 (.inl h1))⟩
      · exact ⟨by omega, .inr (by omega)⟩
    have HVN : Hid (VPen wp (some e) W (fun b => b = wp.heap.size ∨ b = g3)) := ⟨hVn, (fun h => by cases h), (fun x hx => by cases hx; exact hel)⟩
    have HKN := hid hKn
    have HDN := hid hDn
    have e6 := hbx4.cell
    have hnil := fun w => Lib.run_eql_slice_nil (P := Try.prog) w 23 3 (some ⟨g3, 0, none⟩) ln c3 0 0 Try.underlying23
    rw [hln]
    clear hVn hKn hDn hF3 hb3 hB3 hbx3 hg3 hln hel hel2 hbx4 hss
    go_wp2
    go_ret
    exact ⟨_, by rw [HS2.out]; rfl, by rw [HS2.out]; exact HVN.out, HDN.out, HKN.out⟩
  · have HS2 : Hid (st = s) := by show _ = _; rw [HST.out, if_neg hz]
    obtain ⟨an, mn, cn, e6, hsn⟩ := HV1.out.nil
    have hnil := fun w => Lib.run_eql_slice_nil (P := Try.prog) w 23 3 an mn cn 0 0 Try.underlying23
    go_wp2
    go_ret
    exact ⟨D, by rw [HS2.out]; rfl, by rw [HS2.out]; exact HV1.out, fun c hc => ⟨by
      rcases (HDD.out c).1 hc with h1 | h1
      · have := HSZ.out; have := HB1.out.size; omega
      · obtain ⟨⟨_, _, lv', hb', hd', hf'⟩, _⟩ := HV.out
        have : lv' = lv := by have := hb'.cell.symm.trans HBX.out.cell; simpa using this
        subst this
        have := (hf'.1.lt c h1).2; have := HB1.out.size; omega, .inl hc⟩, KeepOn.of_below HB1.out⟩

theorem penF_vis (n k : Nat) (pv : Value) (L : List Lnk) (hG : GoodL n L) (hc : (grL n L hG).Conn 0) (hk : k ≤ 8) (b : Nat) (wp : World) (hbp : Boxed wp b 81 pv) (hp : RG wp pv n L) (h : Nat) (hh : wp.heap.size + 1 ≤ h) :
    Vis (Option (List Int)) h 201 #[.pointer (some ⟨b, 0, none⟩), .pointer (some ⟨wp.heap.size, 0, none⟩)] (okP n L) (stepP n L) (VPen wp) (fun e => e ∈ allL (n - 1) k) where
  enter := Try.call201
  frame := fun _ _ _ _ hv hk => hv.frame (hk.mono (fun _ _ hb => by rcases hb with hb | hb; exact .inl (by omega); exact .inr hb))
  call := fun s w D v xs hv hl hpe _ => penF_c n k pv L hG hc hk b wp w D s hbp hp hv v xs hl hpe

theorem pen_zero {n : Nat} {L : List Lnk} (hG : GoodL n L) (hc : (grL n L hG).Conn 0) : penO n L 0 = none := by
  have hn1 := hG.n1
  unfold penO
  rw [List.find?_eq_none]
  intro e he hw
  have hl : e.length = n := by have := (allL_mem _ _ e he).1; omega
  have hs : small8 n (ofL e) := by have := eff_small (show 0 ≤ 8 by decide) he; rwa [show n - 1 + 1 = n by omega] at this
  have hb := brk_end hG hc hs (show 1 ≤ 15 by decide) (by rw [show sumN n (ofL e) = e.sum from sum_getD hl, allL_sum _ _ e he]; decide)
  cases h : brkO n L (ofL e) 1 with
  | none => rw [h] at hb; cases hb
  | some x => rw [h] at hw; cases hw

set_option maxRecDepth 100000 in
set_option maxHeartbeats 2000000 in
theorem pencil_c (n : Nat) (p : Value) (L : List Lnk) (w : World) (h : RG w p n L) (hG : GoodL n L) (hc : (grL n L hG).Conn 0) (hg : 1 - (n : Int) + edgL L ≤ 4) :
    Calls Try.prog 167 #[p] w (RetInts w (penL n L)) := by
  have hn8 := hG.n8
  have hn1 := hG.n1
  obtain ⟨gp, rfl⟩ := h.form
  have c0 : w.cell? ⟨gp, 0, none⟩ = some (.int .i64 n) := by obtain ⟨g, _, _, he, c0, _⟩ := h; simp only [Value.pointer.injEq, Option.some.injEq, Addr.mk.injEq, and_true] at he; subst he; exact c0
  obtain ⟨wp, hwp⟩ : ∃ wp : World, wp = w.alloc (.cells #[.pointer (some ⟨gp, 0, none⟩)] 81) := ⟨_, rfl⟩
  have hb0 : Below w.heap.size w wp := by rw [hwp]; exact (Below.refl _ _).alloc (Nat.le_refl _) _
  have hbp : Boxed wp w.heap.size 81 (.pointer (some ⟨gp, 0, none⟩)) := by rw [hwp]; exact Boxed.new _ _ _
  have hps : wp.heap.size = w.heap.size + 1 := by rw [hwp]; simp
  have hp1 : RG wp (.pointer (some ⟨gp, 0, none⟩)) n L := h.keep hb0
  have HVI : Hid (VPen wp none (wp.alloc (.cells #[.slice none 0 0] 23)) (fun b => b = wp.heap.size)) := by
    refine ⟨⟨(Below.refl _ _).alloc (Nat.le_refl _) _, by simp, .slice none 0 0, Boxed.new wp _ _, fun b => by simp [Value.ownBlock], ints_nil _ _ _⟩, fun _ => (Boxed.new wp _ _).cell, fun x hx => by cases hx⟩
  have HEND : Hid (∀ k, 5 ≤ k → k ≤ 8 → (penO n L k).isSome = true) := fun k h1 h2 => pen_end hG hc h2 (by omega)
  have HP0 : Hid (penL n L = pnN n L (6 - 0) 0) := by show _ = _; rw [pn_no (by decide) (pen_zero hG hc)]; rfl
  have HB0 := hid hb0
  have HPS := hid hps
  have HWP := hid hwp
  have HBP := hid hbp
  have HRG := hid hp1
  have HC0 := hid ((hb0.cell (p := ⟨gp, 0, none⟩) (cell_lt c0)).trans c0)
  clear hb0 hbp hps hp1 hg h c0 hwp
  go_enter Try.func167, Try.ntmps167
  go_wp2
  rw [← HWP.out, ← HPS.out]
  go_loopg [4] 6 (fun gk kv wr => ∃ (k : Nat) (s : Option (List Int)) (D : Nat → Prop), kv = .int .i64 k ∧ k ≤ 6 ∧ gk = 6 - k ∧ VPen wp s wr D ∧ ((s = none ∧ k ≤ 5 ∧ penL n L = pnN n L (6 - k) k) ∨ s = some (penL n L)))
  case atStart => exact ⟨0, none, _, rfl, by decide, rfl, HVI.out, .inl ⟨rfl, by decide, HP0.out⟩⟩
  case round =>
    obtain ⟨k, s, D, rfl, hk6, rfl, hV, hs⟩ := hrel
    have HV := hid hV
    obtain ⟨an, mn, cn, e6, hsn⟩ := hV.nil
    have hnil := fun w => Lib.run_eql_slice_nil (P := Try.prog) w 23 3 an mn cn 0 0 Try.underlying23
    obtain ⟨⟨hb, hsz, lv, hbx, hDD, hF⟩, _, _⟩ := hV
    have hlv : lv = .slice an mn cn := by have := hbx.cell.symm.trans e6; simpa using this
    subst hlv
    have HB := hid hb
    have HFF := hid hF
    rcases hs with ⟨hs, hk5, hr⟩ | hs
    · subst hs
      have han : an.isNone = true := hsn
      have HRK := hid hr
      have e0 := (hb.cell (p := ⟨w.heap.size, 0, none⟩) (cell_lt HBP.out.cell)).trans HBP.out.cell
      have e1 := (hb.cell (p := ⟨gp, 0, none⟩) (cell_lt HC0.out)).trans HC0.out
      have HD : Hid (∀ b, D b → b < wr.heap.size) := fun b hb => by
        rcases (hDD b).1 hb with h1 | h1
        · omega
        · exact (hF.1.lt b h1).2
      have hend := HEND.out k
      have HVS := hid (penF_vis n k _ L hG hc (by omega) w.heap.size wp HBP.out HRG.out wr.heap.size hsz)
      clear hb hF hbx hDD hr hsn
      go_wp2_with fail
      have hcall := chips_c n k hn1 (by omega) (by omega) none D wr HVS.out (fun e he => he) HV.out HD.out
      rw [vis_pen] at hcall
      refine hcall.mono ?_
      clear hcall
      rintro e w3 ⟨D3, rfl, hV3, _, _⟩
      have HV3 := hid hV3
      clear hV3 e0 e1 e6 hnil
      have HN : Hid ((penO n L k = none ∧ k + 1 ≤ 5 ∧ penL n L = pnN n L (6 - (k + 1)) (k + 1)) ∨ penO n L k = some (penL n L)) := by
        show _ ∨ _
        cases hO : penO n L k with
        | none =>
          refine .inl ⟨rfl, ?_, HRK.out.trans (pn_no hk5 hO)⟩
          apply Classical.byContradiction; intro hn
          have := hend (by omega) (by omega)
          rw [hO] at this; cases this
        | some x => right; rw [HRK.out, pn_yes hk5 hO]
      clear hend
      go_wp2
      go_roundg (6 - (k + 1))
      case rel => exact ⟨k + 1, _, D3, by go_num, by omega, rfl, HV3.out, HN.out⟩
      case measure => omega
    · subst hs
      have han : an.isNone = false := hsn
      clear hb hF hbx hDD hsn
      go_wp2
      go_ret
      exact ⟨_, rfl, HFF.out.mono (by have := HPS.out; omega) (Nat.le_refl _), HB0.out.trans (HB.out.mono (by have := HPS.out; omega))⟩

end Go.Proofs.Ytlehhfmbdcmpoaa
