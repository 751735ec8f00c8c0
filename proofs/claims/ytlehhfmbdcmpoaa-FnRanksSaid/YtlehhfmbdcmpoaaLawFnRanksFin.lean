/- FnRanks returns true for every input, and its arguments read as before. No condition. -/
import Derived.Test.YtlehhfmbdcmpoaaPenS
import Derived.Test.YtlehhfmbdcmpoaaPen
import Derived.Test.YtlehhfmbdcmpoaaChipW
import Derived.Test.YtlehhfmbdcmpoaaRankF
import Derived.Test.YtlehhfmbdcmpoaaMark
import Derived.Test.YtlehhfmbdcmpoaaBase
import Derived.Test.YtlehhfmbdcmpoaaDrawG
import Derived.Test.YtlehhfmbdcmpoaaDrawG2
import Derived.Test.YtlehhfmbdcmpoaaMem
import Derived.ProofKit
import Derived.OpenShut
import Derived.ShutString
import Derived.ChangeOld
import Derived.Deep.Matrix
import Derived.Test.YtlehhfmbdcmpoaaCur
/- Pencils: the program. -/
namespace Go.Proofs.Ytlehhfmbdcmpoaa
open Go.RowKit
open Go.Lib (hid)

/-- the first that is good is kept -/
noncomputable def stepP (n : Nat) (L : List Lnk) (s : Option (List Int)) (e : List Int) : Option (List Int) := if (brkO n L (ofL e) 1).isNone then some e else s
noncomputable def okP (n : Nat) (L : List Lnk) (s : Option (List Int)) (e : List Int) : Bool := (stepP n L s e).isNone
theorem vis_findg (p : List Int → Bool) (l : List (List Int)) : visL (fun (s : Option (List Int)) e => (if p e then some e else s).isNone) (fun s e => if p e then some e else s) l none = ((l.find? p).isNone, l.find? p) := by
  induction l with
  | nil => rfl
  | cons x xs ih =>
    cases h : p x with
    | true => simp [visL, h]
    | false => simp [visL, h, ih]
theorem vis_pen (n : Nat) (L : List Lnk) (k : Nat) : visL (okP n L) (stepP n L) (allL (n - 1) k) none = ((penO n L k).isNone, penO n L k) :=
  vis_findg (fun e => (brkO n L (ofL e) 1).isNone) (allL (n - 1) k)
/-- the box is nil till one is found -/
def VPen (wp : World) (s : Option (List Int)) (w : World) (D : Nat → Prop) : Prop :=
  VFnd wp s w D ∧ (s = none → w.cell? ⟨wp.heap.size, 0, none⟩ = some (.slice none 0 0)) ∧ ∀ x, s = some x → 0 < x.length
theorem VPen.frame {wp : World} {s : Option (List Int)} {w w' : World} {D : Nat → Prop} (h : VPen wp s w D) (hk : KeepOn (fun b => b < wp.heap.size + 1 ∨ D b) w w') : VPen wp s w' D := by
  refine ⟨h.1.frame hk, fun hs => ?_, h.2.2⟩
  have h1 := h.2.1 hs
  have hb := hk.block wp.heap.size (cell_lt h1) (.inl (by omega))
  rw [← h1]
  unfold World.cell?
  dsimp only
  rw [hb]
theorem VPen.nil {wp : World} {s : Option (List Int)} {w : World} {D : Nat → Prop} (h : VPen wp s w D) : ∃ a m c, w.cell? ⟨wp.heap.size, 0, none⟩ = some (.slice a m c) ∧ a.isNone = s.isNone := by
  cases s with
  | none => exact ⟨none, 0, 0, h.2.1 rfl, rfl⟩
  | some x =>
    obtain ⟨⟨_, _, lv, hb, _, hF⟩, _, h3⟩ := h
    obtain ⟨g, c, rfl⟩ := fints_pos hF (h3 x rfl)
    exact ⟨_, _, _, hb.cell, rfl⟩

set_option maxRecDepth 100000 in
set_option maxHeartbeats 2000000 in
theorem penF_c (n k : Nat) (pv : Value) (L : List Lnk) (hG : GoodL n L) (hc : (grL n L hG).Conn 0) (hk : k ≤ 8) (b : Nat) (wp w : World) (D : Nat → Prop) (s : Option (List Int)) (hbp : Boxed wp b 81 pv) (hp : RG wp pv n L)
    (hV : VPen wp s w D) (v : Value) (e : List Int) (hl : RInts w v e) (he : e ∈ allL (n - 1) k) :
    Calls Try.prog 201 (#[v] ++ #[.pointer (some ⟨b, 0, none⟩), .pointer (some ⟨wp.heap.size, 0, none⟩)]) w (RetV (VPen wp) D w (okP n L s e) (stepP n L s e)) := by
  show Calls Try.prog 201 #[v, .pointer (some ⟨b, 0, none⟩), .pointer (some ⟨wp.heap.size, 0, none⟩)] w _
  have hn1 := hG.n1
  have hn8 := hG.n8
  have HV := hid hV
  have hlen : e.length = n := by have := (allL_mem _ _ e he).1; omega
  have hs8 : small8 n (ofL e) := by have := eff_small hk he; rwa [show n - 1 + 1 = n by omega] at this
  have hsum : sumN n (ofL e) ≤ 8 := by rw [show sumN n (ofL e) = e.sum from sum_getD hlen, allL_sum _ _ e he]; omega
  have hro := rank_one hG hc hk he
  obtain ⟨⟨hb, hsz, lv, hbx, hDD, hF0⟩, hnn, hlp⟩ := hV
  have HB0 := hid hb
  have HDD := hid hDD
  have HBX := hid hbx
  have HSZ := hid hsz
  have HP := hid (hp.keep hb)
  have HL := hid hl
  have HRL : Hid (RInts w v (lst n (ofL e))) := rints_lst hl hlen
  have HS := hid (And.intro hs8 hsum)
  have HEL := hid hlen
  have e0 := (hb.cell (p := ⟨b, 0, none⟩) (cell_lt hbp.cell)).trans hbp.cell
  obtain ⟨gp, rfl⟩ := hp.form
  obtain ⟨ae, ce, rfl, _, _, _⟩ := hl
  obtain ⟨Z, hZ⟩ : ∃ Z, rkZ n L (ofL e) = Z := ⟨_, rfl⟩
  rw [hZ] at hro
  have HZ := hid hZ
  have hst : stepP n L s e = if 1 ≤ Z then some e else s := by
    unfold stepP
    rw [← hro]
    by_cases h : 1 ≤ Z
    · rw [if_pos (by simpa using h), if_pos h]
    · rw [if_neg (by simpa using h), if_neg h]
  obtain ⟨st, hse⟩ : ∃ st, stepP n L s e = st := ⟨_, rfl⟩
  have hok : okP n L s e = st.isNone := by unfold okP; rw [hse]
  rw [hok, hse]
  rw [hse] at hst
  have HST := hid hst
  obtain ⟨ne, hne⟩ : ∃ ne, e.length = ne := ⟨_, rfl⟩
  rw [hne] at HL HRL ⊢
  clear hb hDD hbx hF0 hbp hsz hp he hne hnn hlp hlen hs8 hsum hro hZ hst hok hse
  go_enter Try.func201, Try.ntmps201
  go_wp2_with fail
  refine (rank_c n _ _ L (ofL e) _ HP.out hG hc HRL.out HS.out.1 HS.out.2).mono ?_
  rintro e1 w1 ⟨rfl, hb1⟩
  rw [HZ.out]
  have HB1 := hid hb1
  have HV1 := hid (HV.out.frame (KeepOn.of_below hb1))
  clear hb1 e0
  by_cases hz : 1 ≤ Z
  · have HS2 : Hid (st = some e) := by show _ = _; rw [HST.out, if_pos hz]
    have hel : 0 < e.length := by rw [HEL.out]; omega
    have hel2 : e.length ≤ 1048576 := by rw [HEL.out]; omega
    go_wp2_with fail
    refine (clone_c _ e _ (HL.out.keep HB1.out) hel2).mono ?_
    rintro e7 w3 ⟨u3, rfl, hF3, hb3⟩
    have hB3 := HB1.out.trans (hb3.mono HB1.out.size)
    have hbx3 : Boxed w3 wp.heap.size 23 lv := (hB3.block _ HBX.out.lt).trans HBX.out
    have f5 := hbx3.frozen
    have e5 := hbx3.cell
    obtain ⟨g3, c3, rfl⟩ := fints_pos hF3 hel
    have hg3 : w.heap.size ≤ g3 ∧ g3 < w3.heap.size := by have := hF3.1.lt g3 rfl; have := HB1.out.size; omega
    obtain ⟨ln, hln⟩ : ∃ ln, e.length = ln := ⟨_, rfl⟩
    rw [hln] at hF3
    obtain ⟨W, hW⟩ : ∃ W, w3.setCell ⟨wp.heap.size, 0, none⟩ (.slice (some ⟨g3, 0, none⟩) ln c3) = W := ⟨_, rfl⟩
    have hss : W.heap.size = w3.heap.size := by rw [← hW]; simp [World.setCell]
    have hbx4 : Boxed W wp.heap.size 23 (.slice (some ⟨g3, 0, none⟩) ln c3) := by rw [← hW]; exact hbx3.set _
    have hVn : VFnd wp (some e) W (fun b => b = wp.heap.size ∨ b = g3) := by
      have hsz := HSZ.out
      have hB := HB0.out.trans (hB3.mono (by omega))
      refine ⟨by rw [← hW]; exact hB.setCell (Nat.le_refl _) _, by omega, _, hbx4, fun b => ?_, ?_⟩
      · simp only [Value.ownBlock, Option.some.injEq]
        constructor
        · rintro (h1 | h1)
          · exact .inl h1
          · exact .inr h1.symm
        · rintro (h1 | h1)
          · exact .inl h1
          · exact .inr h1.symm
      · show FInts _ _ _ _ e
        rw [← hW]
        refine fints_new (hi := w3.heap.size) ⟨own_mono (own_same hF3.1 (fun g hg => heap_setCell_other _ _ _ _ ?_)) (by have := HB1.out.size; omega), hF3.2⟩
        have := (hF3.1.lt g hg).1
        have := HB1.out.size
        show g ≠ wp.heap.size
        omega
    have hKn : KeepOn (fun c => ¬ D c) w W := by
      rw [← hW]
      exact (KeepOn.of_below hB3).trans (KeepOn.set _ _ _ (fun hn => hn ((HDD.out _).2 (.inl rfl))))
    have hDn : ∀ c, (c = wp.heap.size ∨ c = g3) → c < W.heap.size ∧ (D c ∨ w.heap.size ≤ c) := by
      intro c hc
      rw [hss]
      rcases hc with h1 | h1
      · exact ⟨by rw [h1]; exact hbx3.lt, .inl ((HDD.out c).2 (.inl h1))⟩
      · exact ⟨by omega, .inr (by omega)⟩
    have HVN : Hid (VPen wp (some e) W (fun b => b = wp.heap.size ∨ b = g3)) := ⟨hVn, (fun h => by cases h), (fun x hx => by cases hx; exact hel)⟩
    have HKN := hid hKn
    have HDN := hid hDn
    have e6 := hbx4.cell
    have hnil := fun w => Lib.run_eql_slice_nil (P := Try.prog) w 23 3 (some ⟨g3, 0, none⟩) ln c3 0 0 Try.underlying23
    rw [hln]
    clear hVn hKn hDn hF3 hb3 hB3 hbx3 hg3 hln hel hel2 hbx4 hss
    go_wp2
    go_ret
    exact ⟨_, by rw [HS2.out]; rfl, by rw [HS2.out]; exact HVN.out, HDN.out, HKN.out⟩
  · have HS2 : Hid (st = s) := by show _ = _; rw [HST.out, if_neg hz]
    obtain ⟨an, mn, cn, e6, hsn⟩ := HV1.out.nil
    have hnil := fun w => Lib.run_eql_slice_nil (P := Try.prog) w 23 3 an mn cn 0 0 Try.underlying23
    go_wp2
    go_ret
    exact ⟨D, by rw [HS2.out]; rfl, by rw [HS2.out]; exact HV1.out, fun c hc => ⟨by
      rcases (HDD.out c).1 hc with h1 | h1
      · have := HSZ.out; have := HB1.out.size; omega
      · obtain ⟨⟨_, _, lv', hb', hd', hf'⟩, _⟩ := HV.out
        have : lv' = lv := by have := hb'.cell.symm.trans HBX.out.cell; simpa using this
        subst this
        have := (hf'.1.lt c h1).2; have := HB1.out.size; omega, .inl hc⟩, KeepOn.of_below HB1.out⟩

theorem penF_vis (n k : Nat) (pv : Value) (L : List Lnk) (hG : GoodL n L) (hc : (grL n L hG).Conn 0) (hk : k ≤ 8) (b : Nat) (wp : World) (hbp : Boxed wp b 81 pv) (hp : RG wp pv n L) (h : Nat) (hh : wp.heap.size + 1 ≤ h) :
    Vis (Option (List Int)) h 201 #[.pointer (some ⟨b, 0, none⟩), .pointer (some ⟨wp.heap.size, 0, none⟩)] (okP n L) (stepP n L) (VPen wp) (fun e => e ∈ allL (n - 1) k) where
  enter := Try.call201
  frame := fun _ _ _ _ hv hk => hv.frame (hk.mono (fun _ _ hb => by rcases hb with hb | hb; exact .inl (by omega); exact .inr hb))
  call := fun s w D v xs hv hl hpe _ => penF_c n k pv L hG hc hk b wp w D s hbp hp hv v xs hl hpe

theorem pen_zero {n : Nat} {L : List Lnk} (hG : GoodL n L) (hc : (grL n L hG).Conn 0) : penO n L 0 = none := by
  have hn1 := hG.n1
  unfold penO
  rw [List.find?_eq_none]
  intro e he hw
  have hl : e.length = n := by have := (allL_mem _ _ e he).1; omega
  have hs : small8 n (ofL e) := by have := eff_small (show 0 ≤ 8 by decide) he; rwa [show n - 1 + 1 = n by omega] at this
  have hb := brk_end hG hc hs (show 1 ≤ 15 by decide) (by rw [show sumN n (ofL e) = e.sum from sum_getD hl, allL_sum _ _ e he]; decide)
  cases h : brkO n L (ofL e) 1 with
  | none => rw [h] at hb; cases hb
  | some x => rw [h] at hw; cases hw

set_option maxRecDepth 100000 in
set_option maxHeartbeats 2000000 in
theorem pencil_c (n : Nat) (p : Value) (L : List Lnk) (w : World) (h : RG w p n L) (hG : GoodL n L) (hc : (grL n L hG).Conn 0) (hg : 1 - (n : Int) + edgL L ≤ 4) :
    Calls Try.prog 167 #[p] w (RetInts w (penL n L)) := by
  have hn8 := hG.n8
  have hn1 := hG.n1
  obtain ⟨gp, rfl⟩ := h.form
  have c0 : w.cell? ⟨gp, 0, none⟩ = some (.int .i64 n) := by obtain ⟨g, _, _, he, c0, _⟩ := h; simp only [Value.pointer.injEq, Option.some.injEq, Addr.mk.injEq, and_true] at he; subst he; exact c0
  obtain ⟨wp, hwp⟩ : ∃ wp : World, wp = w.alloc (.cells #[.pointer (some ⟨gp, 0, none⟩)] 81) := ⟨_, rfl⟩
  have hb0 : Below w.heap.size w wp := by rw [hwp]; exact (Below.refl _ _).alloc (Nat.le_refl _) _
  have hbp : Boxed wp w.heap.size 81 (.pointer (some ⟨gp, 0, none⟩)) := by rw [hwp]; exact Boxed.new _ _ _
  have hps : wp.heap.size = w.heap.size + 1 := by rw [hwp]; simp
  have hp1 : RG wp (.pointer (some ⟨gp, 0, none⟩)) n L := h.keep hb0
  have HVI : Hid (VPen wp none (wp.alloc (.cells #[.slice none 0 0] 23)) (fun b => b = wp.heap.size)) := by
    refine ⟨⟨(Below.refl _ _).alloc (Nat.le_refl _) _, by simp, .slice none 0 0, Boxed.new wp _ _, fun b => by simp [Value.ownBlock], ints_nil _ _ _⟩, fun _ => (Boxed.new wp _ _).cell, fun x hx => by cases hx⟩
  have HEND : Hid (∀ k, 5 ≤ k → k ≤ 8 → (penO n L k).isSome = true) := fun k h1 h2 => pen_end hG hc h2 (by omega)
  have HP0 : Hid (penL n L = pnN n L (6 - 0) 0) := by show _ = _; rw [pn_no (by decide) (pen_zero hG hc)]; rfl
  have HB0 := hid hb0
  have HPS := hid hps
  have HWP := hid hwp
  have HBP := hid hbp
  have HRG := hid hp1
  have HC0 := hid ((hb0.cell (p := ⟨gp, 0, none⟩) (cell_lt c0)).trans c0)
  clear hb0 hbp hps hp1 hg h c0 hwp
  go_enter Try.func167, Try.ntmps167
  go_wp2
  rw [← HWP.out, ← HPS.out]
  go_loopg [4] 6 (fun gk kv wr => ∃ (k : Nat) (s : Option (List Int)) (D : Nat → Prop), kv = .int .i64 k ∧ k ≤ 6 ∧ gk = 6 - k ∧ VPen wp s wr D ∧ ((s = none ∧ k ≤ 5 ∧ penL n L = pnN n L (6 - k) k) ∨ s = some (penL n L)))
  case atStart => exact ⟨0, none, _, rfl, by decide, rfl, HVI.out, .inl ⟨rfl, by decide, HP0.out⟩⟩
  case round =>
    obtain ⟨k, s, D, rfl, hk6, rfl, hV, hs⟩ := hrel
    have HV := hid hV
    obtain ⟨an, mn, cn, e6, hsn⟩ := hV.nil
    have hnil := fun w => Lib.run_eql_slice_nil (P := Try.prog) w 23 3 an mn cn 0 0 Try.underlying23
    obtain ⟨⟨hb, hsz, lv, hbx, hDD, hF⟩, _, _⟩ := hV
    have hlv : lv = .slice an mn cn := by have := hbx.cell.symm.trans e6; simpa using this
    subst hlv
    have HB := hid hb
    have HFF := hid hF
    rcases hs with ⟨hs, hk5, hr⟩ | hs
    · subst hs
      have han : an.isNone = true := hsn
      have HRK := hid hr
      have e0 := (hb.cell (p := ⟨w.heap.size, 0, none⟩) (cell_lt HBP.out.cell)).trans HBP.out.cell
      have e1 := (hb.cell (p := ⟨gp, 0, none⟩) (cell_lt HC0.out)).trans HC0.out
      have HD : Hid (∀ b, D b → b < wr.heap.size) := fun b hb => by
        rcases (hDD b).1 hb with h1 | h1
        · omega
        · exact (hF.1.lt b h1).2
      have hend := HEND.out k
      have HVS := hid (penF_vis n k _ L hG hc (by omega) w.heap.size wp HBP.out HRG.out wr.heap.size hsz)
      clear hb hF hbx hDD hr hsn
      go_wp2_with fail
      have hcall := chips_c n k hn1 (by omega) (by omega) none D wr HVS.out (fun e he => he) HV.out HD.out
      rw [vis_pen] at hcall
      refine hcall.mono ?_
      clear hcall
      rintro e w3 ⟨D3, rfl, hV3, _, _⟩
      have HV3 := hid hV3
      clear hV3 e0 e1 e6 hnil
      have HN : Hid ((penO n L k = none ∧ k + 1 ≤ 5 ∧ penL n L = pnN n L (6 - (k + 1)) (k + 1)) ∨ penO n L k = some (penL n L)) := by
        show _ ∨ _
        cases hO : penO n L k with
        | none =>
          refine .inl ⟨rfl, ?_, HRK.out.trans (pn_no hk5 hO)⟩
          apply Classical.byContradiction; intro hn
          have := hend (by omega) (by omega)
          rw [hO] at this; cases this
        | some x => right; rw [HRK.out, pn_yes hk5 hO]
      clear hend
      go_wp2
      go_roundg (6 - (k + 1))
      case rel => exact ⟨k + 1, _, D3, by go_num, by omega, rfl, HV3.out, HN.out⟩
      case measure => omega
    · subst hs
      have han : an.isNone = false := hsn
      clear hb hF hbx hDD hsn
      go_wp2
      go_ret
      exact ⟨_, rfl, HFF.out.mono (by have := HPS.out; omega) (Nat.le_refl _), HB0.out.trans (HB.out.mono (by have := HPS.out; omega))⟩

end Go.Proofs.Ytlehhfmbdcmpoaa

/- FirstPencil, GonalityOf: both. -/
namespace Go.Proofs.Ytlehhfmbdcmpoaa
open Go.RowKit
open Go.Lib (hid)

theorem pn_small {n : Nat} {L : List Lnk} (h1 : 1 ≤ n) (hn : n ≤ 8) : ∀ m k : Nat, k + m ≤ 20 → (pnN n L m k).length ≤ 8 ∧ ∀ x ∈ pnN n L m k, 0 ≤ x ∧ x ≤ 20 := by
  intro m
  induction m with
  | zero => intro k _; simp [pnN]
  | succ m ih =>
    intro k hk
    simp only [pnN]
    cases hO : penO n L k with
    | none => exact ih (k + 1) (by omega)
    | some e =>
      have h := allL_mem _ _ e (List.mem_of_find?_eq_some hO)
      exact ⟨by dsimp only; omega, fun x hx => by have := h.2 x hx; omega⟩
noncomputable def fpB (n : Int) (L : List Lnk) : List Int × Bool := if raGB n L then (penL n.toNat L, true) else ([], false)
noncomputable def goB (n : Int) (L : List Lnk) : Int × Bool := if raGB n L then ((penL n.toNat L).sum, true) else (0, false)
theorem fpB_yes {n : Int} {L : List Lnk} (h : raGB n L = true) : fpB n L = (penL n.toNat L, true) := by unfold fpB; rw [h]; rfl
theorem fpB_no {n : Int} {L : List Lnk} (h : raGB n L = false) : fpB n L = ([], false) := by unfold fpB; rw [h]; rfl
theorem goB_yes {n : Int} {L : List Lnk} (h : raGB n L = true) : goB n L = ((penL n.toNat L).sum, true) := by unfold goB; rw [h]; rfl
theorem goB_no {n : Int} {L : List Lnk} (h : raGB n L = false) : goB n L = (0, false) := by unfold goB; rw [h]; rfl
theorem fpB_len (n : Int) (L : List Lnk) : (fpB n L).1.length ≤ 1048576 := by
  rcases Bool.eq_false_or_eq_true (raGB n L) with h | h
  · obtain ⟨m, hm, _, hG, _⟩ := graph_parts h
    have := (pn_small (L := L) hG.n1 hG.n8 5 1 (by decide)).1
    rw [fpB_yes h, hm]
    show (pnN m L 5 1).length ≤ _
    omega
  · rw [fpB_no h]; simp

set_option maxRecDepth 100000 in
set_option maxHeartbeats 1000000 in
theorem sFirstPencil_u (n : Int) (v : Value) (L : List Lnk) (w : World) (h : RLinks w v L) :
    Calls Try.prog 85 #[.int .i64 n, v] w (RetIB w (fpB n L)) := by
  have HR := hid h
  obtain ⟨a, cap, rfl⟩ := h.form
  clear h
  rcases Bool.eq_false_or_eq_true (raGB n L) with t | t
  · obtain ⟨m, hm, hn, hG, hc, hg⟩ := graph_parts t
    have hy := fpB_yes t
    rw [hm] at hy
    subst hn
    have HY := hid hy
    clear hy hm
    go_enter Try.func85, Try.ntmps85
    go_wp2_with fail
    refine (raGraph_c _ _ L _ HR.out).mono ?_
    rintro e w1 ⟨rfl, hb1⟩
    rw [t]
    have HB1 := hid hb1
    have HR1 := hid (HR.out.keep hb1)
    clear hb1
    go_wp2_with fail
    refine (raPencil_c m _ L _ HR1.out hG hc hg).mono ?_
    rintro e w2 ⟨q, rfl, hF, hb2⟩
    have HF := hid (And.intro (hF.mono HB1.out.size (Nat.le_refl _)) (HB1.out.trans (hb2.mono HB1.out.size)))
    obtain ⟨a6, n6, c6, rfl⟩ := hF.form3
    clear hF hb2
    go_wp2
    go_ret2
    exact ⟨_, by rw [HY.out]; rfl, by rw [HY.out]; exact HF.out.1, HF.out.2⟩
  · have HE := hid (fpB_no t)
    go_enter Try.func85, Try.ntmps85
    go_wp2_with fail
    refine (raGraph_c _ _ L _ HR.out).mono ?_
    rintro e w1 ⟨rfl, hb1⟩
    rw [t]
    go_wp2
    go_ret2
    exact ⟨_, by rw [HE.out]; rfl, by rw [HE.out]; exact ints_nil _ _ _, hb1⟩

set_option maxRecDepth 100000 in
set_option maxHeartbeats 1000000 in
theorem iFirstPencil_u (n : Int) (v : Value) (L : List Lnk) (w : World) (h : RLinks w v L) :
    Calls Try.prog 84 #[.int .i64 n, v] w (RetIB w (fpB n L)) := by
  have HR := hid h
  obtain ⟨a, cap, rfl⟩ := h.form
  clear h
  rcases Bool.eq_false_or_eq_true (raGB n L) with t | t
  · obtain ⟨m, hm, hn, hG, hc, hg⟩ := graph_parts t
    have hy := fpB_yes t
    rw [hm] at hy
    subst hn
    have HY := hid hy
    clear hy hm
    go_enter Try.func84, Try.ntmps84
    go_wp2_with fail
    refine (smallGraph_yes m _ L _ HR.out t).mono ?_
    rintro e w1 ⟨g, rfl, hgr, hb1⟩
    have HB1 := hid hb1
    have HG1 := hid hgr
    clear hb1 hgr
    go_wp2_with fail
    refine (pencil_c m _ L _ HG1.out hG hc hg).mono ?_
    rintro e w2 ⟨q, rfl, hF, hb2⟩
    have HF := hid (And.intro (hF.mono HB1.out.size (Nat.le_refl _)) (HB1.out.trans (hb2.mono HB1.out.size)))
    obtain ⟨a6, n6, c6, rfl⟩ := hF.form3
    clear hF hb2
    go_wp2
    go_ret2
    exact ⟨_, by rw [HY.out]; rfl, by rw [HY.out]; exact HF.out.1, HF.out.2⟩
  · have HE := hid (fpB_no t)
    go_enter Try.func84, Try.ntmps84
    go_wp2_with fail
    refine (smallGraph_no n _ L _ HR.out t).mono ?_
    rintro e w1 ⟨g, rfl, hb1⟩
    go_wp2
    go_ret2
    exact ⟨_, by rw [HE.out]; rfl, by rw [HE.out]; exact ints_nil _ _ _, hb1⟩

set_option maxRecDepth 100000 in
set_option maxHeartbeats 1000000 in
theorem sGonalityOf_u (n : Int) (v : Value) (L : List Lnk) (w : World) (h : RLinks w v L) :
    Calls Try.prog 83 #[.int .i64 n, v] w (RetZB w (goB n L)) := by
  have HR := hid h
  obtain ⟨a, cap, rfl⟩ := h.form
  clear h
  rcases Bool.eq_false_or_eq_true (raGB n L) with t | t
  · obtain ⟨m, hm, hn, hG, hc, hg⟩ := graph_parts t
    have hy := goB_yes t
    rw [hm] at hy
    subst hn
    have HY := hid hy
    have hps := pn_small (L := L) hG.n1 hG.n8 5 1 (by decide)
    have HSI : Hid (smallI (penL m L)) := ⟨by have := hps.1; show (pnN m L 5 1).length ≤ 1000; omega, fun x hx => by have := hps.2 x hx; omega⟩
    clear hy hm hps
    go_enter Try.func83, Try.ntmps83
    go_wp2_with fail
    refine (raGraph_c _ _ L _ HR.out).mono ?_
    rintro e w1 ⟨rfl, hb1⟩
    rw [t]
    have HB1 := hid hb1
    have HR1 := hid (HR.out.keep hb1)
    clear hb1
    go_wp2_with fail
    refine (raPencil_c m _ L _ HR1.out hG hc hg).mono ?_
    rintro e w2 ⟨q, rfl, hF, hb2⟩
    have HB2 := hid (HB1.out.trans (hb2.mono HB1.out.size))
    have HF := hid hF.r
    obtain ⟨a6, n6, c6, rfl⟩ := hF.form3
    clear hF hb2
    go_wp2_with fail
    refine (chSum_c _ (penL m L) _ HF.out HSI.out).mono ?_
    rintro e w' ⟨rfl, rfl⟩
    go_wp2
    go_ret2
    exact ⟨by rw [HY.out]; rfl, HB2.out⟩
  · have HE := hid (goB_no t)
    go_enter Try.func83, Try.ntmps83
    go_wp2_with fail
    refine (raGraph_c _ _ L _ HR.out).mono ?_
    rintro e w1 ⟨rfl, hb1⟩
    rw [t]
    go_wp2
    go_ret2
    exact ⟨by rw [HE.out]; rfl, hb1⟩

set_option maxRecDepth 100000 in
set_option maxHeartbeats 1000000 in
theorem iGonalityOf_u (n : Int) (v : Value) (L : List Lnk) (w : World) (h : RLinks w v L) :
    Calls Try.prog 82 #[.int .i64 n, v] w (RetZB w (goB n L)) := by
  have HR := hid h
  obtain ⟨a, cap, rfl⟩ := h.form
  clear h
  rcases Bool.eq_false_or_eq_true (raGB n L) with t | t
  · obtain ⟨m, hm, hn, hG, hc, hg⟩ := graph_parts t
    have hy := goB_yes t
    rw [hm] at hy
    subst hn
    have HY := hid hy
    have hps := pn_small (L := L) hG.n1 hG.n8 5 1 (by decide)
    have HSI : Hid (smallI (penL m L)) := ⟨by have := hps.1; show (pnN m L 5 1).length ≤ 1000; omega, fun x hx => by have := hps.2 x hx; omega⟩
    clear hy hm hps
    go_enter Try.func82, Try.ntmps82
    go_wp2_with fail
    refine (smallGraph_yes m _ L _ HR.out t).mono ?_
    rintro e w1 ⟨g, rfl, hgr, hb1⟩
    have HB1 := hid hb1
    have HG1 := hid hgr
    clear hb1 hgr
    go_wp2_with fail
    refine (pencil_c m _ L _ HG1.out hG hc hg).mono ?_
    rintro e w2 ⟨q, rfl, hF, hb2⟩
    have HB2 := hid (HB1.out.trans (hb2.mono HB1.out.size))
    have HF := hid hF.r
    obtain ⟨a6, n6, c6, rfl⟩ := hF.form3
    clear hF hb2
    go_wp2_with fail
    refine (total_c _ (penL m L) _ HF.out HSI.out).mono ?_
    rintro e w' ⟨rfl, rfl⟩
    go_wp2
    go_ret2
    exact ⟨by rw [HY.out]; rfl, HB2.out⟩
  · have HE := hid (goB_no t)
    go_enter Try.func82, Try.ntmps82
    go_wp2_with fail
    refine (smallGraph_no n _ L _ HR.out t).mono ?_
    rintro e w1 ⟨g, rfl, hb1⟩
    go_wp2
    go_ret2
    exact ⟨by rw [HE.out]; rfl, hb1⟩

end Go.Proofs.Ytlehhfmbdcmpoaa

/- Ranks, plain: the rank falls by at most one with a chip less; ranks of a divisor and its dual balance (Riemann and Roch). -/
namespace Go.Proofs.Ytlehhfmbdcmpoaa
open Go.RowKit
open Go.Lib (hid)

theorem winB_iff {n : Nat} {L : List Lnk} (hG : GoodL n L) (hc : (grL n L hG).Conn 0) {f : Nat → Int} (hs : small40 n f) : winB n L f = true ↔ (grL n L hG).Win f := by
  rw [winB_eq hG hc, decide_eq_true_iff]
  exact Gr.win_iff (show 0 < (grL n L hG).n from hG.n1) (wt0 hG hc) (small_inv hG hs).1
/-- lists of no negative numbers with the sum k, all of them -/
theorem allL_all : ∀ (d k : Nat) (e : List Int), e.length = d + 1 → (∀ x ∈ e, 0 ≤ x) → e.sum = (k : Int) → e ∈ allL d k := by
  intro d
  induction d with
  | zero =>
    intro k e hl h0 hs
    obtain ⟨x, rfl⟩ : ∃ x, e = [x] := by
      match e, hl with
      | [x], _ => exact ⟨x, rfl⟩
    simp only [List.sum_cons, List.sum_nil] at hs
    simp only [allL, List.mem_singleton]
    rw [show x = (k : Int) by omega]
  | succ d ih =>
    intro k e hl h0 hs
    match e, hl with
    | x :: e, hl =>
      have hx := h0 x (List.mem_cons_self ..)
      have he : ∀ y ∈ e, 0 ≤ y := fun y hy => h0 y (List.mem_cons_of_mem _ hy)
      have hes : 0 ≤ e.sum := by
        clear hs hl h0 ih
        induction e with
        | nil => simp
        | cons y ys ih2 =>
          have := he y (List.mem_cons_self ..)
          have := ih2 (fun z hz => he z (List.mem_cons_of_mem _ hz))
          simp only [List.sum_cons]; omega
      simp only [List.sum_cons] at hs
      obtain ⟨y, rfl⟩ : ∃ y : Nat, x = y := ⟨x.toNat, by omega⟩
      simp only [allL, List.mem_flatMap, List.mem_range, List.mem_map]
      exact ⟨y, by omega, e, ih (k - y) e (by simpa using hl) he (by omega), rfl⟩
theorem allL_lst {n : Nat} (h1 : 1 ≤ n) {E : Nat → Int} (h0 : ∀ v, v < n → 0 ≤ E v) {k : Nat} (hk : sumN n E = (k : Int)) : lst n E ∈ allL (n - 1) k := by
  refine allL_all _ _ _ (by rw [lst_len]; omega) (fun x hx => ?_) (by rw [lst_sum]; exact hk)
  obtain ⟨i, hi, rfl⟩ := mem_lst.1 hx
  exact h0 i hi
theorem brk_iff {n : Nat} {L : List Lnk} (hG : GoodL n L) (hc : (grL n L hG).Conn 0) {f : Nat → Int} (hs : small8 n f) {k : Nat} (hk : k ≤ 15) :
    (brkO n L f k).isSome = true ↔ ∃ E : Nat → Int, (∀ v, v < n → 0 ≤ E v) ∧ sumN n E = (k : Int) ∧ ¬ (grL n L hG).Win (fun v => f v - E v) := by
  have hn1 := hG.n1
  unfold brkO
  rw [List.find?_isSome]
  constructor
  · rintro ⟨e, he, hw⟩
    have h1 := allL_mem _ _ e he
    have hl : e.length = n := by omega
    refine ⟨fun i => e.getD i 0, fun v _ => (small_less hk h1.2 v).1, by rw [sum_getD hl, allL_sum _ _ e he], fun h => ?_⟩
    rw [(winB_iff hG hc (small_sub hs hk h1.2)).2 h] at hw
    cases hw
  · rintro ⟨E, h0, hk', hw⟩
    have he := allL_lst hn1 h0 hk'
    have h1 := allL_mem _ _ _ he
    refine ⟨_, he, ?_⟩
    have : winB n L (fun i => f i - (lst n E).getD i 0) = false := by
      cases e : winB n L (fun i => f i - (lst n E).getD i 0) with
      | false => rfl
      | true => exact absurd (((winB_iff hG hc (small_sub hs hk h1.2)).1 e).congr (fun v hv => by (try dsimp only); rw [lst_at E (show v < n from hv)])) hw
    rw [this]; rfl
/-- the rank is the least degree that breaks, less one -/
theorem rk_spec {n : Nat} {L : List Lnk} (hG : GoodL n L) (hc : (grL n L hG).Conn 0) {f : Nat → Int} (hs : small8 n f) (h8 : sumN n f ≤ 8) :
    ∃ k : Nat, k ≤ 9 ∧ rkZ n L f = (k : Int) - 1 ∧ (brkO n L f k).isSome = true ∧ ∀ j, j < k → (brkO n L f j).isSome = false := by
  have h : ∀ m k, m + k = 10 → (∀ j, j < k → (brkO n L f j).isSome = false) → k ≤ 9 → ∃ i : Nat, i ≤ 9 ∧ rkN n L f m k = (i : Int) - 1 ∧ (brkO n L f i).isSome = true ∧ ∀ j, j < i → (brkO n L f j).isSome = false := by
    intro m
    induction m with
    | zero => intro k h1 _ h3; omega
    | succ m ih =>
      intro k h1 h2 h3
      simp only [rkN]
      cases e : (brkO n L f k).isSome with
      | true => exact ⟨k, h3, by rw [if_pos rfl], e, h2⟩
      | false =>
        rw [if_neg (by decide)]
        have hk : k ≤ 8 := by
          by_cases h9 : k = 9
          · have := brk_end hG hc hs (k := 9) (by decide) (by omega)
            rw [← h9, e] at this; cases this
          · omega
        exact ih (k + 1) (by omega) (fun j hj => by
          by_cases e' : j = k
          · rw [e', e]
          · exact h2 j (by omega)) (by omega)
  exact h 10 0 rfl (fun j hj => by omega) (by omega)
/-- what breaks is found no earlier than the rank says -/
theorem rk_le {n : Nat} {L : List Lnk} (hG : GoodL n L) (hc : (grL n L hG).Conn 0) {f : Nat → Int} (hs : small8 n f) (h8 : sumN n f ≤ 8) {k : Nat} {E : Nat → Int} (h0 : ∀ v, v < n → 0 ≤ E v) (hk : sumN n E = (k : Int)) (hw : ¬ (grL n L hG).Win (fun v => f v - E v)) : rkZ n L f ≤ (k : Int) - 1 := by
  obtain ⟨i, hi, h1, _, h3⟩ := rk_spec hG hc hs h8
  rw [h1]
  by_cases e : k < i
  · have h4 := h3 k e
    rw [(brk_iff hG hc hs (by omega)).2 ⟨E, h0, hk, hw⟩] at h4; cases h4
  · omega
theorem rk_has {n : Nat} {L : List Lnk} (hG : GoodL n L) (hc : (grL n L hG).Conn 0) {f : Nat → Int} (hs : small8 n f) (h8 : sumN n f ≤ 8) : ∃ (k : Nat) (E : Nat → Int), k ≤ 9 ∧ (∀ v, v < n → 0 ≤ E v) ∧ sumN n E = (k : Int) ∧ rkZ n L f = (k : Int) - 1 ∧ ¬ (grL n L hG).Win (fun v => f v - E v) := by
  obtain ⟨i, hi, h1, h2, _⟩ := rk_spec hG hc hs h8
  obtain ⟨E, h3, h4, h5⟩ := (brk_iff hG hc hs (by omega)).1 h2
  exact ⟨i, E, hi, h3, h4, h1, h5⟩
theorem sumN_upd {n : Nat} {f : Nat → Int} {v : Nat} (hv : v < n) (x : Int) : sumN n (upd f v x) = sumN n f + (x - f v) := by
  rw [sumN_but _ hv, sumN_but f hv, upd_self]
  rw [sumN_congr (f := fun i => if i = v then 0 else upd f v x i) (g := fun i => if i = v then 0 else f i) (fun i _ => by
    (try dsimp only)
    by_cases e : i = v
    · rw [if_pos e, if_pos e]
    · rw [if_neg e, if_neg e, upd_other _ _ e])]
  omega
/-- with a chip less the rank is the same or one less -/
theorem rk_less {n : Nat} {L : List Lnk} (hG : GoodL n L) (hc : (grL n L hG).Conn 0) {f : Nat → Int} (hs : small8 n f) (h8 : sumN n f ≤ 8) {v : Nat} (hv : v < n) (hs2 : small8 n (upd f v (f v - 1))) : rkZ n L (upd f v (f v - 1)) ≤ rkZ n L f ∧ rkZ n L f - 1 ≤ rkZ n L (upd f v (f v - 1)) := by
  have hsum := sumN_upd (f := f) hv (f v - 1)
  have h82 : sumN n (upd f v (f v - 1)) ≤ 8 := by omega
  have hat : ∀ u, upd f v (f v - 1) u ≤ f u ∧ f u ≤ upd f v (f v - 1) u + (if u = v then 1 else 0) := fun u => by
    by_cases e : u = v
    · subst e; rw [upd_self, if_pos rfl]; omega
    · rw [upd_other _ _ e, if_neg e]; omega
  constructor
  · obtain ⟨k, E, _, h1, h2, h3, h4⟩ := rk_has hG hc hs h8
    rw [h3]
    exact rk_le hG hc hs2 h82 h1 h2 (fun h => h4 (h.up (fun u _ => by have := (hat u).1; (try dsimp only); omega)))
  · obtain ⟨k, E, _, h1, h2, h3, h4⟩ := rk_has hG hc hs2 h82
    rw [h3]
    have := rk_le hG hc hs h8 (k := k + 1) (E := upd E v (E v + 1)) (fun u hu => by
      by_cases e : u = v
      · subst e; rw [upd_self]; have := h1 u hu; omega
      · rw [upd_other _ _ e]; exact h1 u hu) (by rw [sumN_upd hv]; omega) (fun h => h4 (h.up (fun u _ => by
      (try dsimp only)
      by_cases e : u = v
      · subst e; rw [upd_self, upd_self]; omega
      · rw [upd_other _ _ e, upd_other _ _ e]; exact Int.le_refl _)))
    omega
/-- one half of the theorem of Riemann and Roch for graphs -/
theorem rr_half {n : Nat} {L : List Lnk} (hG : GoodL n L) (hc : (grL n L hG).Conn 0) {f k : Nat → Int} (hs : small8 n f) (h8 : sumN n f ≤ 8) (ks : small8 n k) (k8 : sumN n k ≤ 8) (hd : ∀ v, v < n → k v = valV n L v - 2 - f v) : rkZ n L k ≤ rkZ n L f + (edgL L - (n : Int)) - sumN n f := by
  have hn1 := hG.n1
  obtain ⟨i, E, hi9, h1, h2, h3, h4⟩ := rk_has hG hc hs h8
  have hE : ∀ v, v < n → 0 ≤ E v ∧ E v ≤ 9 := fun v hv => ⟨h1 v hv, by
    have := le_sumN (f := E) hv (fun u hu _ => h1 u hu)
    omega⟩
  have hsm : small40 n (fun v => f v - E v) := fun v hv => by have := hE v hv; have := hs v hv; (try dsimp only); omega
  obtain ⟨p, hp, c, hc2⟩ := Gr.unwin_order (show 0 < (grL n L hG).n from hn1) (wt0 hG hc) (small_inv hG hsm).1 h4
  have hh : sumN n (valV n L) = 2 * edgL L := handshake n L hG.each
  have hnu : 2 * sumN n (Gr.nu (grL n L hG) p) = sumN n (valV n L) - 2 * (n : Int) := Gr.nu_sum hp
  obtain ⟨p', hp', hrev⟩ := Gr.nu_rev hp
  -- what pays the breaking chips of the dual
  obtain ⟨E', hE'⟩ : ∃ E', (grL n L hG).after (fun v => Gr.nu (grL n L hG) p v - (f v - E v)) c = E' := ⟨_, rfl⟩
  rw [hE'] at hc2
  have hs' : sumN n E' = sumN n (Gr.nu (grL n L hG) p) - (sumN n f - sumN n E) := by
    rw [← hE']
    have h5 : sumN n ((grL n L hG).after (fun v => Gr.nu (grL n L hG) p v - (f v - E v)) c) = sumN n (fun v => Gr.nu (grL n L hG) p v - (f v - E v)) := Gr.after_sum (grL n L hG) _ c
    rw [h5, sumN_sub, sumN_sub]
  have h0 : 0 ≤ sumN n E' := sumN_nonneg hc2
  have hle := rk_le hG hc ks k8 (k := (sumN n E').toNat) (E := E') hc2 (by omega) (fun hw => by
    have hw2 : (grL n L hG).Win (fun v => Gr.nu (grL n L hG) p' v - (k v - E' v)) := by
      refine ⟨fun u => - c u, fun v hv => ?_⟩
      have e1 : E' v = (grL n L hG).after (fun v => Gr.nu (grL n L hG) p v - (f v - E v)) c v := by rw [hE']
      have e2 := hrev v hv
      have e3 : (grL n L hG).val v = valV n L v := rfl
      have e4 := hd v hv
      have e5 := h1 v hv
      have e6 : sumN (grL n L hG).n (fun u => -c u * (grL n L hG).lap u v) = - sumN (grL n L hG).n (fun u => c u * (grL n L hG).lap u v) := by
        have := sumN_mul (grL n L hG).n (-1) (fun u => c u * (grL n L hG).lap u v)
        rw [sumN_congr (g := fun u => (-1) * (c u * (grL n L hG).lap u v)) (fun u _ => by (try dsimp only); rw [Int.neg_mul]; omega), this]; omega
      have hh : (fun v => Gr.nu (grL n L hG) p' v - (k v - E' v)) v = Gr.nu (grL n L hG) p' v - (k v - E' v) := rfl
      have hh2 : (fun v => Gr.nu (grL n L hG) p v - (f v - E v)) v = Gr.nu (grL n L hG) p v - (f v - E v) := rfl
      unfold Gr.after at e1 ⊢
      rw [e6]
      omega
    exact Gr.nu_unwin (show 0 < (grL n L hG).n from hn1) p' ((hw.add hw2).congr (fun v _ => by (try dsimp only); omega)))
  omega
/-- the theorem of Riemann and Roch for graphs -/
theorem rr {n : Nat} {L : List Lnk} (hG : GoodL n L) (hc : (grL n L hG).Conn 0) {f k : Nat → Int} (hs : small8 n f) (h8 : sumN n f ≤ 8) (ks : small8 n k) (k8 : sumN n k ≤ 8) (hd : ∀ v, v < n → k v = valV n L v - 2 - f v) : rkZ n L f - rkZ n L k = sumN n f - (1 - (n : Int) + edgL L) + 1 := by
  have h1 := rr_half hG hc hs h8 ks k8 hd
  have h2 := rr_half hG hc ks k8 hs h8 (fun v hv => by have := hd v hv; omega)
  have hh : sumN n (valV n L) = 2 * edgL L := handshake n L hG.each
  have hk : sumN n k = sumN n (valV n L) - 2 * (n : Int) - sumN n f := by
    rw [sumN_congr hd, sumN_sub, sumN_sub, Gr.sumN_const]; omega
  omega

end Go.Proofs.Ytlehhfmbdcmpoaa

/- impl.IsWinnable at a good question. -/
namespace Go.Proofs.Ytlehhfmbdcmpoaa
open Go.RowKit
open Go.Lib (hid)

set_option maxRecDepth 100000 in
set_option maxHeartbeats 1000000 in
theorem game_yes (n : Nat) (v u : Value) (L : List Lnk) (d : List Int) (w : World) (h : RLinks w v L) (hd : RInts w u d) (hG : GoodL n L) (hg : goodG n L = true) (hc : conB n L = true) (hl : d.length = n) (hb : ∀ x ∈ d, -20 ≤ x ∧ x ≤ 20) :
    Calls Try.prog 155 #[.int .i64 n, v, u] w (RetG w n L) := by
  have HR := hid h
  have HD := hid hd
  obtain ⟨a, cap, rfl⟩ := h.form
  obtain ⟨a2, cap2, rfl, _, _, hcc⟩ := hd
  have hall : allB d (-20) 20 = true := by
    unfold allB; rw [List.all_eq_true]; intro x hx; rw [inB_iff]; exact hb x hx
  have hleq : ((d.length : Int) == (n : Int)) = true := by rw [hl]; simp
  have HX := hid (And.intro hG (And.intro hg (And.intro hc (And.intro hleq hall))))
  clear h hcc hG hg hc hl hb hall hleq
  go_enter Try.func155, Try.ntmps155
  go_wp2_with fail
  refine (graphOf_c n _ L _ HR.out HX.out.1 HX.out.2.1).mono ?_
  rintro e w1 ⟨g, rfl, hg, hb1⟩
  have HRG := hid hg
  have HB1 := hid hb1
  have HD1 := hid (HD.out.keep hb1)
  clear hb1 hg
  go_wp2_with fail
  refine (isConnected_c n _ L _ HRG.out HX.out.1).mono ?_
  rintro e w2 ⟨rfl, hb2⟩
  rw [HX.out.2.2.1]
  have HRG2 := hid (HRG.out.keep hb2)
  have HB2 := hid (HB1.out.trans (hb2.mono HB1.out.size))
  have HD2 := hid (HD1.out.keep hb2)
  clear hb2
  go_wp2_with fail
  refine (areChips_c n _ L _ d 20 _ HRG2.out HD2.out (by decide)).mono ?_
  rintro e w3 ⟨rfl, hb3⟩
  rw [HX.out.2.2.2.1, HX.out.2.2.2.2]
  have HF := hid (And.intro (HRG2.out.keep hb3) (HB2.out.trans (hb3.mono HB2.out.size)))
  clear hb3
  go_wp2
  go_ret2
  exact ⟨g, rfl, HF.out.1, HF.out.2⟩

set_option maxRecDepth 100000 in
set_option maxHeartbeats 1000000 in
theorem iIsWinnable_y (n : Nat) (v u : Value) (L : List Lnk) (f : Nat → Int) (w : World) (h : RLinks w v L) (hd : RInts w u (lst n f)) (hG : GoodL n L) (hg : goodG n L = true) (hc : conB n L = true) (hb : ∀ i, i < n → -20 ≤ f i ∧ f i ≤ 20) :
    Calls Try.prog 69 #[.int .i64 n, v, u] w fun e w' => e = .returned (.tuple #[.bool (winB n L f), .bool true]) ∧ Below w.heap.size w w' := by
  have HR := hid h
  have HD := hid hd
  obtain ⟨a, cap, rfl⟩ := h.form
  obtain ⟨a2, cap2, rfl, _, _, hcc⟩ := hd
  have HX := hid (And.intro hG (And.intro hg (And.intro hc hb)))
  clear h hcc hG hg hc hb
  go_enter Try.func69, Try.ntmps69
  go_wp2_with fail
  refine (game_yes n _ _ L (lst n f) _ HR.out HD.out HX.out.1 HX.out.2.1 HX.out.2.2.1 (lst_len n f) (fun x hx => by obtain ⟨i, hi, rfl⟩ := mem_lst.1 hx; exact HX.out.2.2.2 i hi)).mono ?_
  rintro e w1 ⟨g, rfl, hg, hb1⟩
  have HRG := hid hg
  have HB1 := hid hb1
  have HD1 := hid (HD.out.keep hb1)
  clear hb1 hg
  go_wp2_with fail
  refine (isWinnable_c n _ _ L f _ HRG.out HX.out.1 ((conB_iff HX.out.1).1 HX.out.2.2.1) HD1.out (fun i hi => by have := HX.out.2.2.2 i hi; omega)).mono ?_
  rintro e w2 ⟨rfl, hb2⟩
  have HB2 := hid (HB1.out.trans (hb2.mono HB1.out.size))
  clear hb2
  obtain ⟨x, hx⟩ : ∃ x, winB n L f = x := ⟨_, rfl⟩
  rw [hx]
  have HW := hid hx
  clear hx
  go_wp2
  go_ret2
  exact ⟨by rw [HW.out]; rfl, HB2.out⟩

end Go.Proofs.Ytlehhfmbdcmpoaa

/- The laws' own small functions: equal lists, sums, membership. -/
namespace Go.Proofs.Ytlehhfmbdcmpoaa
open Go.RowKit
open Go.Lib (hid)

theorem RInts.form3 {w : World} {v : Value} {xs : List Int} (h : RInts w v xs) : ∃ a n c, v = .slice a n c := by
  obtain ⟨a, cap, rfl, _⟩ := h; exact ⟨_, _, _, rfl⟩
theorem RInts.form {w : World} {v : Value} {xs : List Int} (h : RInts w v xs) : ∃ a c, v = .slice a xs.length c := by
  obtain ⟨a, cap, rfl, _⟩ := h; exact ⟨_, _, rfl⟩
set_option maxHeartbeats 400000 in
theorem qInts_c (v u : Value) (l m : List Int) (w : World) (h : RInts w v l) (h' : RInts w u m) :
    Calls Try.prog 73 #[v, u] w fun e w' => e = .returned (.bool (decide (l = m))) ∧ ∃ n, w' = w.drewN n := by
  obtain ⟨a, cap, rfl, h1, h2, hc⟩ := h
  obtain ⟨a', cap', rfl, h1', h2', hc'⟩ := h'
  unfold maxLen at h2 h2'
  by_cases hlen : l.length = m.length
  · have HL := hid hlen
    go_enter Try.func73, Try.ntmps73
    go_wp2
    go_loopw [13] (fun i wr => ∃ k : Nat, ∃ n : Nat, k ≤ l.length ∧ wr = w.drewN n ∧ i = .int .i64 k ∧ eqB l m = eqB (l.drop k) (m.drop k)) (fun i _ => l.length - (intOf i).toNat)
    case atStart => exact ⟨0, 0, Nat.zero_le _, rfl, rfl, rfl⟩
    case round =>
      obtain ⟨k, n, hk, rfl, rfl, hr⟩ := hrel
      have HR := hid hr; clear hr
      by_cases hlt : k < l.length
      · obtain ⟨g, o, x, rfl, hk, HD, HX⟩ := ints_at hc hlt
        obtain ⟨g', o', y, rfl, hk', HD', HY⟩ := ints_at hc' (show k < m.length by omega)
        clear hc hc'
        go_wp2
        go_quiet (fail)
        go_wp2
        · have hx : (x == y) = false := bne_iff_beq_false (by assumption)
          go_ret
          exact ⟨ret_bool (by rw [← eqB_same l m HL.out, HR.out, HD.out, HD'.out, eqB_cons, hx, Bool.false_and]), _, by first | exact World.drewN_drewN _ _ _ | rfl⟩
        · have hx : (x == y) = true := bne_false_beq (by assumption)
          go_roundw
          case rel => exact ⟨k + 1, _, by omega, by first | exact World.drewN_drewN _ _ _ | rfl, by go_num, by rw [HR.out, HD.out, HD'.out, eqB_cons, hx, Bool.true_and]⟩
          case measure => simp [intOf]; omega
      · clear hc hc'
        go_wp2
        go_ret
        exact ⟨ret_bool (by rw [← eqB_same l m HL.out, HR.out, List.drop_eq_nil_of_le (by omega), eqB_nil]), _, rfl⟩
  · have hne : l ≠ m := fun e => hlen (by rw [e])
    have HN := hid hne
    clear hne hc hc'
    go_enter Try.func73, Try.ntmps73
    go_wp2
    go_ret
    exact ⟨ret_bool (by simp [HN.out]), 0, rfl⟩
theorem qInts_b (v u : Value) (l m : List Int) (w : World) (h : RInts w v l) (h' : RInts w u m) :
    Calls Try.prog 73 #[v, u] w fun e w' => e = .returned (.bool (decide (l = m))) ∧ Below w.heap.size w w' :=
  (qInts_c v u l m w h h').mono fun e w' ⟨h1, n, h2⟩ => ⟨h1, by rw [h2]; exact below_drewN (Below.refl _ _) n⟩
/-- lists that are known to be the same -/
theorem qInts_y (v u : Value) (l : List Int) (w : World) (h : RInts w v l) (h' : RInts w u l) :
    Calls Try.prog 73 #[v, u] w fun e w' => e = .returned (.bool true) ∧ Below w.heap.size w w' :=
  (qInts_b v u l l w h h').mono fun e w' ⟨h1, h2⟩ => ⟨by rw [h1]; simp, h2⟩
set_option maxHeartbeats 400000 in
theorem sameInts_c (v u : Value) (l m : List Int) (w : World) (h : RInts w v l) (h' : RInts w u m) :
    Calls Try.prog 25 #[v, u] w fun e w' => e = .returned (.bool (decide (l = m))) ∧ ∃ n, w' = w.drewN n := by
  obtain ⟨a, cap, rfl, h1, h2, hc⟩ := h
  obtain ⟨a', cap', rfl, h1', h2', hc'⟩ := h'
  unfold maxLen at h2 h2'
  by_cases hlen : l.length = m.length
  · have HL := hid hlen
    go_enter Try.func25, Try.ntmps25
    go_wp2
    go_loopw [13] (fun i wr => ∃ k : Nat, ∃ n : Nat, k ≤ l.length ∧ wr = w.drewN n ∧ i = .int .i64 k ∧ eqB l m = eqB (l.drop k) (m.drop k)) (fun i _ => l.length - (intOf i).toNat)
    case atStart => exact ⟨0, 0, Nat.zero_le _, rfl, rfl, rfl⟩
    case round =>
      obtain ⟨k, n, hk, rfl, rfl, hr⟩ := hrel
      have HR := hid hr; clear hr
      by_cases hlt : k < l.length
      · obtain ⟨g, o, x, rfl, hk, HD, HX⟩ := ints_at hc hlt
        obtain ⟨g', o', y, rfl, hk', HD', HY⟩ := ints_at hc' (show k < m.length by omega)
        clear hc hc'
        go_wp2
        go_quiet (fail)
        go_wp2
        · have hx : (x == y) = false := bne_iff_beq_false (by assumption)
          go_ret
          exact ⟨ret_bool (by rw [← eqB_same l m HL.out, HR.out, HD.out, HD'.out, eqB_cons, hx, Bool.false_and]), _, by first | exact World.drewN_drewN _ _ _ | rfl⟩
        · have hx : (x == y) = true := bne_false_beq (by assumption)
          go_roundw
          case rel => exact ⟨k + 1, _, by omega, by first | exact World.drewN_drewN _ _ _ | rfl, by go_num, by rw [HR.out, HD.out, HD'.out, eqB_cons, hx, Bool.true_and]⟩
          case measure => simp [intOf]; omega
      · clear hc hc'
        go_wp2
        go_ret
        exact ⟨ret_bool (by rw [← eqB_same l m HL.out, HR.out, List.drop_eq_nil_of_le (by omega), eqB_nil]), _, rfl⟩
  · have hne : l ≠ m := fun e => hlen (by rw [e])
    have HN := hid hne
    clear hne hc hc'
    go_enter Try.func25, Try.ntmps25
    go_wp2
    go_ret
    exact ⟨ret_bool (by simp [HN.out]), 0, rfl⟩
theorem sameInts_b (v u : Value) (l m : List Int) (w : World) (h : RInts w v l) (h' : RInts w u m) :
    Calls Try.prog 25 #[v, u] w fun e w' => e = .returned (.bool (decide (l = m))) ∧ Below w.heap.size w w' :=
  (sameInts_c v u l m w h h').mono fun e w' ⟨h1, n, h2⟩ => ⟨h1, by rw [h2]; exact below_drewN (Below.refl _ _) n⟩
/-- lists that are known to be the same -/
theorem sameInts_y (v u : Value) (l : List Int) (w : World) (h : RInts w v l) (h' : RInts w u l) :
    Calls Try.prog 25 #[v, u] w fun e w' => e = .returned (.bool true) ∧ Below w.heap.size w w' :=
  (sameInts_b v u l l w h h').mono fun e w' ⟨h1, h2⟩ => ⟨by rw [h1]; simp, h2⟩
set_option maxHeartbeats 400000 in
theorem qHas_c (v : Value) (l : List Int) (n : Int) (w : World) (h : RInts w v l) :
    Calls Try.prog 89 #[v, .int .i64 n] w fun e w' => e = .returned (.bool (hasB l n)) ∧ w = w' := by
  obtain ⟨a, cap, rfl, h1, h2, hc⟩ := h
  unfold maxLen at h2
  go_enter Try.func89, Try.ntmps89
  go_wp2
  go_loop [9] (fun i => ∃ k : Nat, k ≤ l.length ∧ i = .int .i64 k ∧ hasB l n = hasB (l.drop k) n) (fun i => l.length - (intOf i).toNat)
  case atStart => exact ⟨0, Nat.zero_le _, rfl, rfl⟩
  case round =>
    obtain ⟨k, hk, rfl, hr⟩ := hrel
    have HR := hid hr; clear hr
    by_cases hlt : k < l.length
    · obtain ⟨g, o, x, rfl, hk, HD, _⟩ := ints_at hc hlt
      clear hc
      go_wp2
      · go_ret
        exact ⟨ret_bool (by rw [HR.out, HD.out, hasB_cons]; simp [*]), rfl⟩
      · go_round
        case rel => exact ⟨k + 1, by omega, by go_num, by rw [HR.out, HD.out, hasB_cons]; simp [*]⟩
        case measure => simp [intOf]; omega
    · clear hc
      go_wp2
      go_ret
      exact ⟨ret_bool (by rw [HR.out, List.drop_eq_nil_of_le (by omega), hasB_nil]), rfl⟩
set_option maxHeartbeats 400000 in
theorem pIn_c (v : Value) (l : List Int) (n : Int) (w : World) (h : RInts w v l) :
    Calls Try.prog 32 #[v, .int .i64 n] w fun e w' => e = .returned (.bool (hasB l n)) ∧ w = w' := by
  obtain ⟨a, cap, rfl, h1, h2, hc⟩ := h
  unfold maxLen at h2
  go_enter Try.func32, Try.ntmps32
  go_wp2
  go_loop [9] (fun i => ∃ k : Nat, k ≤ l.length ∧ i = .int .i64 k ∧ hasB l n = hasB (l.drop k) n) (fun i => l.length - (intOf i).toNat)
  case atStart => exact ⟨0, Nat.zero_le _, rfl, rfl⟩
  case round =>
    obtain ⟨k, hk, rfl, hr⟩ := hrel
    have HR := hid hr; clear hr
    by_cases hlt : k < l.length
    · obtain ⟨g, o, x, rfl, hk, HD, _⟩ := ints_at hc hlt
      clear hc
      go_wp2
      · go_ret
        exact ⟨ret_bool (by rw [HR.out, HD.out, hasB_cons]; simp [*]), rfl⟩
      · go_round
        case rel => exact ⟨k + 1, by omega, by go_num, by rw [HR.out, HD.out, hasB_cons]; simp [*]⟩
        case measure => simp [intOf]; omega
    · clear hc
      go_wp2
      go_ret
      exact ⟨ret_bool (by rw [HR.out, List.drop_eq_nil_of_le (by omega), hasB_nil]), rfl⟩

/-- numbers whose sum fits -/
def smallQ (l : List Int) : Prop := l.length ≤ 1048576 ∧ ∀ x ∈ l, -1000000000000 ≤ x ∧ x ≤ 1000000000000
theorem sumQ_bound {l : List Int} (h : ∀ x ∈ l, -1000000000000 ≤ x ∧ x ≤ 1000000000000) : -1000000000000 * (l.length : Int) ≤ l.sum ∧ l.sum ≤ 1000000000000 * (l.length : Int) := by
  induction l with
  | nil => simp
  | cons x xs ih =>
    have h1 := h x (by simp)
    have h2 := ih (fun y hy => h y (by simp [hy]))
    rw [List.sum_cons, List.length_cons]; omega
theorem sumQ_succ (l : List Int) {k : Nat} (h : k < l.length) : (l.take (k + 1)).sum = (l.take k).sum + l.getD k 0 := by
  rw [List.take_succ_eq_append_getElem h, List.sum_append]; simp [List.getD, h]
set_option maxHeartbeats 1000000 in
theorem qSum_c (v : Value) (l : List Int) (w : World) (h : RInts w v l) (hs : smallQ l) :
    Calls Try.prog 72 #[v] w fun e w' => e = .returned (.int .i64 l.sum) ∧ w = w' := by
  obtain ⟨a, cap, rfl, h1, h2, hc⟩ := h
  unfold maxLen at h2
  have HS := hid hs
  have hl := hs.1
  clear hs
  go_enter Try.func72, Try.ntmps72
  go_wp2
  go_loop [3, 8] (fun s i => ∃ k : Nat, k ≤ l.length ∧ i = .int .i64 k ∧ s = .int .i64 (l.take k).sum) (fun _ i => l.length - (intOf i).toNat)
  case atStart => exact ⟨0, Nat.zero_le _, rfl, rfl⟩
  case round =>
    obtain ⟨k, hk, rfl, rfl⟩ := hrel
    by_cases hlt : k < l.length
    · obtain ⟨g, o, x, rfl, hk, HD, HX⟩ := ints_at hc hlt
      have h3 := sumQ_succ l hlt
      rw [HX.out] at h3
      have h4 := sumQ_bound (l := l.take k) (fun x hx => HS.out.2 x (List.mem_of_mem_take hx))
      have h5 := HS.out.2 x (by rw [← HX.out]; simp [List.getD, hlt])
      have h6 : (l.take k).length ≤ 1048576 := by rw [List.length_take]; omega
      obtain ⟨q, hq⟩ : ∃ q, (l.take k).sum = q := ⟨_, rfl⟩
      rw [hq] at h3 h4 ⊢
      have h7 : -1048576000000000000 ≤ q ∧ q ≤ 1048576000000000000 := by omega
      have HE := hid h3
      clear hc h3 h4 h6 hq
      go_wp2
      go_round
      case rel => exact ⟨k + 1, by omega, by go_num, by rw [HE.out]⟩
      case measure => simp [intOf]; omega
    · obtain rfl : k = l.length := by omega
      rw [List.take_length]
      clear hc
      go_wp2
      go_ret
      exact ⟨rfl, rfl⟩
set_option maxHeartbeats 1000000 in
theorem pSum_c (v : Value) (l : List Int) (w : World) (h : RInts w v l) (hs : smallQ l) :
    Calls Try.prog 26 #[v] w fun e w' => e = .returned (.int .i64 l.sum) ∧ w = w' := by
  obtain ⟨a, cap, rfl, h1, h2, hc⟩ := h
  unfold maxLen at h2
  have HS := hid hs
  have hl := hs.1
  clear hs
  go_enter Try.func26, Try.ntmps26
  go_wp2
  go_loop [3, 8] (fun s i => ∃ k : Nat, k ≤ l.length ∧ i = .int .i64 k ∧ s = .int .i64 (l.take k).sum) (fun _ i => l.length - (intOf i).toNat)
  case atStart => exact ⟨0, Nat.zero_le _, rfl, rfl⟩
  case round =>
    obtain ⟨k, hk, rfl, rfl⟩ := hrel
    by_cases hlt : k < l.length
    · obtain ⟨g, o, x, rfl, hk, HD, HX⟩ := ints_at hc hlt
      have h3 := sumQ_succ l hlt
      rw [HX.out] at h3
      have h4 := sumQ_bound (l := l.take k) (fun x hx => HS.out.2 x (List.mem_of_mem_take hx))
      have h5 := HS.out.2 x (by rw [← HX.out]; simp [List.getD, hlt])
      have h6 : (l.take k).length ≤ 1048576 := by rw [List.length_take]; omega
      obtain ⟨q, hq⟩ : ∃ q, (l.take k).sum = q := ⟨_, rfl⟩
      rw [hq] at h3 h4 ⊢
      have h7 : -1048576000000000000 ≤ q ∧ q ≤ 1048576000000000000 := by omega
      have HE := hid h3
      clear hc h3 h4 h6 hq
      go_wp2
      go_round
      case rel => exact ⟨k + 1, by omega, by go_num, by rw [HE.out]⟩
      case measure => simp [intOf]; omega
    · obtain rfl : k = l.length := by omega
      rw [List.take_length]
      clear hc
      go_wp2
      go_ret
      exact ⟨rfl, rfl⟩

end Go.Proofs.Ytlehhfmbdcmpoaa

/- What the law FnPencils needs: contracts with plain results; the plain facts. -/
namespace Go.Proofs.Ytlehhfmbdcmpoaa
open Go.RowKit
open Go.Lib (hid)

/-- a list and its twin in the same words -/
def RetL (w : World) (xs : List Int) (b : Bool) (e : Ending) (w' : World) : Prop := ∃ a n c, e = .returned (.tuple #[.slice a n c, .bool b]) ∧ RInts w' (.slice a n c) xs ∧ Below w.heap.size w w'
theorem RetIB.l {w w' : World} {p : List Int × Bool} {e : Ending} (h : RetIB w p e w') {xs : List Int} {b : Bool} (hp : p = (xs, b)) : RetL w xs b e w' := by
  subst hp
  obtain ⟨v, h1, h2, h3⟩ := h
  obtain ⟨a, n, c, rfl⟩ := h2.r.form3
  exact ⟨a, n, c, h1, h2.r, h3⟩
def RetZ (w : World) (x : Int) (b : Bool) (e : Ending) (w' : World) : Prop := e = .returned (.tuple #[.int .i64 x, .bool b]) ∧ Below w.heap.size w w'
theorem RetZB.l {w w' : World} {p : Int × Bool} {e : Ending} (h : RetZB w p e w') {x : Int} {b : Bool} (hp : p = (x, b)) : RetZ w x b e w' := by subst hp; exact h
def RetT (w : World) (x : Bool) (b : Bool) (e : Ending) (w' : World) : Prop := e = .returned (.tuple #[.bool x, .bool b]) ∧ Below w.heap.size w w'
theorem RetBB.l {w w' : World} {p : Bool × Bool} {e : Ending} (h : RetBB w p e w') {x : Bool} {b : Bool} (hp : p = (x, b)) : RetT w x b e w' := by subst hp; exact h

/-- a copy of numbers in new memory, one of them changed -/
theorem own_copy {wr w' : World} {o : Obj} {v' : Value} {n : Nat} {f : Nat → Int} (h0 : 0 < n) (hF : FInts w' wr.heap.size w'.heap.size v' (lst n f)) (hg : (wr.alloc o).grownBy w' (some wr.heap.size)) :
    ∃ g c, v' = .slice (some ⟨g, 0, none⟩) n c ∧ (∀ j, j < n → w'.cell? ⟨g, j, none⟩ = some (.int .i64 (f j)) ∧ w'.frozen? ⟨g, j, none⟩ = false) ∧
      ∀ j y, j < n → RInts (w'.setCell ⟨g, j, none⟩ (.int .i64 y)) (.slice (some ⟨g, 0, none⟩) n c) (lst n (upd f j y)) ∧ Below wr.heap.size wr (w'.setCell ⟨g, j, none⟩ (.int .i64 y)) := by
  obtain ⟨g, c, rfl, hg1, hg2⟩ := fi_form hF h0
  obtain ⟨h1, _, h2⟩ := fi_open hF
  have hb : Below wr.heap.size wr w' := ((Below.refl wr.heap.size wr).alloc (Nat.le_refl _) o).grown hg (by simp) (fun k hk => by cases hk; exact Nat.le_refl _)
  refine ⟨g, c, rfl, h1, fun j y hj => ?_⟩
  obtain ⟨h3, h4⟩ := h2 j y hj
  exact ⟨h3.r, hb.trans (h4.below (Nat.le_refl _) hb.size)⟩
/-- the first pencil: effective, small, and no chip breaks it -/
theorem pen_found {n : Nat} {L : List Lnk} (hG : GoodL n L) (hc : (grL n L hG).Conn 0) (hg : 1 - (n : Int) + edgL L ≤ 4) : ∃ k, k ≤ 5 ∧ penL n L ∈ allL (n - 1) k ∧ (brkO n L (ofL (penL n L)) 1).isNone = true := by
  have h : ∀ m k, m + k = 6 → 1 ≤ k → k ≤ 5 → ∃ j, j ≤ 5 ∧ pnN n L m k ∈ allL (n - 1) j ∧ (brkO n L (ofL (pnN n L m k)) 1).isNone = true := by
    intro m
    induction m with
    | zero => intro k h1 _ h3; omega
    | succ m ih =>
      intro k h1 h2 h3
      simp only [pnN]
      cases hO : penO n L k with
      | some e =>
        have h4 := List.mem_of_find?_eq_some hO
        have h5 := List.find?_some hO
        exact ⟨k, h3, h4, h5⟩
      | none =>
        by_cases h5 : k = 5
        · have := pen_end hG hc (k := k) (by omega) (by omega)
          rw [hO] at this; cases this
        · exact ih (k + 1) (by omega) (by omega) (by omega)
  exact h 5 1 rfl (Nat.le_refl _) (by omega)
theorem allB_of {l : List Int} {lo hi : Int} (h : ∀ x ∈ l, lo ≤ x ∧ x ≤ hi) : allB l lo hi = true := by
  unfold allB; rw [List.all_eq_true]; intro x hx; rw [inB_iff]; exact h x hx
/-- its rank is asked, and at least one -/
theorem pen_rank {n : Nat} {L : List Lnk} (t : raGB (n : Int) L = true) : ∃ r, rocB (n : Int) L (penL n L) = (r, true) ∧ 1 ≤ r := by
  obtain ⟨m, hm, hn, hG, hc, hg⟩ := graph_parts t
  obtain rfl : m = n := by omega
  obtain ⟨k, hk, he, hb⟩ := pen_found hG hc hg
  have h1 := allL_mem _ _ _ he
  have h2 := allL_sum _ _ _ he
  have hn1 := hG.n1
  have hl : (penL m L).length = m := by omega
  have ht : raAB (m : Int) L (penL m L) = true := by
    unfold raAB raCB
    rw [t, allB_of (fun x hx => by have := h1.2 x hx; omega), decide_eq_true (by omega), hl]
    simp
  have h3 := rank_one hG hc (show k ≤ 8 by omega) he
  rw [hb, decide_eq_true_iff] at h3
  refine ⟨rkZ m L (ofL (penL m L)), ?_, h3⟩
  rw [rocB_yes ht, Int.toNat_natCast]; rfl
theorem ask_parts2 {n : Nat} {L : List Lnk} {d : List Int} (t : raAB (n : Int) L d = true) (hd : d.length = n) : small8 n (fun i => d.getD i 0) ∧ sumN n (fun i => d.getD i 0) ≤ 8 := by
  obtain ⟨m, hm, hn, hl, hs, h8, _⟩ := ask_parts t
  obtain rfl : m = n := by omega
  rw [← sum_getD hd] at h8
  exact ⟨hs, h8⟩
theorem less_list {d : List Int} {n i : Nat} (hd : d.length = n) (x : Int) : d.set i x = lst n (upd (fun i => d.getD i 0) i x) := by
  conv => lhs; rw [lst_of hd]
  rw [lst_set]
theorem set_fun {d : List Int} {v : Nat} (hv : v < d.length) (x : Int) : (fun i => (d.set v x).getD i 0) = upd (fun i => d.getD i 0) v x := by
  funext i
  unfold upd
  simp only [List.getD, List.getElem?_set]
  by_cases e : v = i
  · subst e; simp [hv]
  · rw [if_neg e, if_neg (fun h => e h.symm)]
/-- a chip less: what the rank says of the base vertices -/
theorem base_ok {n : Nat} {L : List Lnk} {d : List Int} (t : raAB (n : Int) L d = true) (hd : d.length = n) {v : Nat} (hv : v < n) (t2 : raAB (n : Int) L (d.set v (d.getD v 0 - 1)) = true) {r : Int} (hr : rkZ n L (fun i => d.getD i 0) = r) :
    ∃ o, rocB (n : Int) L (d.set v (d.getD v 0 - 1)) = (o, true) ∧ basP n L (fun i => d.getD i 0) v = (o == r) ∧ o ≤ r ∧ r - 1 ≤ o := by
  obtain ⟨m, hm, hn, hl, hs, h8, hG, hc⟩ := ask_parts t
  obtain rfl : m = n := by omega
  have hls := lessAt_small t hd v
  rw [← sum_getD hd] at h8
  have h1 := rk_less hG hc hs h8 hv hls.1
  subst hr
  refine ⟨_, rocB_yes t2, ?_, ?_⟩
  · rw [Int.toNat_natCast, set_fun (by omega)]
    rfl
  · rw [Int.toNat_natCast, set_fun (by omega)]
    exact h1

end Go.Proofs.Ytlehhfmbdcmpoaa

/- What the law FnRanks needs: plain facts of ranks, and contracts in plain words. -/
namespace Go.Proofs.Ytlehhfmbdcmpoaa
open Go.RowKit
open Go.Lib (hid)

def RetZ4 (w : World) (a b c k : Int) (q : Bool) (e : Ending) (w' : World) : Prop := e = .returned (.tuple #[.int .i64 a, .int .i64 b, .int .i64 c, .int .i64 k, .bool q]) ∧ Below w.heap.size w w'
theorem retZ4_of {w w' : World} {p : Int × Int × Int × Int × Bool} {e : Ending} (h : RetZ4B w p e w') {a b c k : Int} {q : Bool} (hp : p = (a, b, c, k, q)) : RetZ4 w a b c k q e w' := by subst hp; exact h
/-- what the rank says -/
theorem rank_facts {n : Nat} {L : List Lnk} {d : List Int} (t : raAB (n : Int) L d = true) : ∃ r b, rocB (n : Int) L d = (r, true) ∧ winB n L (fun i => d.getD i 0) = decide (0 ≤ r) ∧ (0 ≤ r → r ≤ d.sum) ∧ brkB (n : Int) L d (r + 1) = (b, true) ∧ b.sum = r + 1 ∧ -1 ≤ r ∧ r ≤ 8 ∧ smallQ b := by
  obtain ⟨m, hm, hn, hd, hs, h8, hG, hc⟩ := ask_parts t
  obtain rfl : m = n := by omega
  rw [← sum_getD hd] at h8
  obtain ⟨k, hk, hr, hb, hlt⟩ := rk_spec hG hc hs h8
  have hn1 := hG.n1
  have hn8 := hG.n8
  have hin : inB ((k : Int) - 1 + 1) 0 9 = true := inB_iff.2 (by omega)
  have hbk := brkB_yes t hin
  have hkk : ((k : Int) - 1 + 1).toNat = k := by omega
  rw [Int.toNat_natCast, hkk] at hbk
  obtain ⟨e, he⟩ := Option.isSome_iff_exists.1 hb
  rw [he] at hbk
  have hmem := List.mem_of_find?_eq_some he
  have hal := allL_mem _ _ e hmem
  refine ⟨(k : Int) - 1, e, by rw [rocB_yes t, Int.toNat_natCast, hr], ?_, fun h0 => ?_, hbk, by rw [allL_sum _ _ e hmem]; omega, by omega, by omega, ⟨by omega, fun x hx => by have := hal.2 x hx; omega⟩⟩
  · have hs40 : small40 m (fun i => d.getD i 0) := fun i hi => by have := hs i hi; dsimp only at this ⊢; omega
    rw [Bool.eq_iff_iff, winB_iff hG hc hs40, decide_eq_true_iff]
    have hb0 := brk_iff hG hc hs (k := 0) (by decide)
    constructor
    · intro hw
      by_cases e0 : k = 0
      · exfalso
        subst e0
        obtain ⟨E, h1, h2, h3⟩ := hb0.1 hb
        refine h3 (hw.up (fun v hv => ?_))
        have h4 : E v = 0 := by
          have h6 : E v ≤ sumN m E := le_sumN (f := E) hv (fun u hu _ => h1 u hu)
          have h5 : sumN m E = 0 := h2
          have := h1 v hv
          omega
        omega
      · omega
    · intro h0
      have h1 := hlt 0 (by omega)
      by_cases hw : (grL m L hG).Win (fun i => d.getD i 0)
      · exact hw
      · exfalso
        rw [hb0.2 ⟨fun _ => 0, fun _ _ => Int.le_refl _, by rw [sumN_zero (fun _ _ => rfl)]; rfl, fun h => hw (h.congr (fun v _ => by dsimp only; omega))⟩] at h1
        cases h1
  · by_cases hle : (k : Int) - 1 ≤ d.sum
    · exact hle
    · exfalso
      have hsum := sum_getD hd
      by_cases hneg : d.sum < 0
      · have h1 := brk_end hG hc hs (k := 0) (by decide) (by rw [hsum]; exact hneg)
        rw [hlt 0 (by omega)] at h1; cases h1
      · have h1 := brk_end hG hc hs (k := (d.sum + 1).toNat) (by omega) (by rw [hsum]; omega)
        rw [hlt _ (by omega)] at h1; cases h1
/-- the ranks balance -/
theorem bal_facts {n : Int} {L : List Lnk} {d : List Int} {a b c k : Int} (h : balB n L d = (a, b, c, k, true)) : a - b = c - k + 1 ∧ -100 ≤ a ∧ a ≤ 100 ∧ -100 ≤ b ∧ b ≤ 100 ∧ -1000 ≤ c ∧ c ≤ 1000 ∧ -1000 ≤ k ∧ k ≤ 1000 := by
  rcases Bool.eq_false_or_eq_true (dualB n L d).2 with t | t
  · have hn := dual_small t
    obtain ⟨m, hm⟩ : ∃ m : Nat, n.toNat = m := ⟨_, rfl⟩
    rw [hm] at hn
    subst hn
    obtain ⟨hG, hc, _, _, ha, hca⟩ := dual_parts t
    rw [balB_yes t, Int.toNat_natCast] at h
    simp only [Prod.mk.injEq, and_true] at h
    obtain ⟨rfl, rfl, rfl, rfl⟩ := h
    obtain ⟨m2, hm2, _, hdl, hs8, h8, _, _⟩ := ask_parts ha
    have hmm : m2 = m := by omega
    subst hmm
    obtain ⟨ks, k8⟩ := small_of8 hca
    have hsum := sum_getD hdl
    rw [← hsum] at h8
    have hr := rr hG hc hs8 h8 ks k8 (fun v _ => rfl)
    obtain ⟨i1, _, hi1, _⟩ := rk_spec hG hc hs8 h8
    obtain ⟨i2, _, hi2, _⟩ := rk_spec hG hc ks k8
    have hed := edgL_bound hG
    have hn8 := hG.n8
    have hlow : -9 * (m2 : Int) ≤ sumN m2 (fun i => d.getD i 0) := by
      have := sumN_le (n := m2) (f := fun _ => (-9 : Int)) (g := fun i => d.getD i 0) (fun i hi => (hs8 i hi).1)
      rw [Gr.sumN_const] at this; omega
    rw [hsum] at hr h8 hlow
    omega
  · rw [balB_no t] at h; simp at h
/-- the dual's dual -/
theorem dual_dual {n : Nat} {L : List Lnk} {d : List Int} (t : (dualB (n : Int) L d).2 = true) : dualB (n : Int) L (lst n (dualF n L d)) = (d, true) ∧ d.length = n := by
  obtain ⟨hG, hc, _, _, ha, hca⟩ := dual_parts t
  obtain ⟨m2, hm2, _, hdl, _, _, _, _⟩ := ask_parts ha
  have hmm : m2 = n := by omega
  subst hmm
  have hdd : lst m2 (dualF m2 L (lst m2 (dualF m2 L d))) = d := by
    conv => rhs; rw [lst_of hdl]
    refine lst_congr (fun i hi => ?_)
    unfold dualF
    rw [lst_at _ hi]
    omega
  have hg : raGB (m2 : Int) L = true ∧ raCB (m2 : Int) d = true := by
    unfold raAB at ha
    rw [Bool.and_eq_true] at ha
    exact ha
  refine ⟨?_, hdl⟩
  rw [dualB_yes (by unfold raAB; rw [hg.1, hca]; rfl) (by rw [Int.toNat_natCast, hdd]; exact hg.2), Int.toNat_natCast, hdd]

end Go.Proofs.Ytlehhfmbdcmpoaa

/- From a law's row to its walk: arguments opened as lists of ints and lists of lists of ints. -/
namespace Go.Proofs.Ytlehhfmbdcmpoaa
open Go.ChangeShapes Go.WideShapes Go.ChangeAt Go.RowKit Go.Deep
open Go.ChangeMaps (open_string shut_string)

theorem Try.own' : ownKnob Try.prog.godebug = none := by kernel_rfl
theorem Try.laidOut' : laidOutB Try.prog = true := by kernel_rfl
theorem Try.cellsInt : Try.prog.cellsOf 3 = 1 := by kernel_rfl
theorem Try.cellsInts : Try.prog.cellsOf 23 = 1 := by kernel_rfl

/-- fits Go's int -/
def I64 (x : Int) : Prop := -9223372036854775808 ≤ x ∧ x ≤ 9223372036854775807
theorem I64_of {x : Int} (h : (Lit.int .i64 x).wf = true) : I64 x := by
  simp [Lit.wf, IntKind.min, IntKind.max, IntKind.signed, IntKind.bits] at h
  exact ⟨by omega, by omega⟩

theorem rints_row {W : World} {a : Option Addr} {len cap : Nat} {zs : List Int} (hl : len ≤ cap) (hm : cap ≤ maxLen) (hz : zs.length = cap)
    (hc : ∀ a', a = some a' → ∀ c, c < cap → W.cell? (a'.add c) = some (.int .i64 (zs.getD c 0))) (hn : a = none → cap = 0) : RInts W (.slice a len cap) (zs.take len) := by
  have hlen : (zs.take len).length = len := by rw [List.length_take]; omega
  refine ⟨a, cap, by rw [hlen], by rw [hlen]; exact hl, hm, fun i hi => ?_⟩
  rw [hlen] at hi
  cases a with
  | none => have := hn rfl; omega
  | some ad =>
    obtain ⟨b, off, rfl, hcell⟩ := _root_.Go.ints_at (zs := zs) (a := ad) (w := W) (k := .i64) (fun j hj => hc ad rfl j (by omega)) (by omega)
    refine ⟨b, off, rfl, ?_⟩
    rw [hcell i (by omega)]
    simp [List.getD, hi]

section
variable {H : Type} {enc : TypeId × Value → H} {W : World} {base : Nat}

set_option maxRecDepth 100000 in
theorem open_rints {v : Value} {d : DataW H} {p : List MemPlace} (hv : Value.okWide Try.prog W .any base 23 v) (h : DataW.Trod enc Try.prog W 0 (fun _ => true) true 23 v d p) :
    ∃ xs, RInts W v xs ∧ ∀ x ∈ xs, I64 x := by
  obtain ⟨a, len, cap, rfl⟩ := okWide_slice Try.underlying23 hv
  obtain ⟨fuel, hf⟩ := h
  rcases open_ints Try.underlying23 Try.underlying3 Try.cellsInt hf with ⟨hcs, _⟩ | ⟨x, l, c, zs, hcs, _, hl, hm, hz, _, hcell, hwz⟩
  · simp [Value.cells] at hcs
    obtain ⟨rfl, rfl, rfl⟩ := hcs
    exact ⟨[], ⟨none, 0, rfl, Nat.le_refl _, by unfold maxLen; omega, fun i hi => by simp at hi⟩, by simp⟩
  · simp [Value.cells] at hcs
    obtain ⟨rfl, rfl, rfl⟩ := hcs
    simp only [if_true] at hz
    exact ⟨zs.take len, rints_row hl hm hz (fun a' ha c hc => by cases ha; exact hcell c (by omega)) (fun e => by cases e), fun x hx => I64_of (hwz x (List.mem_of_mem_take hx))⟩

set_option maxRecDepth 100000 in
theorem open_rmat {v : Value} {d : DataW H} {p : List MemPlace} (hv : Value.okWide Try.prog W .any base 59 v) (h : DataW.Trod enc Try.prog W 0 (fun _ => true) true 59 v d p) :
    ∃ M, RMat W v M ∧ ∀ r ∈ M, ∀ x ∈ r, I64 x := by
  obtain ⟨a, len, cap, rfl⟩ := okWide_slice Try.underlying59 hv
  obtain ⟨fuel, hf⟩ := h
  rcases open_int_rows Try.underlying59 Try.underlying23 Try.underlying3 Try.cellsInts Try.cellsInt hf with ⟨hcs, _⟩ | ⟨ad, l, c, A, L, C, Z, hcs, _, hl, hm, _, hr⟩
  · simp [Value.cells] at hcs
    obtain ⟨rfl, rfl, rfl⟩ := hcs
    exact ⟨[], ⟨none, 0, rfl, Nat.le_refl _, by unfold maxLen; omega, fun i hi => by simp at hi⟩, by simp⟩
  · simp [Value.cells] at hcs
    obtain ⟨rfl, rfl, rfl⟩ := hcs
    refine ⟨(List.range len).map fun r => (Z r).take (L r), ⟨some ad, cap, by simp, by simpa using hl, hm, fun i hi => ?_⟩, fun r hr' x hx => ?_⟩
    · simp only [List.length_map, List.length_range] at hi
      obtain ⟨hc, h1, h2, h3, h4, h5, h6⟩ := hr i (by omega)
      obtain ⟨b, off, spot⟩ := ad
      have hspot : spot = none := by
        have h0 := (hr 0 (by omega)).1
        simpa [Addr.add] using World.cell?_spot h0
      subst hspot
      have e : ((⟨b, off, none⟩ : Addr).add i) = ⟨b, off + i, none⟩ := by unfold Addr.add; split <;> simp_all
      rw [e] at hc
      refine ⟨b, off, _, rfl, hc, ?_⟩
      have hg : ((List.range len).map fun r => (Z r).take (L r)).getD i [] = (Z i).take (L i) := by simp [List.getD, hi]
      rw [hg]
      exact rints_row h1 h2 h3 (fun a' ha c hcc => (h6 a' ha).2 c hcc) h5
    · obtain ⟨i, hi, rfl⟩ := List.mem_map.1 hr'
      exact I64_of ((hr i (by have := List.mem_range.1 hi; omega)).2.2.2.2.1 x (List.mem_of_mem_take hx))

theorem trod_blocks {t : TypeId} {v : Value} {d : DataW H} {p : List MemPlace} (h : DataW.Trod enc Try.prog W 0 (fun _ => true) true t v d p) : ∀ x ∈ p, x.block < W.heap.size := by
  obtain ⟨m, hm⟩ := h
  exact DataW.trod_lt m _ _ _ hm
end

end Go.Proofs.Ytlehhfmbdcmpoaa

/- From a law's row to its walk: a slice of bytes opened. -/
namespace Go.Proofs.Ytlehhfmbdcmpoaa
open Go.ChangeShapes Go.WideShapes Go.ChangeAt Go.RowKit Go.Deep
open Go.ChangeMaps (open_string shut_string)

theorem Try.cellsByte : Try.prog.cellsOf 5 = 1 := by kernel_rfl

section
variable {H : Type} {enc : TypeId × Value → H} {W : World} {base : Nat}

set_option maxRecDepth 100000 in
theorem open_rbytes {v : Value} {d : DataW H} {p : List MemPlace} (hv : Value.okWide Try.prog W .any base 35 v) (h : DataW.Trod enc Try.prog W 0 (fun _ => true) true 35 v d p) :
    ∃ n, RBytes W v n ∧ True := by
  obtain ⟨a, len, cap, rfl⟩ := okWide_slice Try.underlying35 hv
  obtain ⟨fuel, hf⟩ := h
  rcases open_slice Try.underlying35 hf with ⟨hcs, _⟩ | ⟨ad, l, c, m, n, D, Pl, hcs, _, hl, hm, hmm, _, hr⟩
  · simp [Value.cells] at hcs
    obtain ⟨rfl, rfl, rfl⟩ := hcs
    exact ⟨0, ⟨none, 0, rfl, Nat.le_refl _, by unfold maxLen; omega, fun i hi => by omega⟩, trivial⟩
  · simp [Value.cells] at hcs
    obtain ⟨rfl, rfl, rfl⟩ := hcs
    simp only [if_true] at hmm
    refine ⟨len, ⟨some ad, cap, rfl, hl, hm, fun i hi => ?_⟩, trivial⟩
    have each : ∀ i, i < len → ∃ y : Int, W.cell? (ad.add i) = some (.int .u8 y) ∧ 0 ≤ y ∧ y < 256 := by
      intro i hi
      obtain ⟨cs, h1, h2⟩ := hr i (by omega)
      rw [Try.cellsByte] at h1
      obtain ⟨_, hlen, hc⟩ := World.cells?_some h1
      obtain ⟨c0, rfl⟩ : ∃ c0, cs = [c0] := by
        match cs, hlen with
        | [c0], _ => exact ⟨c0, rfl⟩
      obtain ⟨z0, e0, _, w0⟩ := DataW.trod_int Try.underlying5 h2
      simp at e0
      subst e0
      refine ⟨z0, by simpa [Addr.add] using hc 0 (by omega), ?_⟩
      simp [Lit.wf, IntKind.min, IntKind.max, IntKind.signed, IntKind.bits] at w0
      omega
    obtain ⟨b, off, spot⟩ := ad
    obtain ⟨y, k1, k2, k3⟩ := each i hi
    have hspot : spot = none := by
      obtain ⟨y0, h0, _⟩ := each 0 (by omega)
      simpa [Addr.add] using World.cell?_spot h0
    subst hspot
    have e : ((⟨b, off, none⟩ : Addr).add i) = ⟨b, off + i, none⟩ := by unfold Addr.add; split <;> simp_all
    rw [e] at k1
    exact ⟨b, off, y, rfl, k1, k2, k3⟩
end

end Go.Proofs.Ytlehhfmbdcmpoaa

namespace Go.Proofs.Ytlehhfmbdcmpoaa
open Go.ChangeShapes Go.WideShapes Go.ChangeAt Go.RowKit
open Go.Lib (hid)

set_option maxRecDepth 100000 in
set_option maxHeartbeats 4000000 in
theorem FnRanks_c (v0 : Value) (x0 : Nat) (v1 : Value) (x1 : Nat) (w : World) (r0 : RBytes w v0 x0) (r1 : RBytes w v1 x1) :
    Calls Try.prog 7 #[v0, v1] w fun e w' => e = .returned (.bool true) ∧ Below w.heap.size w w' := by
  have R0 := hid r0
  have R1 := hid r1
  obtain ⟨a0, c0, rfl, hx0, hm0⟩ := r0.form
  obtain ⟨a1, c1, rfl, hx1, hm1⟩ := r1.form
  unfold maxLen at hm0 hm1
  clear r0 r1
  obtain ⟨z, hz⟩ : ∃ z, IntKind.i64.wrap ((x0 : Int) + (x1 : Int)) = z := ⟨_, rfl⟩
  by_cases hbig : 1048576 < z
  · go_enter Try.func7, Try.ntmps7
    go_wp2
    go_ret
    exact ⟨rfl, Below.refl _ _⟩
  go_enter Try.func7, Try.ntmps7
  go_wp2_with fail
  refine (DrawRankOfChips_c _ x0 _ R0.out).mono ?_
  rintro e w1 ⟨n, vL, L, vD, d, rfl, hn1, hn9, hll, hdl, hL, hD, hb1⟩
  have HBw1 := hid hb1
  have R1_w1 := hid (R1.out.keep hb1)
  have L_w1 := hid hL
  have D_w1 := hid hD
  obtain ⟨al, cl, rfl⟩ := hL.form
  obtain ⟨ad, nd, cd, rfl⟩ := hD.form3
  clear hb1 hL hD
  clear hz hbig
  rcases Bool.eq_false_or_eq_true (raAB n L d) with t1 | t1
  · obtain ⟨m, hm, hn, hdi, hs8, _, hG, hc⟩ := ask_parts t1
    subst hn
    obtain ⟨r, bk, hr, hw, hle, hbk, hbs, hr1, hr8, hsb⟩ := rank_facts t1
    have HR := hid hr
    have HBK := hid hbk
    have HSB := hid hsb
    have HBS := hid hbs
    have HGG := hid (raGB_good (by have h := t1; unfold raAB at h; simp only [Bool.and_eq_true] at h; exact h.1))
    have HW : Hid (∀ j, j < m → -20 ≤ d.getD j 0 ∧ d.getD j 0 ≤ 20) := fun j hj => by have := hs8 j hj; dsimp only at this; omega
    have HDL := hid hdi
    have hn8 := hG.n8
    have hqd : smallQ d := ⟨by have : d.length = m := hdi; omega, fun x hx => by
      obtain ⟨i, hi, rfl⟩ := List.getElem_of_mem hx
      have := hs8 i (by have : d.length = m := hdi; omega)
      dsimp only at this
      rw [show d.getD i 0 = d[i] by simp [List.getD, hi]] at this
      omega⟩
    have HQD := hid hqd
    have HWI := hid hw
    obtain ⟨S, hS⟩ : ∃ S, d.sum = S := ⟨_, rfl⟩
    rw [hS] at hle
    have HS := hid hS
    have f1 : IntKind.i64.wrap (r + 1) = r + 1 := IntWalk.i64_in _ (by omega)
    clear hr hbk hsb hbs hm hdi hs8 hG hc hqd hw hS t1
    go_wp2_with fail
    refine ((iRankOfChips_u (m : Int) _ L _ d _ L_w1.out D_w1.out).mono fun e w' h => h.l HR.out).mono ?_
    rintro e w2 ⟨rfl, hb2⟩
    have HBw2 := hid (HBw1.out.trans (hb2.mono HBw1.out.size))
    have R1_w2 := hid (R1_w1.out.keep hb2)
    have L_w2 := hid (L_w1.out.keep hb2)
    have D_w2 := hid (D_w1.out.keep hb2)
    clear hb2
    go_wp2_with fail
    refine ((sRankOfChips_u (m : Int) _ L _ d _ L_w2.out D_w2.out).mono fun e w' h => h.l HR.out).mono ?_
    rintro e w3 ⟨rfl, hb3⟩
    have HBw3 := hid (HBw2.out.trans (hb3.mono HBw2.out.size))
    have R1_w3 := hid (R1_w2.out.keep hb3)
    have L_w3 := hid (L_w2.out.keep hb3)
    have D_w3 := hid (D_w2.out.keep hb3)
    clear hb3
    have HDF := hid (rints_lst D_w3.out HDL.out)
    by_cases hrn : 0 ≤ r
    · have HWB : Hid (winB m L (fun i => d.getD i 0) = true) := HWI.out.trans (decide_eq_true hrn)
      have hge : decide (r ≥ 0) = true := decide_eq_true hrn
      have hgt : ¬ (r > S) := by have := hle hrn; omega
      go_wp2_with fail
      refine (iIsWinnable_y m _ _ L (fun i => d.getD i 0) _ L_w3.out HDF.out (by have := HGG.out.1; rwa [Int.toNat_natCast] at this) HGG.out.2.2.2.2 (by have := HGG.out.2.2.2.1; rwa [Int.toNat_natCast] at this) HW.out).mono ?_
      rintro e w4 ⟨rfl, hb4⟩
      have HBw4 := hid (HBw3.out.trans (hb4.mono HBw3.out.size))
      have R1_w4 := hid (R1_w3.out.keep hb4)
      have L_w4 := hid (L_w3.out.keep hb4)
      have D_w4 := hid (D_w3.out.keep hb4)
      have DF_w4 := hid (HDF.out.keep hb4)
      clear hb4
      rw [HWB.out]
      go_wp2_with fail
      refine ((iBreakingChips_u (m : Int) _ L _ d (r + 1) _ L_w4.out D_w4.out).mono fun e w' h => h.l HBK.out).mono ?_
      rintro e w5 ⟨a5, n5, c5, rfl, hp5, hb5⟩
      have HBw5 := hid (HBw4.out.trans (hb5.mono HBw4.out.size))
      have R1_w5 := hid (R1_w4.out.keep hb5)
      have L_w5 := hid (L_w4.out.keep hb5)
      have D_w5 := hid (D_w4.out.keep hb5)
      have DF_w5 := hid (DF_w4.out.keep hb5)
      have B1_w5 := hid hp5
      clear hb5 hp5
      go_wp2_with fail
      refine ((sBreakingChips_u (m : Int) _ L _ d (r + 1) _ L_w5.out D_w5.out).mono fun e w' h => h.l HBK.out).mono ?_
      rintro e w6 ⟨a6, n6, c6, rfl, hp6, hb6⟩
      have HBw6 := hid (HBw5.out.trans (hb6.mono HBw5.out.size))
      have R1_w6 := hid (R1_w5.out.keep hb6)
      have L_w6 := hid (L_w5.out.keep hb6)
      have D_w6 := hid (D_w5.out.keep hb6)
      have DF_w6 := hid (DF_w5.out.keep hb6)
      have B1_w6 := hid (B1_w5.out.keep hb6)
      have B2_w6 := hid hp6
      clear hb6 hp6
      go_wp2_with fail
      refine (qSum_c _ d _ D_w6.out HQD.out).mono ?_
      rintro e w' ⟨rfl, rfl⟩
      rw [HS.out]
      go_wp2_with fail
      refine (qInts_y _ _ bk _ B1_w6.out B2_w6.out).mono ?_
      rintro e w7 ⟨rfl, hb7⟩
      have HBw7 := hid (HBw6.out.trans (hb7.mono HBw6.out.size))
      have R1_w7 := hid (R1_w6.out.keep hb7)
      have L_w7 := hid (L_w6.out.keep hb7)
      have D_w7 := hid (D_w6.out.keep hb7)
      have DF_w7 := hid (DF_w6.out.keep hb7)
      have B1_w7 := hid (B1_w6.out.keep hb7)
      have B2_w7 := hid (B2_w6.out.keep hb7)
      clear hb7
      go_wp2_with fail
      refine (qSum_c _ bk _ B2_w7.out HSB.out).mono ?_
      rintro e w' ⟨rfl, rfl⟩
      rw [HBS.out]
      go_wp2_with fail
      refine (DrawRankBalance_c _ x1 _ R1_w7.out).mono ?_
      rintro e w8 ⟨n2, vM, M, vE, e2, rfl, hm1, hm9, hml, hel, hM, hE, hb8⟩
      have HBw8 := hid (HBw7.out.trans (hb8.mono HBw7.out.size))
      have R1_w8 := hid (R1_w7.out.keep hb8)
      have M_w8 := hid hM
      have E_w8 := hid hE
      obtain ⟨am, cm, rfl⟩ := hM.form
      obtain ⟨ae, ne, ce, rfl⟩ := hE.form3
      clear hb8 hM hE
      obtain ⟨za, zb, zc, zk, zq, hbal⟩ : ∃ a b c k q, balB n2 M e2 = (a, b, c, k, q) := ⟨_, _, _, _, _, rfl⟩
      have HBAL := hid hbal
      clear hbal
      go_wp2_with fail
      refine ((iRankBalance_u n2 _ M _ e2 _ M_w8.out E_w8.out).mono fun e w' h => retZ4_of h HBAL.out).mono ?_
      rintro e w9 ⟨rfl, hb9⟩
      have HBw9 := hid (HBw8.out.trans (hb9.mono HBw8.out.size))
      have R1_w9 := hid (R1_w8.out.keep hb9)
      have M_w9 := hid (M_w8.out.keep hb9)
      have E_w9 := hid (E_w8.out.keep hb9)
      clear hb9
      go_wp2_with fail
      refine ((sRankBalance_u n2 _ M _ e2 _ M_w9.out E_w9.out).mono fun e w' h => retZ4_of h HBAL.out).mono ?_
      rintro e w10 ⟨rfl, hb10⟩
      have HBw10 := hid (HBw9.out.trans (hb10.mono HBw9.out.size))
      have R1_w10 := hid (R1_w9.out.keep hb10)
      have M_w10 := hid (M_w9.out.keep hb10)
      have E_w10 := hid (E_w9.out.keep hb10)
      clear hb10
      cases zq
      case' true =>
        obtain ⟨hb0, hb1, hb2, hb3, hb4, hb5, hb6, hb7, hb8⟩ := bal_facts HBAL.out
        have f3 : IntKind.i64.wrap (za - zb) = za - zb := IntWalk.i64_in _ (by omega)
        have f4 : IntKind.i64.wrap (zc - zk) = zc - zk := IntWalk.i64_in _ (by omega)
        have f5 : IntKind.i64.wrap (zc - zk + 1) = zc - zk + 1 := IntWalk.i64_in _ (by omega)
        have hne : (za - zb != zc - zk + 1) = false := by rw [hb0]; simp
      all_goals
        go_wp2_with fail
        refine (DrawDualChips_c _ x1 _ R1_w10.out).mono ?_
        rintro e w11 ⟨n3, vU, U, vV, v3, rfl, hu1, hu9, hul, hvl, hU, hV, hb11⟩
        have HBw11 := hid (HBw10.out.trans (hb11.mono HBw10.out.size))
        have R1_w11 := hid (R1_w10.out.keep hb11)
        have U_w11 := hid hU
        have V_w11 := hid hV
        obtain ⟨au, cu, rfl⟩ := hU.form
        obtain ⟨av, nv, cv, rfl⟩ := hV.form3
        clear hb11 hU hV
        obtain ⟨du, db, hdu⟩ : ∃ x q, dualB n3 U v3 = (x, q) := ⟨_, _, rfl⟩
        have HDU := hid hdu
        clear hdu
        go_wp2_with fail
        refine ((iDualChips_u n3 _ U _ v3 _ U_w11.out V_w11.out).mono fun e w' h => h.l HDU.out).mono ?_
        rintro e w12 ⟨a12, n12, c12, rfl, hp12, hb12⟩
        have HBw12 := hid (HBw11.out.trans (hb12.mono HBw11.out.size))
        have R1_w12 := hid (R1_w11.out.keep hb12)
        have U_w12 := hid (U_w11.out.keep hb12)
        have V_w12 := hid (V_w11.out.keep hb12)
        have X1_w12 := hid hp12
        clear hb12 hp12
        go_wp2_with fail
        refine ((sDualChips_u n3 _ U _ v3 _ U_w12.out V_w12.out).mono fun e w' h => h.l HDU.out).mono ?_
        rintro e w13 ⟨a13, n13, c13, rfl, hp13, hb13⟩
        have HBw13 := hid (HBw12.out.trans (hb13.mono HBw12.out.size))
        have R1_w13 := hid (R1_w12.out.keep hb13)
        have U_w13 := hid (U_w12.out.keep hb13)
        have V_w13 := hid (V_w12.out.keep hb13)
        have X1_w13 := hid (X1_w12.out.keep hb13)
        have X2_w13 := hid hp13
        clear hb13 hp13
        go_wp2_with fail
        refine (DrawBreakingChips_c _ x1 _ R1_w13.out).mono ?_
        rintro e w14 ⟨n4, vP, P4, vQ, q4, k4, rfl, hp1, hp9, hP, hQ, hb14⟩
        have HBw14 := hid (HBw13.out.trans (hb14.mono HBw13.out.size))
        have U_w14 := hid (U_w13.out.keep hb14)
        have V_w14 := hid (V_w13.out.keep hb14)
        have X1_w14 := hid (X1_w13.out.keep hb14)
        have X2_w14 := hid (X2_w13.out.keep hb14)
        have P_w14 := hid hP
        have Q_w14 := hid hQ
        obtain ⟨ap, cp, rfl⟩ := hP.form
        obtain ⟨aq, nq, cq, rfl⟩ := hQ.form3
        clear hb14 hP hQ
        obtain ⟨br, bb, hbr⟩ : ∃ x q, brkB n4 P4 q4 k4 = (x, q) := ⟨_, _, rfl⟩
        have HBR := hid hbr
        clear hbr
        go_wp2_with fail
        refine ((iBreakingChips_u n4 _ P4 _ q4 k4 _ P_w14.out Q_w14.out).mono fun e w' h => h.l HBR.out).mono ?_
        rintro e w15 ⟨a15, n15, c15, rfl, hp15, hb15⟩
        have HBw15 := hid (HBw14.out.trans (hb15.mono HBw14.out.size))
        have U_w15 := hid (U_w14.out.keep hb15)
        have V_w15 := hid (V_w14.out.keep hb15)
        have X1_w15 := hid (X1_w14.out.keep hb15)
        have X2_w15 := hid (X2_w14.out.keep hb15)
        have P_w15 := hid (P_w14.out.keep hb15)
        have Q_w15 := hid (Q_w14.out.keep hb15)
        have Y1_w15 := hid hp15
        clear hb15 hp15
        go_wp2_with fail
        refine ((sBreakingChips_u n4 _ P4 _ q4 k4 _ P_w15.out Q_w15.out).mono fun e w' h => h.l HBR.out).mono ?_
        rintro e w16 ⟨a16, n16, c16, rfl, hp16, hb16⟩
        have HBw16 := hid (HBw15.out.trans (hb16.mono HBw15.out.size))
        have U_w16 := hid (U_w15.out.keep hb16)
        have V_w16 := hid (V_w15.out.keep hb16)
        have X1_w16 := hid (X1_w15.out.keep hb16)
        have X2_w16 := hid (X2_w15.out.keep hb16)
        have P_w16 := hid (P_w15.out.keep hb16)
        have Q_w16 := hid (Q_w15.out.keep hb16)
        have Y1_w16 := hid (Y1_w15.out.keep hb16)
        have Y2_w16 := hid hp16
        clear hb16 hp16
        go_wp2_with fail
        refine (qInts_y _ _ du _ X1_w16.out X2_w16.out).mono ?_
        rintro e w17 ⟨rfl, hb17⟩
        have HBw17 := hid (HBw16.out.trans (hb17.mono HBw16.out.size))
        have U_w17 := hid (U_w16.out.keep hb17)
        have V_w17 := hid (V_w16.out.keep hb17)
        have X1_w17 := hid (X1_w16.out.keep hb17)
        have X2_w17 := hid (X2_w16.out.keep hb17)
        have Y1_w17 := hid (Y1_w16.out.keep hb17)
        have Y2_w17 := hid (Y2_w16.out.keep hb17)
        clear hb17
        go_wp2_with fail
        refine (qInts_y _ _ br _ Y1_w17.out Y2_w17.out).mono ?_
        rintro e w18 ⟨rfl, hb18⟩
        have HBw18 := hid (HBw17.out.trans (hb18.mono HBw17.out.size))
        have U_w18 := hid (U_w17.out.keep hb18)
        have V_w18 := hid (V_w17.out.keep hb18)
        have X1_w18 := hid (X1_w17.out.keep hb18)
        have X2_w18 := hid (X2_w17.out.keep hb18)
        have Y1_w18 := hid (Y1_w17.out.keep hb18)
        have Y2_w18 := hid (Y2_w17.out.keep hb18)
        clear hb18
        cases db
        · go_wp2
          go_ret
          exact ⟨rfl, HBw18.out⟩
        · have hd2 : (dualB n3 U v3).2 = true := by rw [HDU.out]
          have hn3 := dual_small hd2
          obtain ⟨m3, hm3⟩ : ∃ m : Nat, n3.toNat = m := ⟨_, rfl⟩
          rw [hm3] at hn3
          subst hn3
          have hdd := (dual_dual hd2).1
          have hdx : du = lst m3 (dualF m3 U v3) := by
            obtain ⟨_, _, _, h, _⟩ := dual_parts hd2
            rw [HDU.out] at h
            exact h
          rw [← hdx] at hdd
          have HDD := hid hdd
          clear hdd hdx hd2 hm3
          go_wp2_with fail
          refine ((iDualChips_u (m3 : Int) _ U _ du _ U_w18.out X1_w18.out).mono fun e w' h => h.l HDD.out).mono ?_
          rintro e w19 ⟨a19, n19, c19, rfl, hp19, hb19⟩
          have HBw19 := hid (HBw18.out.trans (hb19.mono HBw18.out.size))
          have U_w19 := hid (U_w18.out.keep hb19)
          have V_w19 := hid (V_w18.out.keep hb19)
          have X1_w19 := hid (X1_w18.out.keep hb19)
          have Z1_w19 := hid hp19
          clear hb19 hp19
          go_wp2_with fail
          refine (qInts_y _ _ v3 _ Z1_w19.out V_w19.out).mono ?_
          rintro e w20 ⟨rfl, hb20⟩
          have HBw20 := hid (HBw19.out.trans (hb20.mono HBw19.out.size))
          have U_w20 := hid (U_w19.out.keep hb20)
          have V_w20 := hid (V_w19.out.keep hb20)
          have X1_w20 := hid (X1_w19.out.keep hb20)
          have Z1_w20 := hid (Z1_w19.out.keep hb20)
          clear hb20
          go_wp2
          go_ret
          exact ⟨rfl, HBw20.out⟩
    · have HWB : Hid (winB m L (fun i => d.getD i 0) = false) := HWI.out.trans (decide_eq_false hrn)
      have hge : decide (r ≥ 0) = false := decide_eq_false hrn
      go_wp2_with fail
      refine (iIsWinnable_y m _ _ L (fun i => d.getD i 0) _ L_w3.out HDF.out (by have := HGG.out.1; rwa [Int.toNat_natCast] at this) HGG.out.2.2.2.2 (by have := HGG.out.2.2.2.1; rwa [Int.toNat_natCast] at this) HW.out).mono ?_
      rintro e w4 ⟨rfl, hb4⟩
      have HBw4 := hid (HBw3.out.trans (hb4.mono HBw3.out.size))
      have R1_w4 := hid (R1_w3.out.keep hb4)
      have L_w4 := hid (L_w3.out.keep hb4)
      have D_w4 := hid (D_w3.out.keep hb4)
      have DF_w4 := hid (HDF.out.keep hb4)
      clear hb4
      rw [HWB.out]
      go_wp2_with fail
      refine ((iBreakingChips_u (m : Int) _ L _ d (r + 1) _ L_w4.out D_w4.out).mono fun e w' h => h.l HBK.out).mono ?_
      rintro e w5 ⟨a5, n5, c5, rfl, hp5, hb5⟩
      have HBw5 := hid (HBw4.out.trans (hb5.mono HBw4.out.size))
      have R1_w5 := hid (R1_w4.out.keep hb5)
      have L_w5 := hid (L_w4.out.keep hb5)
      have D_w5 := hid (D_w4.out.keep hb5)
      have DF_w5 := hid (DF_w4.out.keep hb5)
      have B1_w5 := hid hp5
      clear hb5 hp5
      go_wp2_with fail
      refine ((sBreakingChips_u (m : Int) _ L _ d (r + 1) _ L_w5.out D_w5.out).mono fun e w' h => h.l HBK.out).mono ?_
      rintro e w6 ⟨a6, n6, c6, rfl, hp6, hb6⟩
      have HBw6 := hid (HBw5.out.trans (hb6.mono HBw5.out.size))
      have R1_w6 := hid (R1_w5.out.keep hb6)
      have L_w6 := hid (L_w5.out.keep hb6)
      have D_w6 := hid (D_w5.out.keep hb6)
      have DF_w6 := hid (DF_w5.out.keep hb6)
      have B1_w6 := hid (B1_w5.out.keep hb6)
      have B2_w6 := hid hp6
      clear hb6 hp6
      go_wp2_with fail
      refine (qInts_y _ _ bk _ B1_w6.out B2_w6.out).mono ?_
      rintro e w7 ⟨rfl, hb7⟩
      have HBw7 := hid (HBw6.out.trans (hb7.mono HBw6.out.size))
      have R1_w7 := hid (R1_w6.out.keep hb7)
      have L_w7 := hid (L_w6.out.keep hb7)
      have D_w7 := hid (D_w6.out.keep hb7)
      have DF_w7 := hid (DF_w6.out.keep hb7)
      have B1_w7 := hid (B1_w6.out.keep hb7)
      have B2_w7 := hid (B2_w6.out.keep hb7)
      clear hb7
      go_wp2_with fail
      refine (qSum_c _ bk _ B2_w7.out HSB.out).mono ?_
      rintro e w' ⟨rfl, rfl⟩
      rw [HBS.out]
      go_wp2_with fail
      refine (DrawRankBalance_c _ x1 _ R1_w7.out).mono ?_
      rintro e w8 ⟨n2, vM, M, vE, e2, rfl, hm1, hm9, hml, hel, hM, hE, hb8⟩
      have HBw8 := hid (HBw7.out.trans (hb8.mono HBw7.out.size))
      have R1_w8 := hid (R1_w7.out.keep hb8)
      have M_w8 := hid hM
      have E_w8 := hid hE
      obtain ⟨am, cm, rfl⟩ := hM.form
      obtain ⟨ae, ne, ce, rfl⟩ := hE.form3
      clear hb8 hM hE
      obtain ⟨za, zb, zc, zk, zq, hbal⟩ : ∃ a b c k q, balB n2 M e2 = (a, b, c, k, q) := ⟨_, _, _, _, _, rfl⟩
      have HBAL := hid hbal
      clear hbal
      go_wp2_with fail
      refine ((iRankBalance_u n2 _ M _ e2 _ M_w8.out E_w8.out).mono fun e w' h => retZ4_of h HBAL.out).mono ?_
      rintro e w9 ⟨rfl, hb9⟩
      have HBw9 := hid (HBw8.out.trans (hb9.mono HBw8.out.size))
      have R1_w9 := hid (R1_w8.out.keep hb9)
      have M_w9 := hid (M_w8.out.keep hb9)
      have E_w9 := hid (E_w8.out.keep hb9)
      clear hb9
      go_wp2_with fail
      refine ((sRankBalance_u n2 _ M _ e2 _ M_w9.out E_w9.out).mono fun e w' h => retZ4_of h HBAL.out).mono ?_
      rintro e w10 ⟨rfl, hb10⟩
      have HBw10 := hid (HBw9.out.trans (hb10.mono HBw9.out.size))
      have R1_w10 := hid (R1_w9.out.keep hb10)
      have M_w10 := hid (M_w9.out.keep hb10)
      have E_w10 := hid (E_w9.out.keep hb10)
      clear hb10
      cases zq
      case' true =>
        obtain ⟨hb0, hb1, hb2, hb3, hb4, hb5, hb6, hb7, hb8⟩ := bal_facts HBAL.out
        have f3 : IntKind.i64.wrap (za - zb) = za - zb := IntWalk.i64_in _ (by omega)
        have f4 : IntKind.i64.wrap (zc - zk) = zc - zk := IntWalk.i64_in _ (by omega)
        have f5 : IntKind.i64.wrap (zc - zk + 1) = zc - zk + 1 := IntWalk.i64_in _ (by omega)
        have hne : (za - zb != zc - zk + 1) = false := by rw [hb0]; simp
      all_goals
        go_wp2_with fail
        refine (DrawDualChips_c _ x1 _ R1_w10.out).mono ?_
        rintro e w11 ⟨n3, vU, U, vV, v3, rfl, hu1, hu9, hul, hvl, hU, hV, hb11⟩
        have HBw11 := hid (HBw10.out.trans (hb11.mono HBw10.out.size))
        have R1_w11 := hid (R1_w10.out.keep hb11)
        have U_w11 := hid hU
        have V_w11 := hid hV
        obtain ⟨au, cu, rfl⟩ := hU.form
        obtain ⟨av, nv, cv, rfl⟩ := hV.form3
        clear hb11 hU hV
        obtain ⟨du, db, hdu⟩ : ∃ x q, dualB n3 U v3 = (x, q) := ⟨_, _, rfl⟩
        have HDU := hid hdu
        clear hdu
        go_wp2_with fail
        refine ((iDualChips_u n3 _ U _ v3 _ U_w11.out V_w11.out).mono fun e w' h => h.l HDU.out).mono ?_
        rintro e w12 ⟨a12, n12, c12, rfl, hp12, hb12⟩
        have HBw12 := hid (HBw11.out.trans (hb12.mono HBw11.out.size))
        have R1_w12 := hid (R1_w11.out.keep hb12)
        have U_w12 := hid (U_w11.out.keep hb12)
        have V_w12 := hid (V_w11.out.keep hb12)
        have X1_w12 := hid hp12
        clear hb12 hp12
        go_wp2_with fail
        refine ((sDualChips_u n3 _ U _ v3 _ U_w12.out V_w12.out).mono fun e w' h => h.l HDU.out).mono ?_
        rintro e w13 ⟨a13, n13, c13, rfl, hp13, hb13⟩
        have HBw13 := hid (HBw12.out.trans (hb13.mono HBw12.out.size))
        have R1_w13 := hid (R1_w12.out.keep hb13)
        have U_w13 := hid (U_w12.out.keep hb13)
        have V_w13 := hid (V_w12.out.keep hb13)
        have X1_w13 := hid (X1_w12.out.keep hb13)
        have X2_w13 := hid hp13
        clear hb13 hp13
        go_wp2_with fail
        refine (DrawBreakingChips_c _ x1 _ R1_w13.out).mono ?_
        rintro e w14 ⟨n4, vP, P4, vQ, q4, k4, rfl, hp1, hp9, hP, hQ, hb14⟩
        have HBw14 := hid (HBw13.out.trans (hb14.mono HBw13.out.size))
        have U_w14 := hid (U_w13.out.keep hb14)
        have V_w14 := hid (V_w13.out.keep hb14)
        have X1_w14 := hid (X1_w13.out.keep hb14)
        have X2_w14 := hid (X2_w13.out.keep hb14)
        have P_w14 := hid hP
        have Q_w14 := hid hQ
        obtain ⟨ap, cp, rfl⟩ := hP.form
        obtain ⟨aq, nq, cq, rfl⟩ := hQ.form3
        clear hb14 hP hQ
        obtain ⟨br, bb, hbr⟩ : ∃ x q, brkB n4 P4 q4 k4 = (x, q) := ⟨_, _, rfl⟩
        have HBR := hid hbr
        clear hbr
        go_wp2_with fail
        refine ((iBreakingChips_u n4 _ P4 _ q4 k4 _ P_w14.out Q_w14.out).mono fun e w' h => h.l HBR.out).mono ?_
        rintro e w15 ⟨a15, n15, c15, rfl, hp15, hb15⟩
        have HBw15 := hid (HBw14.out.trans (hb15.mono HBw14.out.size))
        have U_w15 := hid (U_w14.out.keep hb15)
        have V_w15 := hid (V_w14.out.keep hb15)
        have X1_w15 := hid (X1_w14.out.keep hb15)
        have X2_w15 := hid (X2_w14.out.keep hb15)
        have P_w15 := hid (P_w14.out.keep hb15)
        have Q_w15 := hid (Q_w14.out.keep hb15)
        have Y1_w15 := hid hp15
        clear hb15 hp15
        go_wp2_with fail
        refine ((sBreakingChips_u n4 _ P4 _ q4 k4 _ P_w15.out Q_w15.out).mono fun e w' h => h.l HBR.out).mono ?_
        rintro e w16 ⟨a16, n16, c16, rfl, hp16, hb16⟩
        have HBw16 := hid (HBw15.out.trans (hb16.mono HBw15.out.size))
        have U_w16 := hid (U_w15.out.keep hb16)
        have V_w16 := hid (V_w15.out.keep hb16)
        have X1_w16 := hid (X1_w15.out.keep hb16)
        have X2_w16 := hid (X2_w15.out.keep hb16)
        have P_w16 := hid (P_w15.out.keep hb16)
        have Q_w16 := hid (Q_w15.out.keep hb16)
        have Y1_w16 := hid (Y1_w15.out.keep hb16)
        have Y2_w16 := hid hp16
        clear hb16 hp16
        go_wp2_with fail
        refine (qInts_y _ _ du _ X1_w16.out X2_w16.out).mono ?_
        rintro e w17 ⟨rfl, hb17⟩
        have HBw17 := hid (HBw16.out.trans (hb17.mono HBw16.out.size))
        have U_w17 := hid (U_w16.out.keep hb17)
        have V_w17 := hid (V_w16.out.keep hb17)
        have X1_w17 := hid (X1_w16.out.keep hb17)
        have X2_w17 := hid (X2_w16.out.keep hb17)
        have Y1_w17 := hid (Y1_w16.out.keep hb17)
        have Y2_w17 := hid (Y2_w16.out.keep hb17)
        clear hb17
        go_wp2_with fail
        refine (qInts_y _ _ br _ Y1_w17.out Y2_w17.out).mono ?_
        rintro e w18 ⟨rfl, hb18⟩
        have HBw18 := hid (HBw17.out.trans (hb18.mono HBw17.out.size))
        have U_w18 := hid (U_w17.out.keep hb18)
        have V_w18 := hid (V_w17.out.keep hb18)
        have X1_w18 := hid (X1_w17.out.keep hb18)
        have X2_w18 := hid (X2_w17.out.keep hb18)
        have Y1_w18 := hid (Y1_w17.out.keep hb18)
        have Y2_w18 := hid (Y2_w17.out.keep hb18)
        clear hb18
        cases db
        · go_wp2
          go_ret
          exact ⟨rfl, HBw18.out⟩
        · have hd2 : (dualB n3 U v3).2 = true := by rw [HDU.out]
          have hn3 := dual_small hd2
          obtain ⟨m3, hm3⟩ : ∃ m : Nat, n3.toNat = m := ⟨_, rfl⟩
          rw [hm3] at hn3
          subst hn3
          have hdd := (dual_dual hd2).1
          have hdx : du = lst m3 (dualF m3 U v3) := by
            obtain ⟨_, _, _, h, _⟩ := dual_parts hd2
            rw [HDU.out] at h
            exact h
          rw [← hdx] at hdd
          have HDD := hid hdd
          clear hdd hdx hd2 hm3
          go_wp2_with fail
          refine ((iDualChips_u (m3 : Int) _ U _ du _ U_w18.out X1_w18.out).mono fun e w' h => h.l HDD.out).mono ?_
          rintro e w19 ⟨a19, n19, c19, rfl, hp19, hb19⟩
          have HBw19 := hid (HBw18.out.trans (hb19.mono HBw18.out.size))
          have U_w19 := hid (U_w18.out.keep hb19)
          have V_w19 := hid (V_w18.out.keep hb19)
          have X1_w19 := hid (X1_w18.out.keep hb19)
          have Z1_w19 := hid hp19
          clear hb19 hp19
          go_wp2_with fail
          refine (qInts_y _ _ v3 _ Z1_w19.out V_w19.out).mono ?_
          rintro e w20 ⟨rfl, hb20⟩
          have HBw20 := hid (HBw19.out.trans (hb20.mono HBw19.out.size))
          have U_w20 := hid (U_w19.out.keep hb20)
          have V_w20 := hid (V_w19.out.keep hb20)
          have X1_w20 := hid (X1_w19.out.keep hb20)
          have Z1_w20 := hid (Z1_w19.out.keep hb20)
          clear hb20
          go_wp2
          go_ret
          exact ⟨rfl, HBw20.out⟩
  · have HR := hid (rocB_no t1)
    clear t1
    go_wp2_with fail
    refine ((iRankOfChips_u n _ L _ d _ L_w1.out D_w1.out).mono fun e w' h => h.l HR.out).mono ?_
    rintro e w2 ⟨rfl, hb2⟩
    have HBw2 := hid (HBw1.out.trans (hb2.mono HBw1.out.size))
    have R1_w2 := hid (R1_w1.out.keep hb2)
    have L_w2 := hid (L_w1.out.keep hb2)
    have D_w2 := hid (D_w1.out.keep hb2)
    clear hb2
    go_wp2_with fail
    refine ((sRankOfChips_u n _ L _ d _ L_w2.out D_w2.out).mono fun e w' h => h.l HR.out).mono ?_
    rintro e w3 ⟨rfl, hb3⟩
    have HBw3 := hid (HBw2.out.trans (hb3.mono HBw2.out.size))
    have R1_w3 := hid (R1_w2.out.keep hb3)
    have L_w3 := hid (L_w2.out.keep hb3)
    have D_w3 := hid (D_w2.out.keep hb3)
    clear hb3
    go_wp2_with fail
    refine (DrawRankBalance_c _ x1 _ R1_w3.out).mono ?_
    rintro e w4 ⟨n2, vM, M, vE, e2, rfl, hm1, hm9, hml, hel, hM, hE, hb4⟩
    have HBw4 := hid (HBw3.out.trans (hb4.mono HBw3.out.size))
    have R1_w4 := hid (R1_w3.out.keep hb4)
    have M_w4 := hid hM
    have E_w4 := hid hE
    obtain ⟨am, cm, rfl⟩ := hM.form
    obtain ⟨ae, ne, ce, rfl⟩ := hE.form3
    clear hb4 hM hE
    obtain ⟨za, zb, zc, zk, zq, hbal⟩ : ∃ a b c k q, balB n2 M e2 = (a, b, c, k, q) := ⟨_, _, _, _, _, rfl⟩
    have HBAL := hid hbal
    clear hbal
    go_wp2_with fail
    refine ((iRankBalance_u n2 _ M _ e2 _ M_w4.out E_w4.out).mono fun e w' h => retZ4_of h HBAL.out).mono ?_
    rintro e w5 ⟨rfl, hb5⟩
    have HBw5 := hid (HBw4.out.trans (hb5.mono HBw4.out.size))
    have R1_w5 := hid (R1_w4.out.keep hb5)
    have M_w5 := hid (M_w4.out.keep hb5)
    have E_w5 := hid (E_w4.out.keep hb5)
    clear hb5
    go_wp2_with fail
    refine ((sRankBalance_u n2 _ M _ e2 _ M_w5.out E_w5.out).mono fun e w' h => retZ4_of h HBAL.out).mono ?_
    rintro e w6 ⟨rfl, hb6⟩
    have HBw6 := hid (HBw5.out.trans (hb6.mono HBw5.out.size))
    have R1_w6 := hid (R1_w5.out.keep hb6)
    have M_w6 := hid (M_w5.out.keep hb6)
    have E_w6 := hid (E_w5.out.keep hb6)
    clear hb6
    cases zq
    case' true =>
      obtain ⟨hb0, hb1, hb2, hb3, hb4, hb5, hb6, hb7, hb8⟩ := bal_facts HBAL.out
      have f3 : IntKind.i64.wrap (za - zb) = za - zb := IntWalk.i64_in _ (by omega)
      have f4 : IntKind.i64.wrap (zc - zk) = zc - zk := IntWalk.i64_in _ (by omega)
      have f5 : IntKind.i64.wrap (zc - zk + 1) = zc - zk + 1 := IntWalk.i64_in _ (by omega)
      have hne : (za - zb != zc - zk + 1) = false := by rw [hb0]; simp
    all_goals
      go_wp2_with fail
      refine (DrawDualChips_c _ x1 _ R1_w6.out).mono ?_
      rintro e w7 ⟨n3, vU, U, vV, v3, rfl, hu1, hu9, hul, hvl, hU, hV, hb7⟩
      have HBw7 := hid (HBw6.out.trans (hb7.mono HBw6.out.size))
      have R1_w7 := hid (R1_w6.out.keep hb7)
      have U_w7 := hid hU
      have V_w7 := hid hV
      obtain ⟨au, cu, rfl⟩ := hU.form
      obtain ⟨av, nv, cv, rfl⟩ := hV.form3
      clear hb7 hU hV
      obtain ⟨du, db, hdu⟩ : ∃ x q, dualB n3 U v3 = (x, q) := ⟨_, _, rfl⟩
      have HDU := hid hdu
      clear hdu
      go_wp2_with fail
      refine ((iDualChips_u n3 _ U _ v3 _ U_w7.out V_w7.out).mono fun e w' h => h.l HDU.out).mono ?_
      rintro e w8 ⟨a8, n8, c8, rfl, hp8, hb8⟩
      have HBw8 := hid (HBw7.out.trans (hb8.mono HBw7.out.size))
      have R1_w8 := hid (R1_w7.out.keep hb8)
      have U_w8 := hid (U_w7.out.keep hb8)
      have V_w8 := hid (V_w7.out.keep hb8)
      have X1_w8 := hid hp8
      clear hb8 hp8
      go_wp2_with fail
      refine ((sDualChips_u n3 _ U _ v3 _ U_w8.out V_w8.out).mono fun e w' h => h.l HDU.out).mono ?_
      rintro e w9 ⟨a9, n9, c9, rfl, hp9, hb9⟩
      have HBw9 := hid (HBw8.out.trans (hb9.mono HBw8.out.size))
      have R1_w9 := hid (R1_w8.out.keep hb9)
      have U_w9 := hid (U_w8.out.keep hb9)
      have V_w9 := hid (V_w8.out.keep hb9)
      have X1_w9 := hid (X1_w8.out.keep hb9)
      have X2_w9 := hid hp9
      clear hb9 hp9
      go_wp2_with fail
      refine (DrawBreakingChips_c _ x1 _ R1_w9.out).mono ?_
      rintro e w10 ⟨n4, vP, P4, vQ, q4, k4, rfl, hp1, hp9, hP, hQ, hb10⟩
      have HBw10 := hid (HBw9.out.trans (hb10.mono HBw9.out.size))
      have U_w10 := hid (U_w9.out.keep hb10)
      have V_w10 := hid (V_w9.out.keep hb10)
      have X1_w10 := hid (X1_w9.out.keep hb10)
      have X2_w10 := hid (X2_w9.out.keep hb10)
      have P_w10 := hid hP
      have Q_w10 := hid hQ
      obtain ⟨ap, cp, rfl⟩ := hP.form
      obtain ⟨aq, nq, cq, rfl⟩ := hQ.form3
      clear hb10 hP hQ
      obtain ⟨br, bb, hbr⟩ : ∃ x q, brkB n4 P4 q4 k4 = (x, q) := ⟨_, _, rfl⟩
      have HBR := hid hbr
      clear hbr
      go_wp2_with fail
      refine ((iBreakingChips_u n4 _ P4 _ q4 k4 _ P_w10.out Q_w10.out).mono fun e w' h => h.l HBR.out).mono ?_
      rintro e w11 ⟨a11, n11, c11, rfl, hp11, hb11⟩
      have HBw11 := hid (HBw10.out.trans (hb11.mono HBw10.out.size))
      have U_w11 := hid (U_w10.out.keep hb11)
      have V_w11 := hid (V_w10.out.keep hb11)
      have X1_w11 := hid (X1_w10.out.keep hb11)
      have X2_w11 := hid (X2_w10.out.keep hb11)
      have P_w11 := hid (P_w10.out.keep hb11)
      have Q_w11 := hid (Q_w10.out.keep hb11)
      have Y1_w11 := hid hp11
      clear hb11 hp11
      go_wp2_with fail
      refine ((sBreakingChips_u n4 _ P4 _ q4 k4 _ P_w11.out Q_w11.out).mono fun e w' h => h.l HBR.out).mono ?_
      rintro e w12 ⟨a12, n12, c12, rfl, hp12, hb12⟩
      have HBw12 := hid (HBw11.out.trans (hb12.mono HBw11.out.size))
      have U_w12 := hid (U_w11.out.keep hb12)
      have V_w12 := hid (V_w11.out.keep hb12)
      have X1_w12 := hid (X1_w11.out.keep hb12)
      have X2_w12 := hid (X2_w11.out.keep hb12)
      have P_w12 := hid (P_w11.out.keep hb12)
      have Q_w12 := hid (Q_w11.out.keep hb12)
      have Y1_w12 := hid (Y1_w11.out.keep hb12)
      have Y2_w12 := hid hp12
      clear hb12 hp12
      go_wp2_with fail
      refine (qInts_y _ _ du _ X1_w12.out X2_w12.out).mono ?_
      rintro e w13 ⟨rfl, hb13⟩
      have HBw13 := hid (HBw12.out.trans (hb13.mono HBw12.out.size))
      have U_w13 := hid (U_w12.out.keep hb13)
      have V_w13 := hid (V_w12.out.keep hb13)
      have X1_w13 := hid (X1_w12.out.keep hb13)
      have X2_w13 := hid (X2_w12.out.keep hb13)
      have Y1_w13 := hid (Y1_w12.out.keep hb13)
      have Y2_w13 := hid (Y2_w12.out.keep hb13)
      clear hb13
      go_wp2_with fail
      refine (qInts_y _ _ br _ Y1_w13.out Y2_w13.out).mono ?_
      rintro e w14 ⟨rfl, hb14⟩
      have HBw14 := hid (HBw13.out.trans (hb14.mono HBw13.out.size))
      have U_w14 := hid (U_w13.out.keep hb14)
      have V_w14 := hid (V_w13.out.keep hb14)
      have X1_w14 := hid (X1_w13.out.keep hb14)
      have X2_w14 := hid (X2_w13.out.keep hb14)
      have Y1_w14 := hid (Y1_w13.out.keep hb14)
      have Y2_w14 := hid (Y2_w13.out.keep hb14)
      clear hb14
      cases db
      · go_wp2
        go_ret
        exact ⟨rfl, HBw14.out⟩
      · have hd2 : (dualB n3 U v3).2 = true := by rw [HDU.out]
        have hn3 := dual_small hd2
        obtain ⟨m3, hm3⟩ : ∃ m : Nat, n3.toNat = m := ⟨_, rfl⟩
        rw [hm3] at hn3
        subst hn3
        have hdd := (dual_dual hd2).1
        have hdx : du = lst m3 (dualF m3 U v3) := by
          obtain ⟨_, _, _, h, _⟩ := dual_parts hd2
          rw [HDU.out] at h
          exact h
        rw [← hdx] at hdd
        have HDD := hid hdd
        clear hdd hdx hd2 hm3
        go_wp2_with fail
        refine ((iDualChips_u (m3 : Int) _ U _ du _ U_w14.out X1_w14.out).mono fun e w' h => h.l HDD.out).mono ?_
        rintro e w15 ⟨a15, n15, c15, rfl, hp15, hb15⟩
        have HBw15 := hid (HBw14.out.trans (hb15.mono HBw14.out.size))
        have U_w15 := hid (U_w14.out.keep hb15)
        have V_w15 := hid (V_w14.out.keep hb15)
        have X1_w15 := hid (X1_w14.out.keep hb15)
        have Z1_w15 := hid hp15
        clear hb15 hp15
        go_wp2_with fail
        refine (qInts_y _ _ v3 _ Z1_w15.out V_w15.out).mono ?_
        rintro e w16 ⟨rfl, hb16⟩
        have HBw16 := hid (HBw15.out.trans (hb16.mono HBw15.out.size))
        have U_w16 := hid (U_w15.out.keep hb16)
        have V_w16 := hid (V_w15.out.keep hb16)
        have X1_w16 := hid (X1_w15.out.keep hb16)
        have Z1_w16 := hid (Z1_w15.out.keep hb16)
        clear hb16
        go_wp2
        go_ret
        exact ⟨rfl, HBw16.out⟩

set_option maxRecDepth 100000 in
theorem fnRanks_lifted (os : Os) (started : os.Started) (H : Type) (enc : TypeId × Value → H) :
    ReturnsInHanded {} Try.checked os 7 .any (Rows.fnRanksSpec.pre6 enc Try.prog Try.f7 Rows.fnRanksRow.domain false) (Rows.fnRanksSpec.post enc Try.prog Try.f7 false true false false) := by
  refine returnsInHanded_of_change (C := Try.checked) Try.own' started (by kernel_rfl) Try.func7
    (ChangeSpec.witness6 (enc := enc) (C := Try.checked) false ⟨#[], #[.slice none 0 0, .slice none 0 0], []⟩ 8 (by kernel_rfl) (by kernel_rfl) (by kernel_rfl) (by kernel_rfl)) ?_
  intro W base args ds gs before hval0 hW hcnd _
  have hval : ∀ (j : Nat) t v, Try.f7.params[j]? = some t → args[j]? = some v → Value.okWide Try.prog W .any base t v := hval0
  have hW' := hW
  obtain ⟨p, q, hA0, hV, rfl, hfz, hnd⟩ := hW
  have hA : DataW.TrodAll enc Try.prog W 0 (fun _ => true) true Try.f7.params.toList args.toList ds p := hA0
  rw [Try.params7] at hA hval
  obtain ⟨v0, vs0, d0, ds0, p0, q0, hargs, rfl, rfl, h0, t0⟩ := trodAll_cons hA
  obtain ⟨v1, vs1, d1, ds1, p1, q1, rfl, rfl, rfl, h1, t1⟩ := trodAll_cons t0
  obtain ⟨rfl, rfl, rfl⟩ := trodAll_nil t1
  obtain rfl : args = #[v0, v1] := by cases args; simp_all
  obtain ⟨rfl, rfl⟩ := trodVars_none hV
  have k0 := h0
  have lt0 := trod_blocks k0
  obtain ⟨x0, r0, i0⟩ := open_rbytes (hval 0 35 v0 rfl rfl) h0
  have k1 := h1
  have lt1 := trod_blocks k1
  obtain ⟨x1, r1, i1⟩ := open_rbytes (hval 1 35 v1 rfl rfl) h1
  clear hA0 hval0
  refine (FnRanks_c v0 x0 v1 x1 W r0 r1).mono fun e W' ⟨he, bel⟩ => ?_
  subst he
  exact ⟨_, rfl, _, _, _, [], _, [], hW', trodAll_mk1 (shut_bool Try.underlying4 _), (trodAll_cons_mk (Below.trod Try.laidOut' (by kernel_rfl) (of_decide_eq_true (by kernel_rfl)) k0 bel lt0) (trodAll_cons_mk (Below.trod Try.laidOut' (by kernel_rfl) (of_decide_eq_true (by kernel_rfl)) k1 bel lt1) trodAll_mk0)), rfl, bel.frame _, fun h => by cases h⟩

theorem fnRanks_holds : Rows.FnRanksSaid :=
  OpenClaim.holds_of_wide 7 Try.f7 rfl rfl rfl rfl rfl rfl rfl ⟨rfl, rfl, rfl, rfl, rfl⟩ rfl rfl rfl rfl rfl (by kernel_rfl) Try.func7 (by kernel_rfl)
    (of_decide_eq_true (by kernel_rfl)) (by unfold Func.isWrapper; first | (rw [if_pos (by decide +kernel)]; kernel_rfl) | (rw [if_neg (by decide +kernel)]; exact ⟨rfl, rfl⟩))
    (fun os started H enc _ => fnRanks_lifted os started H enc)

end Go.Proofs.Ytlehhfmbdcmpoaa

