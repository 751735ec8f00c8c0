/- The first effective divisor of a degree that breaks a divisor: the program. -/
import Derived.Test.YtlehhfmbdcmpoaaChips
namespace Go.Proofs.Ytlehhfmbdcmpoaa
open Go.RowKit
open Go.Lib (hid)

/-- the visitor's box, block wp.heap.size, holds what was found; the rest below it is as it was -/
def VFnd (wp : World) (s : Option (List Int)) (w : World) (D : Nat → Prop) : Prop :=
  Below wp.heap.size wp w ∧ wp.heap.size + 1 ≤ w.heap.size ∧ ∃ lv, Boxed w wp.heap.size 23 lv ∧ (∀ b, D b ↔ b = wp.heap.size ∨ lv.ownBlock = some b) ∧ FInts w (wp.heap.size + 1) w.heap.size lv (s.getD [])
theorem VFnd.frame {wp : World} {s : Option (List Int)} {w w' : World} {D : Nat → Prop} (h : VFnd wp s w D) (hk : KeepOn (fun b => b < wp.heap.size + 1 ∨ D b) w w') : VFnd wp s w' D := by
  obtain ⟨h1, h2, lv, h3, h4, h5⟩ := h
  refine ⟨h1.trans (hk.below (fun b hb => .inl (by omega)) (by omega)), Nat.le_trans h2 hk.size, lv, (hk.block _ h3.lt (.inl (by omega))).trans h3, h4, fints_new (hi := w.heap.size) ⟨own_same h5.1 (fun g hg => hk.block g (h5.1.lt g hg).2 (.inr ((h4 g).2 (.inr hg)))), h5.2⟩⟩
/-- what is left of a divisor can be won -/
noncomputable def okW (n : Nat) (L : List Lnk) (f : Nat → Int) (_ : Option (List Int)) (e : List Int) : Bool := winB n L (fun i => f i - e.getD i 0)
noncomputable def stepW (n : Nat) (L : List Lnk) (f : Nat → Int) (s : Option (List Int)) (e : List Int) : Option (List Int) := if winB n L (fun i => f i - e.getD i 0) then s else some e
theorem vis_findp (p : List Int → Bool) (l : List (List Int)) : visL (fun (_ : Option (List Int)) e => p e) (fun s e => if p e then s else some e) l none = ((l.find? (fun e => !p e)).isNone, l.find? (fun e => !p e)) := by
  induction l with
  | nil => rfl
  | cons x xs ih =>
    cases h : p x with
    | true => simp [visL, h, ih]
    | false => simp [visL, h]
theorem vis_find (n : Nat) (L : List Lnk) (f : Nat → Int) (l : List (List Int)) : visL (okW n L f) (stepW n L f) l none = ((l.find? (fun e => !winB n L (fun i => f i - e.getD i 0))).isNone, l.find? (fun e => !winB n L (fun i => f i - e.getD i 0))) :=
  vis_findp (fun e => winB n L (fun i => f i - e.getD i 0)) l
/-- a list that is laid there: its length, its numbers -/
def preE (n k : Nat) (e : List Int) : Prop := e.length = n ∧ ∀ x ∈ e, 0 ≤ x ∧ x ≤ (k : Int)

set_option maxRecDepth 100000 in
set_option maxHeartbeats 2000000 in
theorem breakF_c (n k : Nat) (pv dv : Value) (L : List Lnk) (f : Nat → Int) (hG : GoodL n L) (hc : (grL n L hG).Conn 0) (hs : small8 n f) (hk : k ≤ 15) (b : Nat) (wp w : World) (D : Nat → Prop) (s : Option (List Int)) (hbp : Boxed wp b 81 pv) (hbd : Boxed wp (b + 1) 23 dv) (hp : RG wp pv n L) (hd : RInts wp dv (lst n f))
    (hV : VFnd wp s w D) (v : Value) (e : List Int) (hl : RInts w v e) (he : preE n k e) :
    Calls Try.prog 197 (#[v] ++ #[.pointer (some ⟨b, 0, none⟩), .pointer (some ⟨b + 1, 0, none⟩), .pointer (some ⟨wp.heap.size, 0, none⟩)]) w (RetV (VFnd wp) D w (okW n L f s e) (stepW n L f s e)) := by
  show Calls Try.prog 197 #[v, .pointer (some ⟨b, 0, none⟩), .pointer (some ⟨b + 1, 0, none⟩), .pointer (some ⟨wp.heap.size, 0, none⟩)] w _
  have hn1 := hG.n1
  have hn8 := hG.n8
  have HV := hid hV
  obtain ⟨hb, hsz, lv, hbx, hDD, hF0⟩ := hV
  have HB0 := hid hb
  have HDD := hid hDD
  have HBX := hid hbx
  have HSZ := hid hsz
  have HP := hid (hp.keep hb)
  have HD := hid (hd.keep hb)
  have HL := hid hl
  have HRL := hid (rints_lst hl he.1)
  have HSM := hid (small_sub hs hk he.2)
  have hn0 : 0 < n := hn1
  have hn9 : n ≤ 1000 := by omega
  have BF : ∀ i, i < n → -10000 ≤ f i ∧ f i ≤ 10000 := fun i hi => by have := hs i hi; omega
  have BG : ∀ i, i < n → -10000 ≤ e.getD i 0 ∧ e.getD i 0 ≤ 10000 := fun i _ => by have := small_less hk he.2 i; omega
  have HBFG := hid (And.intro BF BG)
  have e0 := (hb.cell (p := ⟨b, 0, none⟩) (cell_lt hbp.cell)).trans hbp.cell
  have e1 := (hb.cell (p := ⟨b + 1, 0, none⟩) (cell_lt hbd.cell)).trans hbd.cell
  have HE0 := hid e0
  have HEL := hid he.1
  obtain ⟨gp, rfl⟩ := hp.form
  obtain ⟨gd, od, cd, rfl, hcd1, hcd2, _⟩ := ri_open hd (by omega)
  obtain ⟨ae, ce, rfl, _, _, _⟩ := hl
  obtain ⟨ne, hne⟩ : ∃ ne, e.length = ne := ⟨_, rfl⟩
  rw [hne] at HL HRL ⊢
  have HDA : Hid (RInts w.drew (.slice (some ⟨gd, od, none⟩) n cd) (lst n f)) := HD.out
  have HRA : Hid (RInts w.drew (.slice ae ne ce) (lst n (fun i => e.getD i 0))) := HRL.out
  obtain ⟨win, hwin⟩ : ∃ win, winB n L (fun i => f i - e.getD i 0) = win := ⟨_, rfl⟩
  have hok : okW n L f s e = win := hwin
  have hst : stepW n L f s e = if win then s else some e := by unfold stepW; rw [hwin]
  obtain ⟨st, hse⟩ : ∃ st, (if win then s else some e) = st := ⟨_, rfl⟩
  rw [hok, hst, hse]
  have HST := hid hse
  have HW := hid hwin
  clear BF BG
  clear hb hDD hbx hF0 hbp hbd hsz hp hd he hne hwin hok hst hs hse
  go_enter Try.func197, Try.ntmps197
  go_wp2
  go_region_with (first
    | (go_at_call 96; (with_reducible refine (less_c n _ _ f (fun i => e.getD i 0) _ HDA.out HRA.out hn0 hn9 HBFG.out.1 HBFG.out.2).mono ?_); rintro e3 w1 ⟨u1, rfl, hF1, hb1⟩; have e4 := ((below_of_drew hb1).cell (p := ⟨b, 0, none⟩) (cell_lt HE0.out)).trans HE0.out; have HP1 := hid (HP.out.keep (below_of_drew hb1)); have HB1 : Hid (Below w.heap.size w w1) := below_of_drew hb1; have HF1 : Hid (RInts w1 u1 (lst n (fun i => f i - e.getD i 0))) := hF1.r; obtain ⟨a1, m1, k1, rfl⟩ := hF1.form3; clear hF1 hb1)
    | (go_at_call 156; (with_reducible refine (isWinnable_c n _ _ L (fun i => f i - e.getD i 0) _ HP1.out hG hc HF1.out HSM.out).mono ?_); rintro e5 w2 ⟨rfl, hb2⟩; have HB2 := hid (HB1.out.trans (hb2.mono HB1.out.size)); clear hb2; rw [HW.out]))
  all_goals clear HDA HRA
  all_goals
    cases win with
    | true =>
      have HS2 : Hid (s = st) := by show _ = _; rw [← HST.out, if_pos rfl]
      go_wp2
      go_ret
      exact ⟨D, rfl, by rw [← HS2.out]; exact HV.out.frame (KeepOn.of_below HB2.out), fun c hc => ⟨by
        rcases (HDD.out c).1 hc with h1 | h1
        · have := HSZ.out; have := HB2.out.size; omega
        · obtain ⟨_, _, lv', hb', hd', hf'⟩ := HV.out
          have : lv' = lv := by have := hb'.cell.symm.trans HBX.out.cell; simpa using this
          subst this
          have := (hf'.1.lt c h1).2; have := HB2.out.size; omega, .inl hc⟩, KeepOn.of_below HB2.out⟩
    | false =>
      have HS2 : Hid (some e = st) := by show _ = _; rw [← HST.out, if_neg (by decide)]
      have hel : 0 < e.length := by rw [HEL.out]; omega
      have hel2 : e.length ≤ 1048576 := by rw [HEL.out]; omega
      go_wp2_with fail
      refine (clone_c _ e _ (HL.out.keep HB2.out) hel2).mono ?_
      rintro e7 w3 ⟨u3, rfl, hF3, hb3⟩
      have hB3 := HB2.out.trans (hb3.mono HB2.out.size)
      have hbx3 : Boxed w3 wp.heap.size 23 lv := (hB3.block _ HBX.out.lt).trans HBX.out
      have e5 := hbx3.cell
      have f5 := hbx3.frozen
      obtain ⟨g3, c3, rfl⟩ := fints_pos hF3 hel
      have hg3 : w.heap.size ≤ g3 ∧ g3 < w3.heap.size := by have := hF3.1.lt g3 rfl; have := HB2.out.size; omega
      obtain ⟨ln, hln⟩ : ∃ ln, e.length = ln := ⟨_, rfl⟩
      rw [hln] at hF3
      have hVn : VFnd wp (some e) (w3.setCell ⟨wp.heap.size, 0, none⟩ (.slice (some ⟨g3, 0, none⟩) ln c3)) (fun b => b = wp.heap.size ∨ b = g3) := by
        have hss : (w3.setCell ⟨wp.heap.size, 0, none⟩ (.slice (some ⟨g3, 0, none⟩) ln c3)).heap.size = w3.heap.size := by simp [World.setCell]
        have hsz := HSZ.out
        have hB := HB0.out.trans (hB3.mono (by omega))
        refine ⟨hB.setCell (Nat.le_refl _) _, by rw [hss]; omega, _, hbx3.set _, fun b => ?_, ?_⟩
        · simp only [Value.ownBlock, Option.some.injEq]
          constructor
          · rintro (h1 | h1)
            · exact .inl h1
            · exact .inr h1.symm
          · rintro (h1 | h1)
            · exact .inl h1
            · exact .inr h1.symm
        · show FInts _ _ _ _ e
          refine fints_new (hi := w3.heap.size) ⟨own_mono (own_same hF3.1 (fun g hg => heap_setCell_other _ _ _ _ ?_)) (by have := HB2.out.size; omega), hF3.2⟩
          have := (hF3.1.lt g hg).1
          have := HB2.out.size
          show g ≠ wp.heap.size
          omega
      have hKn : KeepOn (fun c => ¬ D c) w (w3.setCell ⟨wp.heap.size, 0, none⟩ (.slice (some ⟨g3, 0, none⟩) ln c3)) :=
        (KeepOn.of_below hB3).trans (KeepOn.set _ _ _ (fun hn => hn ((HDD.out _).2 (.inl rfl))))
      have hDn : ∀ c, (c = wp.heap.size ∨ c = g3) → c < (w3.setCell ⟨wp.heap.size, 0, none⟩ (.slice (some ⟨g3, 0, none⟩) ln c3)).heap.size ∧ (D c ∨ w.heap.size ≤ c) := by
        intro c hc
        have hss : (w3.setCell ⟨wp.heap.size, 0, none⟩ (.slice (some ⟨g3, 0, none⟩) ln c3)).heap.size = w3.heap.size := by simp [World.setCell]
        rw [hss]
        rcases hc with h1 | h1
        · exact ⟨by rw [h1]; exact hbx3.lt, .inl ((HDD.out c).2 (.inl h1))⟩
        · exact ⟨by omega, .inr (by omega)⟩
      have HVN := hid hVn
      have HKN := hid hKn
      have HDN := hid hDn
      rw [hln]
      clear hVn hKn hDn hF3 hb3 hB3 hbx3 hg3 hln hel hel2
      go_wp2
      go_ret
      exact ⟨_, rfl, by rw [← HS2.out]; exact HVN.out, HDN.out, HKN.out⟩

theorem breakF_vis (n k : Nat) (pv dv : Value) (L : List Lnk) (f : Nat → Int) (hG : GoodL n L) (hc : (grL n L hG).Conn 0) (hs : small8 n f) (hk : k ≤ 15) (b : Nat) (wp : World) (hbp : Boxed wp b 81 pv) (hbd : Boxed wp (b + 1) 23 dv) (hp : RG wp pv n L) (hd : RInts wp dv (lst n f)) :
    Vis (Option (List Int)) (wp.heap.size + 1) 197 #[.pointer (some ⟨b, 0, none⟩), .pointer (some ⟨b + 1, 0, none⟩), .pointer (some ⟨wp.heap.size, 0, none⟩)] (okW n L f) (stepW n L f) (VFnd wp) (preE n k) where
  enter := Try.call197
  frame := fun _ _ _ _ hv hk => hv.frame hk
  call := fun s w D v xs hv hl hpe _ => breakF_c n k pv dv L f hG hc hs hk b wp w D s hbp hbd hp hd hv v xs hl hpe

set_option maxRecDepth 100000 in
set_option maxHeartbeats 2000000 in
theorem breaking_c (n k : Nat) (p u : Value) (L : List Lnk) (f : Nat → Int) (w : World) (h : RG w p n L) (hG : GoodL n L) (hc : (grL n L hG).Conn 0) (hd : RInts w u (lst n f)) (hs : small8 n f) (hk : k ≤ 15) :
    Calls Try.prog 158 #[p, u, .int .i64 k] w (RetIB w (optB (brkO n L f k))) := by
  have hn1 := hG.n1
  have hn8 := hG.n8
  obtain ⟨gp, rfl⟩ := h.form
  obtain ⟨gd, od, cd, rfl, hcd1, hcd2, _⟩ := ri_open hd (by omega)
  obtain ⟨wp, hwp⟩ : ∃ wp : World, wp = (w.alloc (.cells #[.pointer (some ⟨gp, 0, none⟩)] 81)).alloc (.cells #[.slice (some ⟨gd, od, none⟩) n cd] 23) := ⟨_, rfl⟩
  have hb0 : Below w.heap.size w wp := by rw [hwp]; exact ((Below.refl _ _).alloc (Nat.le_refl _) _).alloc (by simp) _
  have hbp : Boxed wp w.heap.size 81 (.pointer (some ⟨gp, 0, none⟩)) := by rw [hwp]; exact (Boxed.new _ _ _).alloc _
  have hbd : Boxed wp (w.heap.size + 1) 23 (.slice (some ⟨gd, od, none⟩) n cd) := by
    rw [hwp]
    have := Boxed.new (w.alloc (.cells #[.pointer (some ⟨gp, 0, none⟩)] 81)) 23 (.slice (some ⟨gd, od, none⟩) n cd)
    simpa using this
  have hps : wp.heap.size = w.heap.size + 1 + 1 := by rw [hwp]; simp
  have hp1 : RG wp (.pointer (some ⟨gp, 0, none⟩)) n L := h.keep hb0
  have hp0 := (hb0.cell (p := ⟨gp, 0, none⟩) (cell_lt (by obtain ⟨g, _, _, he, c0, _⟩ := h; simp only [Value.pointer.injEq, Option.some.injEq, Addr.mk.injEq, and_true] at he; subst he; exact c0))).trans (by obtain ⟨g, _, _, he, c0, _⟩ := h; simp only [Value.pointer.injEq, Option.some.injEq, Addr.mk.injEq, and_true] at he; subst he; exact c0)
  have hs1 : (wp.alloc (.cells #[.slice none 0 0] 23)).heap.size = wp.heap.size + 1 := by simp
  have hv0 := breakF_vis n k _ _ L f hG hc hs hk w.heap.size wp hbp hbd hp1 (hd.keep hb0)
  rw [← hs1] at hv0
  have hg0 := hbp.alloc (.cells #[.slice none 0 0] 23)
  have e0 := hg0.cell
  have e1 := (((Below.refl wp.heap.size wp).alloc (Nat.le_refl _) (.cells #[.slice none 0 0] 23)).cell (p := ⟨gp, 0, none⟩) (cell_lt hp0)).trans hp0
  have HV0 := hid hv0
  have HVI : Hid (VFnd wp none (wp.alloc (.cells #[.slice none 0 0] 23)) (fun b => b = wp.heap.size)) := by
    refine ⟨(Below.refl _ _).alloc (Nat.le_refl _) _, by simp, .slice none 0 0, Boxed.new wp _ _, fun b => by simp [Value.ownBlock], ints_nil _ _ _⟩
  have HB0 := hid hb0
  have HPS := hid hps
  have HS1 := hid hs1
  have HWP := hid hwp
  have hn := (show visL (okW n L f) (stepW n L f) (allL (n - 1) k) none = ((brkO n L f k).isNone, brkO n L f k) from vis_find n L f (allL (n - 1) k))
  obtain ⟨O, hO⟩ : ∃ O, brkO n L f k = O := ⟨_, rfl⟩
  rw [hO] at hn ⊢
  have HN := hid hn
  clear hn hO
  rw [hwp] at e0 e1
  clear hb0 hps hs1 hv0 hg0 hbp hbd hp1 hp0 h hd hwp
  go_enter Try.func158, Try.ntmps158
  go_wp2_with fail
  have hcall := chips_c n k hn1 (by omega) (by omega) none (fun b => b = wp.heap.size) (wp.alloc (.cells #[.slice none 0 0] 23)) HV0.out (fun e he => ⟨by have := (allL_mem _ _ _ he).1; omega, (allL_mem _ _ _ he).2⟩) HVI.out (fun b hb => by rw [HS1.out, hb]; omega)
  rw [HN.out, HPS.out, HWP.out] at hcall
  refine hcall.mono ?_
  clear hcall
  rintro e w1 ⟨D1, rfl, ⟨k1, k2, lv, k3, k4, k5⟩, hD1, hk1⟩
  have e3 : w1.cell? ⟨w.heap.size + 1 + 1, 0, none⟩ = some lv := by have := k3.cell; simpa using this
  have HB1 := hid (show Below w.heap.size w w1 from HB0.out.trans (by rw [HWP.out]; exact k1.mono (by simp; omega)))
  have HF1 := hid (show FInts w1 w.heap.size w1.heap.size lv (O.getD []) from k5.mono (by simp; omega) (Nat.le_refl _))
  have HQ : Hid ((!O.isNone) = O.isSome) := by show _ = _; cases O <;> rfl
  obtain ⟨al, nl, cl, rfl⟩ := k5.form3
  clear k1 k2 k3 k4 k5 hD1 hk1 e0 e1
  go_wp2
  go_ret2
  exact ⟨_, by unfold optB; rw [← HQ.out]; rfl, HF1.out, HB1.out⟩

end Go.Proofs.Ytlehhfmbdcmpoaa
