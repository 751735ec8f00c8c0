/- Pencils: the reference. -/
import Derived.Test.YtlehhfmbdcmpoaaPen
namespace Go.Proofs.Ytlehhfmbdcmpoaa
open Go.RowKit
open Go.Lib (hid)

theorem pn_yes {n : Nat} {L : List Lnk} {k : Nat} (hk : k ≤ 5) {e : List Int} (h : penO n L k = some e) : pnN n L (6 - k) k = e := by
  rw [show 6 - k = (5 - k) + 1 by omega]; simp only [pnN]; rw [h]
theorem pn_no {n : Nat} {L : List Lnk} {k : Nat} (hk : k ≤ 5) (h : penO n L k = none) : pnN n L (6 - k) k = pnN n L (6 - (k + 1)) (k + 1) := by
  rw [show 6 - k = (6 - (k + 1)) + 1 by omega]; simp only [pnN]; rw [h]
/-- what is asked of the graph -/
theorem graph_parts {n : Int} {L : List Lnk} (h : raGB n L = true) : ∃ m : Nat, n.toNat = m ∧ n = (m : Int) ∧ ∃ (hG : GoodL m L), (grL m L hG).Conn 0 ∧ 1 - (m : Int) + edgL L ≤ 4 := by
  obtain ⟨hG, hn, _, hcon, _⟩ := raGB_good h
  refine ⟨n.toNat, rfl, hn, hG, (conB_iff hG).1 hcon, ?_⟩
  unfold raGB at h
  simp only [Bool.and_eq_true, decide_eq_true_eq] at h
  have := h.2.2.2
  omega

set_option maxRecDepth 100000 in
set_option maxHeartbeats 2000000 in
theorem raPencil_c (n : Nat) (v : Value) (L : List Lnk) (w : World) (h : RLinks w v L) (hG : GoodL n L) (hc : (grL n L hG).Conn 0) (hg : 1 - (n : Int) + edgL L ≤ 4) :
    Calls Try.prog 168 #[.int .i64 n, v] w (RetInts w (penL n L)) := by
  have HR := hid h
  have hn8 := hG.n8
  have hn1 := hG.n1
  obtain ⟨a, cap, rfl⟩ := h.form
  have HEND : Hid (∀ k, 5 ≤ k → k ≤ 8 → (penO n L k).isSome = true) := fun k h1 h2 => pen_end hG hc h2 (by omega)
  have HP0 : Hid (penL n L = pnN n L (6 - 1) 1) := rfl
  clear h hg
  go_enter Try.func168, Try.ntmps168
  go_wp2
  go_loopg [5] 5 (fun gk kv wr => ∃ k : Nat, 1 ≤ k ∧ k ≤ 5 ∧ gk = 6 - k ∧ kv = .int .i64 k ∧ Below w.heap.size w wr ∧ penL n L = pnN n L (6 - k) k)
  case atStart => exact ⟨1, by decide, by decide, rfl, rfl, Below.refl _ _, HP0.out⟩
  case round =>
    obtain ⟨k, hk1, hk, rfl, rfl, hb, hr⟩ := hrel
    have HB := hid hb
    have HRK := hid hr
    have hsz := hb.size
    clear hb hr
    go_wp2_with fail
    refine (raAll_c (n - 1) n k wr (by omega) (by omega) (by omega)).mono ?_
    rintro e w1 ⟨u1, rfl, hm1, hb1⟩
    obtain ⟨M, hM⟩ : ∃ M, allL (n - 1) k = M := ⟨_, rfl⟩
    have hB0 : penO n L k = (M.drop 0).find? (fun e => (brkO n L (ofL e) 1).isNone) := by unfold penO; rw [hM, List.drop_zero]
    have hmem : ∀ e, e ∈ M → e.length = n ∧ small8 n (ofL e) := fun e he => by
      rw [← hM] at he
      have h2 := eff_small (show k ≤ 8 by omega) he
      rw [show n - 1 + 1 = n by omega] at h2
      exact ⟨by have := (allL_mem _ _ e he).1; omega, h2⟩
    rw [hM] at hm1
    have HMEM := hid hmem
    have HM1 := hid hm1
    have HB1 := hid (HB.out.trans (hb1.mono hsz))
    have HB0 := hid hB0
    have hend := HEND.out k
    obtain ⟨al, cl, rfl⟩ := hm1.form
    have hsz1 := Nat.le_trans hsz hb1.size
    clear hm1 hb1 hB0 hM hmem
    go_wp2
    go_loopg [16] M.length (fun gk iv wx => ∃ i : Nat, i ≤ M.length ∧ gk = M.length - i ∧ iv = .int .i64 i ∧ FMat wx wr.heap.size w1.heap.size (.slice al M.length cl) M ∧ Below w.heap.size w wx ∧ w1.heap.size ≤ wx.heap.size ∧ penO n L k = (M.drop i).find? (fun e => (brkO n L (ofL e) 1).isNone))
    case atStart => exact ⟨0, Nat.zero_le _, rfl, rfl, HM1.out, HB1.out, Nat.le_refl _, HB0.out⟩
    case round =>
      obtain ⟨i, hi, rfl, rfl, hm, hbw, hszx, hfi⟩ := hrel
      obtain ⟨wx, rfl⟩ : ∃ wy : World, wy = wr := ⟨_, rfl⟩
      have HF := hid hm
      have HBX := hid hbw
      by_cases hlt : i < M.length
      · rw [find_drop hlt] at hfi
        obtain ⟨vs, h0, h0b, h0l, hrs, _⟩ := hm
        obtain ⟨a', c', hv, q1, q2, _, _, hcell⟩ := own_form h0
        simp only [Value.slice.injEq] at hv
        obtain ⟨rfl, -, rfl⟩ := hv
        obtain ⟨g, rfl, _, _, hc1, _⟩ := hcell i hlt
        have hrow := hrs i hlt
        have hvi : vs[i]? = some (vs.getD i .nilFunc) := by simp [List.getD, List.getElem?_eq_getElem (show i < vs.length by omega)]
        rw [hvi] at hc1
        have hmi := HMEM.out (M.getD i []) (by simp [List.getD, List.getElem?_eq_getElem hlt])
        obtain ⟨y, hy⟩ : ∃ y, M.getD i [] = y := ⟨_, rfl⟩
        rw [hy] at hrow hmi hfi
        obtain ⟨r, hr⟩ : ∃ r, vs.getD i .nilFunc = r := ⟨_, rfl⟩
        rw [hr] at hrow hc1
        obtain ⟨ar, nr, cr, rfl⟩ := hrow.form3
        have HROW := hid hrow
        have HFI := hid hfi
        have HRL : Hid (RInts wx (.slice ar nr cr) (lst n (ofL y))) := rints_lst hrow.r hmi.1
        have HSM := hid hmi.2
        have HR1 := hid (HR.out.keep hbw)
        unfold maxLen at q2
        clear hbw hfi h0 h0b h0l hrs hcell hrow hvi hy hr hmi
        go_wp2_with fail
        refine (raBreaks_c n 1 _ _ L (ofL y) _ HR1.out hG hc HRL.out HSM.out (by decide)).mono ?_
        rintro e w2 ⟨u2, rfl, hF2, hb2⟩
        have HB2 := hid (HBX.out.trans (hb2.mono HBX.out.size))
        have HM2 := hid (HF.out.keep hb2)
        have HROW2 := hid (HROW.out.keep hb2)
        have hsz2 := Nat.le_trans hszx hb2.size
        obtain ⟨a2, n2, c2, rfl⟩ := hF2.form3
        unfold optB
        dsimp only
        obtain ⟨O, hO⟩ : ∃ O, brkO n L (ofL y) 1 = O := ⟨_, rfl⟩
        rw [hO]
        clear hF2 hb2
        cases O with
        | some z =>
          have HN : Hid (penO n L k = (M.drop (i + 1)).find? (fun e => (brkO n L (ofL e) 1).isNone)) := by
            show _ = _; rw [HFI.out, hO]; rfl
          rw [show (some z).isSome = true from rfl]
          go_wp2
          go_roundg (M.length - (i + 1))
          case rel => exact ⟨i + 1, by omega, rfl, by go_num, HM2.out, HB2.out, hsz2, HN.out⟩
          case measure => omega
        | none =>
          have HN : Hid (penL n L = y) := by
            show _ = _
            rw [HRK.out]
            exact pn_yes hk (by rw [HFI.out, hO]; rfl)
          rw [show (none : Option (List Int)).isSome = false from rfl]
          go_wp2
          go_ret
          exact ⟨_, rfl, by rw [HN.out]; exact HROW2.out.mono hsz hsz2, HB2.out⟩
      · obtain rfl : i = M.length := by omega
        have hnone : penO n L k = none := by rw [hfi, List.drop_length]; rfl
        have HN := hid (HRK.out.trans (pn_no hk hnone))
        have hk4 : k + 1 ≤ 5 := by
          apply Classical.byContradiction; intro hn
          have := hend (by omega) (by omega)
          rw [hnone] at this; cases this
        clear hm hbw hfi hend hnone
        go_wp2
        go_roundg (6 - (k + 1))
        case rel => exact ⟨k + 1, by omega, hk4, rfl, by go_num, HBX.out, HN.out⟩
        case measure => omega

end Go.Proofs.Ytlehhfmbdcmpoaa
