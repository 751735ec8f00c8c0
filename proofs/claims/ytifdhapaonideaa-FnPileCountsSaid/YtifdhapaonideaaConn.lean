/- Whether a graph is connected: the reference's function. -/
import Derived.Test.YtifdhapaonideaaPut
import Derived.Test.YtifdhapaonideaaLap
import Derived.Deep.RegionHeld3
namespace Go.Proofs.Ytifdhapaonideaa
open Go.RowKit
open Go.Lib (hid)

/-- a truth value -/
noncomputable def decP (p : Prop) : Bool := @decide p (Classical.propDecidable p)
theorem decP_iff {p : Prop} : decP p = true ↔ p := @decide_eq_true_iff p (Classical.propDecidable p)
/-- all vertices are reached from the first one -/
noncomputable def conB (n : Nat) (L : List Lnk) : Bool := decP (∃ h : GoodL n L, (grL n L h).Conn 0)
theorem conB_iff {n : Nat} {L : List Lnk} (h : GoodL n L) : conB n L = true ↔ (grL n L h).Conn 0 := by
  unfold conB
  rw [decP_iff]
  exact ⟨fun ⟨_, hc⟩ => hc, fun hc => ⟨h, hc⟩⟩
theorem conB_eq {n : Nat} {L : List Lnk} (h : GoodL n L) {b : Bool} (hb : b = true ↔ (grL n L h).Conn 0) : conB n L = b := by
  rw [Bool.eq_iff_iff, conB_iff h]
  exact hb.symm
/-- marks that no link leaves -/
def closedB (L : List Lnk) (b : Nat → Bool) : Prop := ∀ x ∈ L, b x.a.toNat = b x.b.toNat
theorem mulL_pos {L : List Lnk} {u v : Nat} (h : 0 < mulL L u v) : ∃ x ∈ L, isLnk u v x = true := by
  by_cases hx : ∃ x ∈ L, isLnk u v x = true
  · exact hx
  · rw [mulL_none (fun x hm => by
      cases hl : isLnk u v x with
      | false => rfl
      | true => exact (hx ⟨x, hm, hl⟩).elim)] at h
    omega
theorem closed_way {n : Nat} {L : List Lnk} (h : GoodL n L) {b : Nat → Bool} (hc : closedB L b) {q : Nat} (h0 : b q = true) {v k : Nat} (hw : (grL n L h).Way q v k) : b v = true := by
  induction hw with
  | here => exact h0
  | @step u v k _ _ hm ih =>
    obtain ⟨x, hx, hl⟩ := mulL_pos hm
    have := hc x hx
    rcases isLnk_iff.1 hl with ⟨e1, e2⟩ | ⟨e1, e2⟩
    · rw [e1, e2, Int.toNat_natCast, Int.toNat_natCast, ih] at this; exact this.symm
    · rw [e1, e2, Int.toNat_natCast, Int.toNat_natCast, ih] at this; exact this
/-- all that is marked is reached -/
def reachB {n : Nat} {L : List Lnk} (h : GoodL n L) (b : Nat → Bool) : Prop := ∀ v, v < n → b v = true → ∃ k, (grL n L h).Way 0 v k
theorem con_end {n : Nat} {L : List Lnk} (h : GoodL n L) {b : Nat → Bool} (h0 : b 0 = true) (hr : reachB h b) (hc : closedB L b) : conB n L = decide (Gr.unm b n = 0) := by
  refine conB_eq h ?_
  rw [decide_eq_true_iff, Gr.unm_zero]
  constructor
  · intro ha v hv; exact hr v hv (ha v hv)
  · intro hc' v hv; obtain ⟨k, hk⟩ := hc' v hv; exact closed_way h hc h0 hk
theorem mulL_of_mem {n : Nat} {L : List Lnk} (h : GoodL n L) {a b : Nat} {z : Int} (hm : (⟨(a : Int), (b : Int), z⟩ : Lnk) ∈ L) : 0 < mulL L a b := by
  obtain ⟨L1, L2, rfl⟩ := List.append_of_mem hm
  have e : mulL (L1 ++ ⟨(a : Int), (b : Int), z⟩ :: L2) a b = mulL L1 a b + (z + mulL L2 a b) := by
    unfold mulL; rw [List.map_append, List.sum_append, List.map_cons, List.sum_cons, if_pos (isLnk_iff.2 (.inl ⟨rfl, rfl⟩))]
  have g1 : 0 ≤ mulL L1 a b := by
    have hs := h.sorted
    rw [List.pairwise_append] at hs
    exact (mulL_bound (n := n) (fun x hx => h.each x (by simp [hx])) hs.1 a b).1
  have g2 : 0 ≤ mulL L2 a b := by
    have hs := h.sorted
    rw [List.pairwise_append, List.pairwise_cons] at hs
    exact (mulL_bound (n := n) (fun x hx => h.each x (by simp [hx])) hs.2.1.2 a b).1
  have := (h.each _ hm).2.2.2.1
  dsimp only at this
  omega
/-- a link with one marked end: the other one too -/
theorem reach_mark {n : Nat} {L : List Lnk} (h : GoodL n L) {b : Nat → Bool} (hr : reachB h b) {a c : Nat} {z : Int} (hm : (⟨(a : Int), (c : Int), z⟩ : Lnk) ∈ L) (ha : a < n) (hc : c < n) (hab : b a = true ∨ b c = true) : reachB h (Gr.mark (Gr.mark b a) c) := by
  have hp := mulL_of_mem h hm
  intro v hv hb
  have key : (∃ k, (grL n L h).Way 0 a k) ∧ ∃ k, (grL n L h).Way 0 c k := by
    rcases hab with e | e
    · obtain ⟨k, hk⟩ := hr a ha e
      exact ⟨⟨k, hk⟩, k + 1, .step hk hc hp⟩
    · obtain ⟨k, hk⟩ := hr c hc e
      exact ⟨⟨k + 1, .step hk ha (by show 0 < mulL L c a; rw [mulL_sym]; exact hp)⟩, k, hk⟩
  by_cases e1 : v = c
  · rw [e1]; exact key.2
  · rw [Gr.mark_other _ e1] at hb
    by_cases e2 : v = a
    · rw [e2]; exact key.1
    · rw [Gr.mark_other _ e2] at hb; exact hr v hv hb
theorem unm_two {b : Nat → Bool} {n a c : Nat} (ha : a < n) (hc : c < n) (hab : b a ≠ b c) : Gr.unm (Gr.mark (Gr.mark b a) c) n < Gr.unm b n := by
  cases e1 : b a with
  | true =>
    have e2 : b c = false := by
      cases e : b c with
      | false => rfl
      | true => exact (hab (by rw [e1, e])).elim
    have hca : c ≠ a := fun e => by rw [e, e1] at e2; cases e2
    have h1 := Gr.unm_mark (b := Gr.mark b a) (v := c) (by rw [Gr.mark_other _ hca]; exact e2) n
    rw [if_pos hc] at h1
    have h2 : Gr.unm (Gr.mark b a) n = Gr.unm b n := by
      have : Gr.mark b a = b := by funext u; unfold Gr.mark; split
                                   · rename_i e; rw [e, e1]
                                   · rfl
      rw [this]
    omega
  | false =>
    have e2 : b c = true := by
      cases e : b c with
      | true => rfl
      | false => exact (hab (by rw [e1, e])).elim
    have hca : c ≠ a := fun e => by rw [e, e1] at e2; cases e2
    have h1 := Gr.unm_mark (b := b) (v := a) e1 n
    rw [if_pos ha] at h1
    have h2 : Gr.mark (Gr.mark b a) c = Gr.mark b a := by
      funext u
      by_cases e : u = c
      · rw [e, Gr.mark_self, Gr.mark_other _ hca, e2]
      · rw [Gr.mark_other _ e]
    rw [h2]; omega

set_option maxRecDepth 100000 in
set_option maxHeartbeats 4000000 in
theorem chConnected_c (n : Nat) (v : Value) (L : List Lnk) (w : World) (h : RLinks w v L) (hG : GoodL n L) :
    Calls Try.prog 90 #[.int .i64 n, v] w fun e w' => e = .returned (.bool (conB n L)) ∧ Below w.heap.size w w' := by
  have HR := hid h
  obtain ⟨a, cap, rfl, h1, h2, hc⟩ := h
  clear hc
  unfold maxLen at h2
  have hn8 := hG.n8
  have hn1 := hG.n1
  have HG := hid hG; clear hG
  have hb0 : Below w.heap.size w (w.alloc (.cells #[.int .i64 0] 3)) := (Below.refl _ _).alloc (Nat.le_refl _) _
  have hr0 := rints_new w [0] (by simp)
  have hs0 : setL (Gr.only 0) n = [0] := by
    have : ∀ m, setL (Gr.only 0) (m + 1) = [0] := by
      intro m
      induction m with
      | zero => rfl
      | succ m ih => rw [setL_succ_no (by simp [Gr.only]), ih]
    rw [show n = (n - 1) + 1 by omega]; exact this _
  have HSTART : Hid (RInts (w.alloc (.cells #[.int .i64 0] 3)) (.slice (some ⟨w.heap.size, 0, none⟩) (setL (Gr.only 0) n).length 1) (setL (Gr.only 0) n) ∧ reachB HG.out (Gr.only 0) ∧ setL (Gr.only 0) n = [0]) := by
    refine ⟨by rw [hs0]; exact hr0, fun u hu hb => ?_, hs0⟩
    have : u = 0 := by simpa [Gr.only] using hb
    rw [this]; exact ⟨0, .here⟩
  have HB0 := hid hb0
  clear hb0 hr0 hs0
  go_enter Try.func90, Try.ntmps90
  go_wp2
  go_loopg [5, 6] (Gr.unm (Gr.only 0) n + 1) (fun gk sv ag wr => ∃ b : Nat → Bool, ∃ q : Bool, ∃ asv csv, sv = .slice asv (setL b n).length csv ∧ ag = .bool q ∧ RInts wr (.slice asv (setL b n).length csv) (setL b n) ∧ b 0 = true ∧ reachB HG.out b ∧ (q = false → closedB L b) ∧ gk = Gr.unm b n + (if q then 1 else 0) ∧ Below w.heap.size w wr)
  case atStart => exact ⟨Gr.only 0, true, some ⟨w.heap.size, 0, none⟩, 1, by rw [HSTART.out.2.2]; rfl, rfl, HSTART.out.1, by simp [Gr.only], HSTART.out.2.1, (fun h => by cases h), rfl, HB0.out⟩
  case round =>
    obtain ⟨b, q, asv, csv, rfl, rfl, hsv, hb0, hre, hcl, rfl, hbw⟩ := hrel
    obtain ⟨wo, rfl⟩ : ∃ wo : World, wo = wr := ⟨_, rfl⟩
    have HSV := hid hsv
    have HB := hid (And.intro hb0 (And.intro hre hcl))
    have HBW := hid hbw
    clear hsv hb0 hre hcl hbw HSTART HB0
    cases q with
    | false =>
      have hl := setL_len b n
      have he := con_end HG.out HB.out.1 HB.out.2.1 (HB.out.2.2 rfl)
      have HE := hid he
      have HLEN : Hid (decide (((setL b n).length : Int) = (n : Int)) = conB n L) := by
        show _ = _
        rw [he, Bool.eq_iff_iff, decide_eq_true_iff, decide_eq_true_iff]; omega
      clear he hl
      go_wp2
      go_ret
      exact ⟨ret_bool (by rw [← HLEN.out]; first | rfl | (rw [Bool.eq_iff_iff]; simp)), HBW.out⟩
    | true =>
      go_wp2
      go_loopg [5, 6, 13] L.length (fun gk sv ag i wr => ∃ b' : Nat → Bool, ∃ q : Bool, ∃ j : Nat, ∃ asv csv, sv = .slice asv (setL b' n).length csv ∧ j ≤ L.length ∧ gk = L.length - j ∧ i = .int .i64 j ∧ ag = .bool q ∧ RInts wr (.slice asv (setL b' n).length csv) (setL b' n) ∧ b' 0 = true ∧ reachB HG.out b' ∧ (q = false → b' = b ∧ ∀ x ∈ L.take j, b x.a.toNat = b x.b.toNat) ∧ (q = true → Gr.unm b' n < Gr.unm b n) ∧ Below w.heap.size w wr)
      case atStart => exact ⟨b, false, 0, asv, csv, rfl, Nat.zero_le _, rfl, rfl, rfl, HSV.out, HB.out.1, HB.out.2.1, fun _ => ⟨rfl, by simp⟩, (fun h => by cases h), HBW.out⟩
      case round =>
        obtain ⟨b', q, j, asv', csv', rfl, hj, rfl, rfl, rfl, hsv, hb0, hre, hno, hyes, hbw⟩ := hrel
        have HB1 := hid (And.intro hb0 (And.intro hre (And.intro hno hyes)))
        have HBW1 := hid hbw
        by_cases hlt : j < L.length
        · obtain ⟨a', cap', hv, _, _, hc⟩ := HR.out.keep hbw
          simp only [Value.slice.injEq, true_and] at hv
          obtain ⟨rfl, rfl⟩ := hv
          obtain ⟨g, o, x, y, z, rfl, c1, c2, c3, HD, HX⟩ := links_at hc hlt
          have hmem : (⟨x, y, z⟩ : Lnk) ∈ L := by rw [← HX.out]; simp [List.getD, hlt]
          obtain ⟨e1, e2, e3, e4, e5⟩ := HG.out.each _ hmem
          dsimp only at e1 e2 e3 e4 e5
          obtain ⟨va, rfl⟩ : ∃ a : Nat, x = a := ⟨x.toNat, by omega⟩
          obtain ⟨vb, rfl⟩ : ∃ b : Nat, y = b := ⟨y.toNat, by omega⟩
          have ha : va < n := by omega
          have hb : vb < n := by omega
          have HTK : Hid (L.take (j + 1) = L.take j ++ [⟨(va : Int), (vb : Int), z⟩]) := by
            show _ = _
            rw [List.take_succ_eq_append_getElem hlt]
            have := HX.out
            simp [List.getD, hlt] at this
            rw [this]
          have HMEM := hid hmem
          obtain ⟨wp, hwp⟩ : ∃ wp : World, wp = wr.alloc (.cells #[.int .i64 va, .int .i64 vb, .int .i64 z] 104) := ⟨_, rfl⟩
          have hbp : Below wr.heap.size wr wp := by rw [hwp]; exact (Below.refl _ _).alloc (Nat.le_refl _) _
          have hnew := heap_alloc_new wr (.cells #[.int .i64 va, .int .i64 vb, .int .i64 z] 104)
          rw [← hwp] at hnew
          have k0 : wp.cell? ⟨wr.heap.size, 0, none⟩ = some (.int .i64 va) := by rw [cell_of_row _ _ _ _ _ _ hnew]; rfl
          have k1 : wp.cell? ⟨wr.heap.size, 1, none⟩ = some (.int .i64 vb) := by rw [cell_of_row _ _ _ _ _ _ hnew]; rfl
          have hsvp := hsv.keep hbp
          have HSVP := hid hsvp
          have HBP := hid (hbw.trans (hbp.mono hbw.size))
          have HWP := hid hwp
          have hqa : ∀ q, Calls Try.prog 102 #[.slice asv' (setL b' n).length csv', .int .i64 va] (wp.drewN q) fun e w' => e = .returned (.bool (b' va)) ∧ w' = wp.drewN q := fun q => (l1Has_c _ _ _ _ (RInts.drewN hsvp)).mono fun _ _ h => ⟨by rw [h.1, hasB_setL ha], h.2.symm⟩
          have hqb : ∀ q, Calls Try.prog 102 #[.slice asv' (setL b' n).length csv', .int .i64 vb] (wp.drewN q) fun e w' => e = .returned (.bool (b' vb)) ∧ w' = wp.drewN q := fun q => (l1Has_c _ _ _ _ (RInts.drewN hsvp)).mono fun _ _ h => ⟨by rw [h.1, hasB_setL hb], h.2.symm⟩
          have HQA := hid hqa
          have HQB := hid hqb
          have hll : (setL b' n).length ≤ 1048576 := by have := setL_len b' n; omega
          have hltz : (j : Int) < (L.length : Int) := by omega
          clear hc hbp hnew hwp hmem HX HD hsv hsvp hqa hqb hb0 hre hno hyes hbw HSV HBW
          have HDIFF : Hid (b' va ≠ b' vb → reachB HG.out (Gr.mark (Gr.mark b' va) vb) ∧ Gr.mark (Gr.mark b' va) vb 0 = true ∧ Gr.unm (Gr.mark (Gr.mark b' va) vb) n < Gr.unm b n) := by
            show _ → _
            intro hne
            refine ⟨reach_mark HG.out HB1.out.2.1 HMEM.out ha hb ?_, ?_, ?_⟩
            · cases e1 : b' va with
              | true => exact .inl rfl
              | false => cases e2 : b' vb with
                | true => exact .inr rfl
                | false => exact (hne (by rw [e1, e2])).elim
            · unfold Gr.mark; split
              · rfl
              · split
                · rfl
                · exact HB1.out.1
            · have h1 := unm_two ha hb hne
              cases q with
              | false => have := (HB1.out.2.2.1 rfl).1; rw [this] at h1 ⊢; exact h1
              | true => have := HB1.out.2.2.2 rfl; omega
          obtain ⟨ba, hba⟩ : ∃ ba, b' va = ba := ⟨_, rfl⟩
          obtain ⟨bb, hbb⟩ : ∃ bb, b' vb = bb := ⟨_, rfl⟩
          rw [hba, hbb] at HDIFF
          rw [hba] at HQA
          rw [hbb] at HQB
          have HBA := hid hba
          have HBB := hid hbb
          clear hba hbb
          go_wp2
          rw [← HWP.out]
          cases ba <;> cases bb
          case false.false =>
            go_quiet ((first | (go_at_call 102; with_reducible exact Calls.quiet_of_same (HQA.out _)) | (go_at_call 102; with_reducible exact Calls.quiet_of_same (HQB.out _))))
            go_wp2
            go_roundg (L.length - (j + 1))
            case rel => exact ⟨b', q, j + 1, asv', csv', rfl, by omega, rfl, by go_num, rfl, RInts.drewN HSVP.out, HB1.out.1, HB1.out.2.1, (fun h => ⟨(HB1.out.2.2.1 h).1, fun x hx => by
              rw [HTK.out, List.mem_append] at hx
              rcases hx with hx | hx
              · exact (HB1.out.2.2.1 h).2 x hx
              · rw [List.mem_singleton] at hx
                rw [hx, ← (HB1.out.2.2.1 h).1]; dsimp only; rw [Int.toNat_natCast, Int.toNat_natCast, HBA.out, HBB.out]⟩), HB1.out.2.2.2, below_drewN HBP.out _⟩
            case measure => omega
          case true.true =>
            go_quiet ((first | (go_at_call 102; with_reducible exact Calls.quiet_of_same (HQA.out _)) | (go_at_call 102; with_reducible exact Calls.quiet_of_same (HQB.out _))))
            go_wp2
            go_roundg (L.length - (j + 1))
            case rel => exact ⟨b', q, j + 1, asv', csv', rfl, by omega, rfl, by go_num, rfl, RInts.drewN HSVP.out, HB1.out.1, HB1.out.2.1, (fun h => ⟨(HB1.out.2.2.1 h).1, fun x hx => by
              rw [HTK.out, List.mem_append] at hx
              rcases hx with hx | hx
              · exact (HB1.out.2.2.1 h).2 x hx
              · rw [List.mem_singleton] at hx
                rw [hx, ← (HB1.out.2.2.1 h).1]; dsimp only; rw [Int.toNat_natCast, Int.toNat_natCast, HBA.out, HBB.out]⟩), HB1.out.2.2.2, below_drewN HBP.out _⟩
            case measure => omega
          all_goals
            go_quiet ((first | (go_at_call 102; with_reducible exact Calls.quiet_of_same (HQA.out _)) | (go_at_call 102; with_reducible exact Calls.quiet_of_same (HQB.out _))))
            go_wp2
            have HSD2 : Hid (RInts (wp.drewN (nq + 1)) (.slice asv' (setL b' n).length csv') (setL b' n)) := HSVP.out
            have HBD2 : Hid (Below w.heap.size w (wp.drewN (nq + 1))) := below_drewN HBP.out (nq + 1)
            go_region_held3 (fun w' => w'.cell? ⟨wr.heap.size, 0, none⟩ = some (.int .i64 va) ∧ w'.cell? ⟨wr.heap.size, 1, none⟩ = some (.int .i64 vb))
              (first | go_keep | exact ⟨(hb5.cell (p := ⟨wr.heap.size, 0, none⟩) (cell_lt k0)).trans k0, (hb5.cell (p := ⟨wr.heap.size, 1, none⟩) (cell_lt k1)).trans k1⟩ | exact ⟨(hb6.cell (p := ⟨wr.heap.size, 0, none⟩) (cell_lt ((hb5.cell (p := ⟨wr.heap.size, 0, none⟩) (cell_lt k0)).trans k0))).trans ((hb5.cell (p := ⟨wr.heap.size, 0, none⟩) (cell_lt k0)).trans k0), (hb6.cell (p := ⟨wr.heap.size, 1, none⟩) (cell_lt ((hb5.cell (p := ⟨wr.heap.size, 1, none⟩) (cell_lt k1)).trans k1))).trans ((hb5.cell (p := ⟨wr.heap.size, 1, none⟩) (cell_lt k1)).trans k1)⟩)
              (first
                | (go_at_call 103; (with_reducible refine (l1Put_c _ (setL b' n) _ _ HSD2.out hll).mono ?_); rintro e w5 ⟨u5, rfl, hr5, hb5⟩; rw [putL_setL b' n ha] at hr5; obtain ⟨au5, nu5, cu5, rfl⟩ : ∃ a n c, u5 = .slice a n c := (by obtain ⟨a, c, e, _⟩ := hr5; exact ⟨a, _, c, e⟩))
                | (go_at_call 103; (with_reducible refine (l1Put_c _ (setL (Gr.mark b' va) n) _ _ hr5 (by have := setL_len (Gr.mark b' va) n; omega)).mono ?_); rintro e w6 ⟨u6, rfl, hr6, hb6⟩; rw [putL_setL (Gr.mark b' va) n hb] at hr6; obtain ⟨au6, cu6, rfl⟩ : ∃ a c, u6 = .slice a (setL (Gr.mark (Gr.mark b' va) vb) n).length c := (by obtain ⟨a, c, e, _⟩ := hr6; exact ⟨a, c, e⟩)))
            go_wp2
            go_roundg (L.length - (j + 1))
            case rel => exact ⟨Gr.mark (Gr.mark b' va) vb, true, j + 1, _, _, rfl, by omega, rfl, by go_num, rfl, hr6, (HDIFF.out (by simp)).2.1, (HDIFF.out (by simp)).1, (fun h => by cases h), (fun _ => (HDIFF.out (by simp)).2.2), (HBD2.out.trans (hb5.mono HBD2.out.size)).trans (hb6.mono (HBD2.out.trans (hb5.mono HBD2.out.size)).size)⟩
            case measure => omega
        · have HO := hid (And.intro hsv hbw)
          have hjl : j = L.length := by omega
          subst hjl
          have HCL : Hid (q = false → closedB L b') := by
            show _ → _
            intro h
            obtain ⟨e1, e2⟩ := HB1.out.2.2.1 h
            rw [e1]
            rw [List.take_length] at e2
            exact e2
          have HMU : Hid (Gr.unm b' n + (if q then 1 else 0) < Gr.unm b n + 1) := by
            show _ < _
            cases q with
            | false => have := (HB1.out.2.2.1 rfl).1; rw [this]; simp
            | true => have := HB1.out.2.2.2 rfl; simp; omega
          clear hsv hbw hb0 hre hno hyes
          go_wp2
          go_roundg (Gr.unm b' n + (if q then 1 else 0))
          case rel => exact ⟨b', q, asv', csv', rfl, rfl, HO.out.1, HB1.out.1, HB1.out.2.1, HCL.out, rfl, HO.out.2⟩
          case measure => exact HMU.out

end Go.Proofs.Ytifdhapaonideaa
