/- The fire: the reference's rdOwes and rdBurnt. -/
import Derived.Test.YtlehhfmbdcmpoaaRankS2
import Derived.Test.YtlehhfmbdcmpoaaPut2
namespace Go.Proofs.Ytlehhfmbdcmpoaa
open Go.RowKit
open Go.Lib (hid)

set_option maxHeartbeats 1000000 in
theorem rdOwes_c (n q : Nat) (v : Value) (f : Nat → Int) (G : Gr) (hGn : Hid (G.n = n)) (w : World) (h : RInts w v (lst n f)) :
    Calls Try.prog 214 #[v, .int .i64 q] w fun e w' => e = .returned (.bool (G.owes q f)) ∧ w = w' := by
  obtain ⟨a, cap, rfl, h1, h2, hc⟩ := h
  unfold maxLen at h2
  rw [lst_len] at hc h1 ⊢
  go_enter Try.func214, Try.ntmps214
  go_wp2
  go_loop [9] (fun i => ∃ k : Nat, k ≤ n ∧ i = .int .i64 k ∧ ∀ v, v < k → v ≠ q → 0 ≤ f v) (fun i => n - (intOf i).toNat)
  case atStart => exact ⟨0, Nat.zero_le _, rfl, fun v hv => by omega⟩
  case round =>
    obtain ⟨k, hk, rfl, hr⟩ := hrel
    have HR := hid hr; clear hr
    by_cases hlt : k < n
    · obtain ⟨g, o, rfl, hcell⟩ := hc k hlt
      rw [lst_at f hlt] at hcell
      obtain ⟨x, hx⟩ : ∃ x, f k = x := ⟨_, rfl⟩
      rw [hx] at hcell
      have HX := hid hx
      have hkz : (k : Int) < (n : Int) := by omega
      clear hc hx
      by_cases hkq : k = q
      · have t1 : ((k : Int) == (q : Int)) = true := beq_nat_true hkq
        have t2 : ((k : Int) != (q : Int)) = false := bne_of_true t1
        have HKQ := hid hkq
        clear hkq
        go_wp2
        go_round
        case rel => exact ⟨k + 1, by omega, by go_num, fun v hv hne => by
          by_cases e : v = k
          · exact (hne (e.trans HKQ.out)).elim
          · exact HR.out v (by omega) hne⟩
        case measure => simp [intOf]; omega
      · have t1 : ((k : Int) == (q : Int)) = false := beq_nat_false hkq
        have t2 : ((k : Int) != (q : Int)) = true := bne_of_false t1
        have HKQ := hid hkq
        clear hkq
        by_cases hneg : x < 0
        · go_wp2
          go_ret
          exact ⟨ret_bool (((G.owes_iff).2 ⟨k, by rw [hGn.out]; exact hlt, HKQ.out, by rw [HX.out]; exact hneg⟩).symm), rfl⟩
        · go_wp2
          go_round
          case rel => exact ⟨k + 1, by omega, by go_num, fun v hv hne => by
            by_cases e : v = k
            · rw [e, HX.out]; omega
            · exact HR.out v (by omega) hne⟩
          case measure => simp [intOf]; omega
    · have hkn : k = n := by omega
      clear hc
      have HE : Hid (G.owes q f = false) := (G.owes_false).2 (fun v hv hne => HR.out v (by rw [hGn.out] at hv; omega) hne)
      go_wp2
      go_ret
      exact ⟨ret_bool HE.out.symm, rfl⟩

/-- the edges to the marked ones -/
def edgS (L : List Lnk) (v : Nat) (l : List Int) : Int := (l.map fun x => mulL L v x.toNat).sum
theorem edgS_snoc (L : List Lnk) (v : Nat) (l : List Int) (x : Int) : edgS L v (l ++ [x]) = edgS L v l + mulL L v x.toNat := by simp [edgS]
theorem edgS_setL {n : Nat} {L : List Lnk} (h : GoodL n L) (v : Nat) (b : Nat → Bool) : edgS L v (setL b n) = (grL n L h).edges b v := by
  have : ∀ m, edgS L v (setL b m) = sumN m (fun u => if b u then mulL L v u else 0) := by
    intro m
    induction m with
    | zero => rfl
    | succ m ih =>
      rw [sumN]
      cases hb : b m with
      | true => rw [setL_succ_yes hb, edgS_snoc, ih]; simp
      | false => rw [setL_succ_no hb, ih]; simp
  exact this n
theorem edgS_bound {n : Nat} {L : List Lnk} (h : GoodL n L) (v : Nat) (l : List Int) : 0 ≤ edgS L v l ∧ edgS L v l ≤ 5 * (l.length : Int) := by
  induction l with
  | nil => simp [edgS]
  | cons x xs ih =>
    have := mulL_bound h.each h.sorted v x.toNat
    unfold edgS at ih ⊢
    rw [List.map_cons, List.sum_cons, List.length_cons]; omega

set_option maxRecDepth 100000 in
set_option maxHeartbeats 4000000 in
theorem rdBurnt_c (n q : Nat) (v u : Value) (L : List Lnk) (f : Nat → Int) (w : World) (h : RLinks w v L) (hG : GoodL n L) (hd : RInts w u (lst n f)) (hq : q < n) (hb : ∀ i, i < n → -100000 ≤ f i ∧ f i ≤ 100000) :
    Calls Try.prog 215 #[.int .i64 n, v, u, .int .i64 q] w fun e w' => ∃ u, e = .returned u ∧ RInts w' u (setL ((grL n L hG).burnt f q) n) ∧ Below w.heap.size w w' ∧ AtB u w.heap.size := by
  have HR := hid h
  have hn8 := hG.n8
  have hn1 := hG.n1
  obtain ⟨a, cap, rfl⟩ := h.form
  obtain ⟨gd, od, cd, rfl, hcd1, hcd2, hdc⟩ := ri_open hd (by omega)
  have HDC := hid hdc
  have HBF := hid hb
  have HG := hid hG
  clear h hd hdc hb
  go_enter Try.func215, Try.ntmps215
  go_wp2_with fail
  refine (chLaplacian_c n _ L _ HR.out HG.out).mono ?_
  rintro e w1 ⟨u1, rfl, hF, hb1⟩
  have hR := hF.r
  obtain ⟨gM, oM, cM, Gm, Om, Cm, rfl, hcm1, hcm2, hrow, hent⟩ := rm_open hR (by omega)
  have HROW := hid hrow
  have HENT := hid hent
  have HB1 := hid hb1
  have hsz := hb1.size
  have hb2 : Below w1.heap.size w1 (w1.alloc (.cells #[.int .i64 q] 3)) := (Below.refl _ _).alloc (Nat.le_refl _) _
  have hr0 := rints_new w1 [(q : Int)] (by simp)
  have hs0 : setL (Gr.only q) n = [(q : Int)] := by
    have h1 : ∀ m, m ≤ q → setL (Gr.only q) m = [] := fun m => by
      induction m with
      | zero => intro _; rfl
      | succ m ih => intro h; rw [setL_succ_no (by simp [Gr.only]; omega), ih (by omega)]
    have h2 : ∀ m, setL (Gr.only q) (q + 1 + m) = [(q : Int)] := fun m => by
      induction m with
      | zero => rw [Nat.add_zero, setL_succ_yes (by simp [Gr.only]), h1 q (Nat.le_refl _)]; rfl
      | succ m ih => rw [show q + 1 + (m + 1) = (q + 1 + m) + 1 by omega, setL_succ_no (by simp [Gr.only]; omega), ih]
    rw [show n = q + 1 + (n - (q + 1)) by omega]; exact h2 _
  have HS : Hid (RInts (w1.alloc (.cells #[.int .i64 q] 3)) (.slice (some ⟨w1.heap.size, 0, none⟩) (setL (Gr.only q) n).length 1) (setL (Gr.only q) n) ∧ setL (Gr.only q) n = [(q : Int)] ∧ Below w1.heap.size w1 (w1.alloc (.cells #[.int .i64 q] 3))) := ⟨by rw [hs0]; exact hr0, hs0, hb2⟩
  clear hF hR hrow hent hb1 hb2 hr0 hs0
  go_wp2
  go_loopg [10, 11] ((grL n L HG.out).muB (Gr.only q, true)) (fun gk sv ag wr => ∃ (b : Nat → Bool) (s : Bool) (asv : Option Addr) (csv : Nat), sv = .slice asv (setL b n).length csv ∧ ag = .bool s ∧ RInts wr (.slice asv (setL b n).length csv) (setL b n) ∧ gk = (grL n L HG.out).muB (b, s) ∧
    (grL n L HG.out).burnt f q = (Gr.loopW Prod.snd ((grL n L HG.out).bP f) ((grL n L HG.out).muB (b, s)) (b, s)).1 ∧ AtA asv w1.heap.size ∧ Below w1.heap.size w1 wr)
  case atStart => exact ⟨Gr.only q, true, some ⟨w1.heap.size, 0, none⟩, 1, by rw [HS.out.2.1]; rfl, rfl, HS.out.1, rfl, rfl, (fun x e => by cases e; exact Nat.le_refl _), HS.out.2.2⟩
  case round =>
    obtain ⟨b, s, asv, csv, rfl, rfl, hsv, rfl, htot, hat, hbw⟩ := hrel
    have HAT := hid hat
    clear hat
    obtain ⟨wo, rfl⟩ : ∃ wo : World, wo = wr := ⟨_, rfl⟩
    have HSV := hid hsv
    have HTOT := hid htot
    have HBW := hid hbw
    clear hsv htot hbw HS
    cases s with
    | false =>
      have HE : Hid ((grL n L HG.out).burnt f q = b) := by show _ = _; rw [HTOT.out, Gr.loopW_no rfl]
      go_wp2
      go_ret
      exact ⟨_, rfl, by rw [HE.out]; exact HSV.out, HB1.out.trans (HBW.out.mono hsz), fun a n c e => Nat.le_trans hsz (HAT.out.b a n c e)⟩
    | true =>
      have hmu := ((grL n L HG.out).stepB f (b, true) trivial rfl).2
      have HMU := hid hmu
      have HT2 : Hid ((grL n L HG.out).burnt f q = (Gr.loopW Prod.snd ((grL n L HG.out).bP f) ((grL n L HG.out).muB ((grL n L HG.out).bP f (b, true))) ((grL n L HG.out).bP f (b, true))).1) := by
        show _ = _
        rw [HTOT.out, Gr.loopW_yes ((grL n L HG.out).stepB f) trivial rfl]
      clear hmu
      go_wp2
      go_loopg [10, 11, 12] n (fun gk sv ag vv wr => ∃ (k : Nat) (asv : Option Addr) (csv : Nat), sv = .slice asv (setL ((grL n L HG.out).bN f k (b, false)).1 n).length csv ∧ ag = .bool ((grL n L HG.out).bN f k (b, false)).2 ∧ k ≤ n ∧ gk = n - k ∧ vv = .int .i64 k ∧
        RInts wr (.slice asv (setL ((grL n L HG.out).bN f k (b, false)).1 n).length csv) (setL ((grL n L HG.out).bN f k (b, false)).1 n) ∧ AtA asv w1.heap.size ∧ Below w1.heap.size w1 wr)
      case atStart => exact ⟨0, asv, csv, rfl, rfl, Nat.zero_le _, rfl, rfl, HSV.out, HAT.out, HBW.out⟩
      case round =>
        obtain ⟨k, asv', csv', rfl, rfl, hk, rfl, rfl, hsv, hat, hbw⟩ := hrel
        have HAT1 := hid hat
        clear hat
        obtain ⟨wi, rfl⟩ : ∃ wi : World, wi = wr := ⟨_, rfl⟩
        by_cases hlt : k < n
        · obtain ⟨st, hst⟩ : ∃ st, (grL n L HG.out).bN f k (b, false) = st := ⟨_, rfl⟩
          have hnext : (grL n L HG.out).bN f (k + 1) (b, false) = (grL n L HG.out).brn f st k := by rw [← hst]; rfl
          have HNEXT := hid hnext
          rw [hst] at hsv ⊢
          obtain ⟨b', s'⟩ := st
          have HSV1 := hid hsv
          have HBW1 := hid hbw
          have hll := setL_len b' n
          obtain ⟨N, hN⟩ : ∃ N, (setL b' n).length = N := ⟨_, rfl⟩
          have HN := hid hN
          have hN8 : N ≤ 8 := by omega
          have e1 := (hbw.cell (p := ⟨gM, oM + k, none⟩) (cell_lt (HROW.out k hlt))).trans (HROW.out k hlt)
          have e2 : wi.cell? ⟨gd, od + k, none⟩ = some (.int .i64 (f k)) := (hbw.cell (p := ⟨gd, od + k, none⟩) (Nat.lt_of_lt_of_le (cell_lt (HDC.out k hlt)) hsz)).trans ((HB1.out.cell (p := ⟨gd, od + k, none⟩) (cell_lt (HDC.out k hlt))).trans (HDC.out k hlt))
          have hfb := HBF.out k hlt
          obtain ⟨y, hy⟩ : ∃ y, f k = y := ⟨_, rfl⟩
          rw [hy] at e2 hfb
          have HY := hid hy
          have hkz : (k : Int) < (n : Int) := by omega
          have HEC := hid (fun j (hj : j < n) => (hbw.cell (p := ⟨Gm k, Om k + j, none⟩) (cell_lt (HENT.out k j hlt hj))).trans (HENT.out k j hlt hj))
          have hlv : ∀ j, j < n → lapV n L k j = if j = k then valV n L k else - mulL L k j := fun j _ => by
            unfold lapV; split <;> rfl
          have HLV := hid hlv
          have hhas : hasB (setL b' n) (k : Int) = b' k := hasB_setL hlt
          have HHAS := hid hhas
          dsimp only at hsv ⊢
          rw [hN] at hsv ⊢
          obtain ⟨aa, cc, hvv, hN2, hc2, hlc⟩ := hsv
          simp only [Value.slice.injEq] at hvv
          obtain ⟨rfl, -, rfl⟩ := hvv
          have HLC := hid hlc
          clear hst hnext hN hy hlv hhas hll hlc hbw
          go_wp2
          go_loopg [13, 29] N (fun gk ed iv wr => ∃ j : Nat, j ≤ N ∧ gk = N - j ∧ iv = .int .i64 j ∧ ed = .int .i64 (edgS L k ((setL b' n).take j)) ∧ wr = wi)
          case atStart => exact ⟨0, Nat.zero_le _, rfl, rfl, rfl, rfl⟩
          case round =>
            obtain ⟨j, hj, rfl, rfl, rfl, rfl⟩ := hrel
            by_cases hltj : j < N
            · obtain ⟨gs, os, rfl, hcs⟩ := HLC.out j (by rw [HN.out]; exact hltj)
              have hmem : (setL b' n).getD j 0 ∈ setL b' n := by simp [List.getD, show j < (setL b' n).length by rw [HN.out]; exact hltj]
              obtain ⟨t, ht1, _, ht3⟩ := mem_setL.1 hmem
              rw [ht3] at hcs
              have htake : (setL b' n).take (j + 1) = (setL b' n).take j ++ [(t : Int)] := by
                have hjl : j < (setL b' n).length := by rw [HN.out]; exact hltj
                rw [List.take_succ_eq_append_getElem hjl]
                have := ht3
                simp [List.getD, hjl] at this
                rw [this]
              have hsn := edgS_snoc L k ((setL b' n).take j) (t : Int)
              rw [← htake, Int.toNat_natCast] at hsn
              have hbd := edgS_bound HG.out k ((setL b' n).take j)
              have hbl : ((setL b' n).take j).length ≤ 8 := by rw [List.length_take, HN.out]; omega
              obtain ⟨E, hE⟩ : ∃ E, edgS L k ((setL b' n).take j) = E := ⟨_, rfl⟩
              rw [hE] at hsn hbd ⊢
              have hbE : 0 ≤ E ∧ E ≤ 40 := by omega
              have htz : (t : Int) < (n : Int) := by omega
              have hm := mulL_bound HG.out.each HG.out.sorted k t
              have hent := HEC.out t ht1
              have hlv := HLV.out t ht1
              by_cases htk : t = k
              · have t1 : ((t : Int) == (k : Int)) = true := beq_nat_true htk
                have t2 : ((t : Int) != (k : Int)) = false := bne_of_true t1
                have h0 : mulL L k t = 0 := by rw [htk]; exact (grL n L HG.out).irr k
                rw [h0] at hsn
                have HSN := hid hsn
                clear hsn hbd hbl hE htake hmem ht3 htk hlv hent h0 hm
                go_wp2
                go_roundg (N - (j + 1))
                case rel => exact ⟨j + 1, by omega, rfl, by go_num, by rw [HSN.out] <;> go_num, rfl⟩
                case measure => omega
              · have t1 : ((t : Int) == (k : Int)) = false := beq_nat_false htk
                have t2 : ((t : Int) != (k : Int)) = true := bne_of_false t1
                rw [hlv, if_neg htk] at hent
                obtain ⟨m, hmm⟩ : ∃ m, mulL L k t = m := ⟨_, rfl⟩
                rw [hmm] at hent hsn hm
                have HSN := hid hsn
                clear hsn hbd hbl hE htake hmem ht3 htk hlv hmm
                go_wp2
                go_roundg (N - (j + 1))
                case rel => exact ⟨j + 1, by omega, rfl, by go_num, by rw [HSN.out] <;> go_num, rfl⟩
                case measure => omega
            · have hjn : (setL b' n).take j = setL b' n := List.take_of_length_le (by rw [HN.out]; omega)
              have hE : edgS L k ((setL b' n).take j) = (grL n L HG.out).edges b' k := by rw [hjn]; exact edgS_setL HG.out k b'
              have hbd := edgS_bound HG.out k (setL b' n)
              rw [edgS_setL HG.out k b'] at hbd
              have hbl := HN.out
              rw [hE]
              obtain ⟨E, hEE⟩ : ∃ E, (grL n L HG.out).edges b' k = E := ⟨_, rfl⟩
              rw [hEE] at hbd ⊢
              have hbE : 0 ≤ E ∧ E ≤ 40 := by omega
              have HEE := hid hEE
              obtain ⟨bk, hbk⟩ : ∃ bk, b' k = bk := ⟨_, rfl⟩
              have hh := HHAS.out
              rw [hbk] at hh
              have HHH := hid hh
              have HBK := hid hbk
              have hsv2 := HSV1.out
              rw [HN.out] at hsv2
              have HSV2 := hid hsv2
              clear hE hEE hbd hbl hjn hbk hh hsv2
              cases bk with
              | true =>
                have HBR : Hid ((grL n L HG.out).brn f (b', s') k = (b', s')) := by
                  show _ = _; unfold Gr.brn; rw [if_neg]; rintro ⟨h1, _⟩; dsimp only at h1; rw [HBK.out] at h1; cases h1
                go_wp2_with (go_at_call 206; (with_reducible refine (l1Has_c _ (setL b' n) _ _ HSV2.out).mono ?_); rintro e w' ⟨rfl, rfl⟩; rw [HHH.out])
                go_roundg (n - (k + 1))
                case rel => exact ⟨k + 1, _, _, by rw [HNEXT.out, HBR.out, HN.out], by rw [HNEXT.out, HBR.out], by omega, rfl, by go_num, by rw [HNEXT.out, HBR.out]; exact HSV1.out, HAT1.out, HBW1.out⟩
                case measure => omega
              | false =>
                by_cases hc : y < E
                · have HBR : Hid ((grL n L HG.out).brn f (b', s') k = (Gr.mark b' k, true)) := by
                    show _ = _; unfold Gr.brn; rw [if_pos]; exact ⟨HBK.out, by dsimp only; rw [HY.out, HEE.out]; exact hc⟩
                  go_wp2_with (first
                    | (go_at_call 206; (with_reducible refine (l1Has_c _ (setL b' n) _ _ HSV2.out).mono ?_); rintro e w' ⟨rfl, rfl⟩; rw [HHH.out])
                    | (go_at_call 207; (with_reducible refine (l1Put_n _ (setL b' n) _ _ HSV2.out (by rw [HN.out]; omega)).mono ?_); rintro e w5 ⟨u5, rfl, hr5, hb5, hat5⟩; rw [putL_setL b' n hlt] at hr5; obtain ⟨au5, cu5, rfl⟩ : ∃ a c, u5 = .slice a (setL (Gr.mark b' k) n).length c := (by obtain ⟨a, c, e, _⟩ := hr5; exact ⟨a, c, e⟩); have HH5 := hid (And.intro hr5 hb5); have HA5 := hid ((hat5 _ HBW1.out.size HAT1.out.b).a); clear hr5 hb5 hat5))
                  go_roundg (n - (k + 1))
                  case rel => exact ⟨k + 1, _, _, by rw [HNEXT.out, HBR.out], by rw [HNEXT.out, HBR.out], by omega, rfl, by go_num, by rw [HNEXT.out, HBR.out]; exact HH5.out.1, HA5.out, HBW1.out.trans (HH5.out.2.mono HBW1.out.size)⟩
                  case measure => omega
                · have HBR : Hid ((grL n L HG.out).brn f (b', s') k = (b', s')) := by
                    show _ = _; unfold Gr.brn; rw [if_neg]; rintro ⟨_, h2⟩; dsimp only at h2; rw [HY.out, HEE.out] at h2; exact hc h2
                  go_wp2_with (go_at_call 206; (with_reducible refine (l1Has_c _ (setL b' n) _ _ HSV2.out).mono ?_); rintro e w' ⟨rfl, rfl⟩; rw [HHH.out])
                  go_roundg (n - (k + 1))
                  case rel => exact ⟨k + 1, _, _, by rw [HNEXT.out, HBR.out, HN.out], by rw [HNEXT.out, HBR.out], by omega, rfl, by go_num, by rw [HNEXT.out, HBR.out]; exact HSV1.out, HAT1.out, HBW1.out⟩
                  case measure => omega
        · obtain rfl : k = n := by omega
          have HO := hid (And.intro hsv hbw)
          clear hsv hbw
          go_wp2
          go_roundg ((grL k L HG.out).muB ((grL k L HG.out).bP f (b, true)))
          case rel => exact ⟨((grL k L HG.out).bP f (b, true)).1, ((grL k L HG.out).bP f (b, true)).2, asv', csv', rfl, rfl, HO.out.1, rfl, HT2.out, HAT1.out, HO.out.2⟩
          case measure => exact HMU.out

end Go.Proofs.Ytlehhfmbdcmpoaa
