/- BaseVertices: both. -/
import Derived.Test.YtlehhfmbdcmpoaaRankF
namespace Go.Proofs.Ytlehhfmbdcmpoaa
open Go.RowKit
open Go.Lib (hid)

/-- a chip less at a vertex -/
def lessAt (f : Nat → Int) (v : Nat) : Nat → Int := upd f v (f v - 1)
/-- the vertices without a chip of which the rank is the same -/
noncomputable def basP (n : Nat) (L : List Lnk) (f : Nat → Int) (v : Nat) : Bool := rkZ n L (lessAt f v) == rkZ n L f
noncomputable def basB (n : Int) (L : List Lnk) (d : List Int) : List Int × Bool := if raAB n L d then (setL (basP n.toNat L (fun i => d.getD i 0)) n.toNat, true) else ([], false)
theorem basB_yes {n : Int} {L : List Lnk} {d : List Int} (h : raAB n L d = true) : basB n L d = (setL (basP n.toNat L (fun i => d.getD i 0)) n.toNat, true) := by unfold basB; rw [h]; rfl
theorem basB_no {n : Int} {L : List Lnk} {d : List Int} (h : raAB n L d = false) : basB n L d = ([], false) := by unfold basB; rw [h]; rfl
theorem basB_len (n : Int) (L : List Lnk) (d : List Int) : (basB n L d).1.length ≤ 1048576 := by
  rcases Bool.eq_false_or_eq_true (raAB n L d) with t | t
  · rw [basB_yes t]
    have h1 := setL_len (basP n.toNat L (fun i => d.getD i 0)) n.toNat
    obtain ⟨m, hm, _, _, _, _, hG, _⟩ := ask_parts t
    have := hG.n8
    dsimp only; omega
  · rw [basB_no t]; simp
/-- small, and with a chip less -/
theorem lessAt_small {m : Nat} {d : List Int} {n : Int} {L : List Lnk} (h : raAB n L d = true) (hl : d.length = m) (v : Nat) : small8 m (lessAt (fun i => d.getD i 0) v) ∧ sumN m (lessAt (fun i => d.getD i 0) v) ≤ 8 := by
  unfold raAB at h
  simp only [Bool.and_eq_true] at h
  obtain ⟨_, hb⟩ := raCB_parts h.2
  have h8 : d.sum ≤ 8 := by
    have h2 := h.2
    unfold raCB at h2
    simp only [Bool.and_eq_true, decide_eq_true_eq] at h2
    exact h2.2.2
  refine ⟨fun i _ => ?_, ?_⟩
  · have h1 := getD_bound hb (by decide) i
    have h2 := getD_bound hb (by decide) v
    unfold lessAt upd
    dsimp only
    split <;> omega
  · have h3 : sumN m (lessAt (fun i => d.getD i 0) v) ≤ sumN m (fun i => d.getD i 0) := sumN_le (fun i _ => by
      unfold lessAt upd
      dsimp only
      split
      · rename_i e; rw [e]; omega
      · exact Int.le_refl _)
    rw [sum_getD hl] at h3
    omega

set_option maxRecDepth 100000 in
set_option maxHeartbeats 2000000 in
theorem sBaseVertices_u (n : Int) (v : Value) (L : List Lnk) (u : Value) (d : List Int) (w : World) (h : RLinks w v L) (hd : RInts w u d) :
    Calls Try.prog 10 #[.int .i64 n, v, u] w (RetIB w (basB n L d)) := by
  have HR := hid h
  have HD := hid hd
  obtain ⟨a, cap, rfl⟩ := h.form
  obtain ⟨a2, cap2, rfl, _, _, hc⟩ := hd
  clear h hc
  rcases Bool.eq_false_or_eq_true (raAB n L d) with t1 | t1
  · obtain ⟨m, hm, hn, hl, hs, h8, hG, hcn⟩ := ask_parts t1
    have hy := basB_yes t1
    have HDL := hid (rints_lst HD.out hl)
    have hlS := lessAt_small t1 hl
    have hbd := fun i => getD_bound (B := 8) (raCB_parts (by unfold raAB at t1; simp only [Bool.and_eq_true] at t1; exact t1.2)).2 (by decide) i
    rw [hm] at hy
    rw [← sum_getD hl] at h8
    obtain ⟨f, hf⟩ : ∃ f : Nat → Int, (fun i => d.getD i 0) = f := ⟨_, rfl⟩
    have hbf : ∀ i, -8 ≤ f i ∧ f i ≤ 8 := fun i => by rw [← hf]; exact hbd i
    rw [hf] at hy hs h8 hlS HDL
    have hn8 := hG.n8
    subst hn
    have HY := hid hy
    have HS := hid (And.intro hs h8)
    have HLS := hid hlS
    have HBF := hid hbf
    have HLL : Hid (d.length ≤ 1048576) := by have : d.length = m := hl; show _ ≤ _; omega
    have HT := hid t1
    clear hy hs hm hl h8 hlS hf hbd hbf t1
    go_enter Try.func10, Try.ntmps10
    go_wp2_with fail
    refine (raAsked_c _ _ _ L d _ HR.out HD.out).mono ?_
    rintro e w1 ⟨rfl, hb1⟩
    rw [HT.out]
    have HB1 := hid hb1
    have HR1 := hid (HR.out.keep hb1)
    have HD1 := hid (HDL.out.keep hb1)
    have HDD := hid (HD.out.keep hb1)
    clear hb1
    go_wp2_with fail
    refine (raRank_c m _ _ L f _ HR1.out hG hcn HD1.out HS.out.1 HS.out.2).mono ?_
    rintro e w2 ⟨rfl, hb2⟩
    have HB2 := hid (HB1.out.trans (hb2.mono HB1.out.size))
    have HR2 := hid (HR1.out.keep hb2)
    have HD2 := hid (HD1.out.keep hb2)
    have HDD2 := hid (HDD.out.keep hb2)
    have hsz2 := HB2.out.size
    obtain ⟨rk, hrk⟩ : ∃ rk, rkZ m L f = rk := ⟨_, rfl⟩
    rw [hrk]
    have HRK := hid hrk
    clear hb2 hrk
    go_wp2
    go_loopg [8, 10] m (fun gk out iv wr => ∃ (i : Nat) (a : Option Addr) (k c : Nat), out = .slice a k c ∧ iv = .int .i64 i ∧ i ≤ m ∧ gk = m - i ∧ k ≤ i ∧ (setL (basP m L f) i).length = k ∧ FInts wr w2.heap.size wr.heap.size (.slice a k c) (setL (basP m L f) i) ∧ Below w2.heap.size w2 wr)
    case atStart => exact ⟨0, none, 0, 0, rfl, rfl, Nat.zero_le _, rfl, Nat.le_refl _, rfl, ints_nil _ _ _, Below.refl _ _⟩
    case round =>
      obtain ⟨i, a3, k3, c3, rfl, rfl, hi, rfl, hki, hlk, hF, hb⟩ := hrel
      have HF := hid hF
      have HB := hid hb
      have HLK := hid hlk
      clear hF hb hlk
      by_cases hlt : i < m
      · have hltz : (i : Int) < (m : Int) := by omega
        go_wp2_with fail
        refine (l1Own_c _ (lst m f) _ (HD2.out.keep HB.out) (by rw [lst_len]; omega)).mono ?_
        rintro e w3 ⟨u3, rfl, hF3, hb3⟩
        obtain ⟨g3, c3', rfl, hg1, hg2⟩ := fi_form hF3 (by omega)
        obtain ⟨hc3, _, hset3⟩ := fi_open hF3
        have e1 := (hc3 i hlt).1
        have e2 := (hc3 i hlt).2
        have hst := hset3 i (f i - 1) hlt
        have hbi := HBF.out i
        have hsz3 := hb3.size
        obtain ⟨y, hy⟩ : ∃ y, f i = y := ⟨_, rfl⟩
        have hFW := (HF.out.keep hb3).same (.of_touch hst.2 (.inl (Nat.le_refl _)))
        have hBW := HB.out.trans ((hb3.trans (hst.2.below (Nat.le_refl _) hsz3)).mono HB.out.size)
        have HNX := hid (show FInts _ _ _ _ (lst m (lessAt f i)) from hst.1)
        rw [hy] at e1 hst hbi hFW hBW HNX
        have f1 : IntKind.i64.wrap (y - 1) = y - 1 := IntWalk.i64_in _ (by omega)
        have HFV := hid hFW
        have HBW := hid hBW
        clear hF3 hb3 hc3 hset3 hst hy hbi hFW hBW
        go_wp2_with fail
        refine (raRank_c m _ _ L (lessAt f i) _ (HR2.out.keep HBW.out) hG hcn HNX.out.r (HLS.out i).1 (HLS.out i).2).mono ?_
        rintro e w4 ⟨rfl, hb4⟩
        have HFW := hid ((HFV.out.keep hb4).mono (Nat.le_refl _) (Nat.le_trans hsz3 (by have := hb4.size; simpa [World.setCell] using this)))
        have HBV := hid (HBW.out.trans (hb4.mono HBW.out.size))
        clear hb4 e1 e2 f1
        obtain ⟨x, hx⟩ : ∃ x, rkZ m L (lessAt f i) = x := ⟨_, rfl⟩
        rw [hx]
        have hbp : basP m L f i = (x == rk) := by unfold basP; rw [hx, HRK.out]
        clear hx
        rcases Bool.eq_false_or_eq_true (x == rk) with tb | tb
        · have HX : Hid (setL (basP m L f) i ++ [(i : Int)] = setL (basP m L f) (i + 1)) := by show _ = _; rw [setL_succ_yes (hbp.trans tb)]
          have hkm : k3 ≤ 1048576 := by omega
          clear hbp
          go_wp2_with (at_builtin; (refine wpList_push_r (W0 := w2) rfl _ _ rfl w2.heap.size (.slice a3 k3 c3) (setL (basP m L f) i) (i : Int) rfl rfl HFW.out HBV.out HBV.out.size k3 HLK hkm _ HX ?_; intro g7 c7 w7 hF7 hb7; have HF7 := hid hF7; have HB7 := hid hb7; clear hF7 hb7))
          go_roundg (m - (i + 1))
          case rel => exact ⟨i + 1, _, k3 + 1, _, rfl, by go_num, by omega, rfl, by omega, by rw [← HX.out, List.length_append, HLK.out]; rfl, HF7.out, HB7.out⟩
          case measure => omega
        · have HX : Hid (setL (basP m L f) (i + 1) = setL (basP m L f) i) := by show _ = _; rw [setL_succ_no (hbp.trans tb)]
          clear hbp
          go_wp2
          go_roundg (m - (i + 1))
          case rel => exact ⟨i + 1, _, k3, _, rfl, by go_num, by omega, rfl, by omega, by rw [HX.out]; exact HLK.out, by rw [HX.out]; exact HFW.out, HBV.out⟩
          case measure => omega
      · obtain rfl : i = m := by omega
        go_wp2
        go_ret2
        exact ⟨_, by rw [HY.out]; rfl, by rw [HY.out]; exact HF.out.mono hsz2 (Nat.le_refl _), HB2.out.trans (HB.out.mono hsz2)⟩
  · have HE := hid (basB_no t1)
    go_enter Try.func10, Try.ntmps10
    go_wp2_with fail
    refine (raAsked_c _ _ _ L d _ HR.out HD.out).mono ?_
    rintro e w1 ⟨rfl, hb1⟩
    rw [t1]
    go_wp2
    go_ret2
    exact ⟨_, by rw [HE.out]; rfl, by rw [HE.out]; exact ints_nil _ _ _, hb1⟩

/-- a set as marks -/
def mrkF (l : List Int) (u : Nat) : Int := if hasB l u then 1 else 0
theorem mrkF_take {l : List Int} {i : Nat} (h : i < l.length) {a : Nat} (ha : l.getD i 0 = a) (n : Nat) : lst n (upd (mrkF (l.take i)) a 1) = lst n (mrkF (l.take (i + 1))) := lst_congr fun u _ => by
  have ht : l.take (i + 1) = l.take i ++ [l.getD i 0] := by rw [List.take_add_one]; simp [List.getD, h]
  rw [ht, ha]
  unfold upd mrkF
  by_cases e : u = a
  · rw [if_pos e, if_pos]
    rw [hasB_mem]; simp [e]
  · rw [if_neg e]
    have : hasB (l.take i ++ [(a : Int)]) u = hasB (l.take i) u := by
      rw [Bool.eq_iff_iff, hasB_mem, hasB_mem, List.mem_append, List.mem_singleton]
      constructor
      · rintro (h | h)
        · exact h
        · omega
      · exact .inl
    rw [this]

set_option maxRecDepth 100000 in
set_option maxHeartbeats 2000000 in
theorem scriptOf_c (n : Nat) (p v : Value) (L : List Lnk) (l : List Int) (w : World) (hp : RG w p n L) (hn : n ≤ 1000) (h : RInts w v l) (hl : ∀ x ∈ l, 0 ≤ x ∧ x < (n : Int)) :
    Calls Try.prog 97 #[p, v] w (RetInts w (lst n (mrkF l))) := by
  obtain ⟨g, bt, vt, rfl, c0, _, _, _, _, _⟩ := hp
  have HR := hid h
  obtain ⟨a, cap, rfl, h1, h2, hc⟩ := h
  clear hc
  unfold maxLen at h2
  have HL := hid hl
  have hmk := run_make_row' (P := Try.prog) 23 3 (.int .i64 0) 8 Try.underlying23 Try.infoInt rfl .i64 .i64 n (by omega) (by omega)
  have HF0 := hid (fi_made w n (by omega))
  have HB0 : Hid (Below w.heap.size w (w.alloc (.cells (madeCells #[.int .i64 0] n) 3))) := (Below.refl _ _).alloc (Nat.le_refl _) _
  clear hl
  go_enter Try.func97, Try.ntmps97
  go_wp2
  clear hmk c0
  go_loopg [15] l.length (fun gk vv wr => ∃ i : Nat, i ≤ l.length ∧ gk = l.length - i ∧ vv = .int .i64 i ∧ FInts wr w.heap.size (w.heap.size + 1) (.slice (some ⟨w.heap.size, 0, none⟩) n n) (lst n (mrkF (l.take i))) ∧ Below w.heap.size w wr ∧ w.heap.size + 1 ≤ wr.heap.size)
  case atStart => exact ⟨0, Nat.zero_le _, rfl, rfl, HF0.out, HB0.out, by simp⟩
  case round =>
    obtain ⟨i, hi, rfl, rfl, hF, hb, hsz⟩ := hrel
    by_cases hlt : i < l.length
    · have hm := HR.out.keep hb
      obtain ⟨a2, cap2, he, _, _, hc⟩ := hm
      simp only [Value.slice.injEq, true_and] at he
      obtain ⟨rfl, rfl⟩ := he
      obtain ⟨g, o, x, rfl, hcell, HD, HX⟩ := ints_at hc hlt
      have hmem : x ∈ l := by rw [← HX.out]; simp [List.getD, List.getElem?_eq_getElem hlt]
      have hx := HL.out x hmem
      obtain ⟨y, rfl⟩ : ∃ y : Nat, x = y := ⟨x.toNat, by omega⟩
      obtain ⟨hc0, _, hset⟩ := fi_open hF
      have hyn : y < n := by omega
      have b2 := (hc0 y hyn).2
      have b1 := (hc0 y hyn).1
      have hst := hset y 1 hyn
      rw [mrkF_take hlt HX.out] at hst
      have HO := hid (And.intro hst.1 (And.intro (hb.trans (hst.2.below (Nat.le_refl _) hb.size)) (Nat.le_trans hsz hst.2.size)))
      have hiz : (i : Int) < (l.length : Int) := by omega
      have hyz : (y : Int) < (n : Int) := by omega
      clear hF hb hc hc0 hset hst hmem hx HD HX
      go_wp2
      go_roundg (l.length - (i + 1))
      case rel => exact ⟨i + 1, by omega, rfl, by go_num, HO.out⟩
      case measure => omega
    · obtain rfl : i = l.length := by omega
      rw [List.take_length] at hF
      have HF := hid (And.intro hF (And.intro hb hsz))
      clear hF hb
      go_wp2
      go_ret
      exact ⟨_, rfl, HF.out.1.mono (Nat.le_refl _) HF.out.2.2, HF.out.2.1⟩

theorem less_one (n : Nat) (f : Nat → Int) {v : Nat} : lst n (fun i => f i - mrkF [(v : Int)] i) = lst n (lessAt f v) := lst_congr fun i _ => by
  unfold lessAt upd mrkF
  by_cases e : i = v
  · rw [if_pos e, if_pos (by rw [hasB_mem]; simp [e]), e]
  · rw [if_neg e, if_neg (by rw [hasB_mem]; simp; omega), Int.sub_zero]

set_option maxRecDepth 100000 in
set_option maxHeartbeats 2000000 in
theorem iBaseVertices_u (n : Int) (v : Value) (L : List Lnk) (u : Value) (d : List Int) (w : World) (h : RLinks w v L) (hd : RInts w u d) :
    Calls Try.prog 13 #[.int .i64 n, v, u] w (RetIB w (basB n L d)) := by
  have HR := hid h
  have HD := hid hd
  obtain ⟨a, cap, rfl⟩ := h.form
  obtain ⟨a2, cap2, rfl, _, _, hc⟩ := hd
  clear h hc
  rcases Bool.eq_false_or_eq_true (raAB n L d) with t1 | t1
  · obtain ⟨m, hm, hn, hl, hs, h8, hG, hcn⟩ := ask_parts t1
    have hy := basB_yes t1
    have HDL := hid (rints_lst HD.out hl)
    have hlS := lessAt_small t1 hl
    have hbd := fun i => getD_bound (B := 8) (raCB_parts (by unfold raAB at t1; simp only [Bool.and_eq_true] at t1; exact t1.2)).2 (by decide) i
    rw [hm] at hy
    rw [← sum_getD hl] at h8
    obtain ⟨f, hf⟩ : ∃ f : Nat → Int, (fun i => d.getD i 0) = f := ⟨_, rfl⟩
    have hbf : ∀ i, -8 ≤ f i ∧ f i ≤ 8 := fun i => by rw [← hf]; exact hbd i
    rw [hf] at hy hs h8 hlS HDL
    have hn8 := hG.n8
    have hn1 := hG.n1
    subst hn
    have HY := hid hy
    have HS := hid (And.intro hs h8)
    have HLS := hid hlS
    have HBF := hid hbf
    have HT := hid t1
    clear hy hs hm hl h8 hlS hf hbd hbf t1
    go_enter Try.func13, Try.ntmps13
    go_wp2_with fail
    refine (smallGame_yes m _ _ L d _ HR.out HD.out HT.out).mono ?_
    rintro e w1 ⟨g, rfl, hg, hb1⟩
    have hal : Below w1.heap.size w1 (w1.alloc (.cells #[] 3)) := (Below.refl _ _).alloc (Nat.le_refl _) _
    have HB0 := hid hb1
    have HG0 := hid hg
    have HB1 := hid hal
    have HG1 := hid (hg.keep hal)
    have HDW := hid (HDL.out.keep hb1)
    have HD1 := hid (HDW.out.keep hal)
    have HE1 := hid (ints_empty w1 w1.heap.size (Nat.le_refl _))
    have hsz1 := hb1.size
    clear hb1 hg hal
    go_wp2_with fail
    refine (rank_c m _ _ L f _ HG1.out hG hcn HD1.out HS.out.1 HS.out.2).mono ?_
    rintro e w2 ⟨rfl, hb2⟩
    have HB2 := hid (HB1.out.trans (hb2.mono HB1.out.size))
    have HE2 := hid ((HE1.out.keep hb2).mono (lo' := w1.heap.size) (hi' := w2.heap.size) (Nat.le_refl _) (by have := hb2.size; simpa using this))
    obtain ⟨rk, hrk⟩ : ∃ rk, rkZ m L f = rk := ⟨_, rfl⟩
    rw [hrk]
    have HRK := hid hrk
    clear hb2 hrk
    go_wp2
    go_loopg [10, 27] m (fun gk out iv wr => ∃ (i : Nat) (a : Option Addr) (k c : Nat), out = .slice a k c ∧ iv = .int .i64 i ∧ i ≤ m ∧ gk = m - i ∧ k ≤ i ∧ (setL (basP m L f) i).length = k ∧ FInts wr w1.heap.size wr.heap.size (.slice a k c) (setL (basP m L f) i) ∧ Below w1.heap.size w1 wr)
    case atStart => exact ⟨0, _, 0, 0, rfl, rfl, Nat.zero_le _, rfl, Nat.le_refl _, rfl, HE2.out, HB2.out⟩
    case round =>
      obtain ⟨i, a3, k3, c3, rfl, rfl, hi, rfl, hki, hlk, hF, hb⟩ := hrel
      obtain ⟨wr, rfl⟩ : ∃ w' : World, w' = wr := ⟨_, rfl⟩
      have HF := hid hF
      have HB := hid hb
      have HLK := hid hlk
      have HG3 := hid (HG0.out.keep hb)
      clear hF hb hlk
      by_cases hlt : i < m
      · have hltz : (i : Int) < (m : Int) := by omega
        have hlit := ints_lit wr wr.heap.size (Nat.le_refl _) [(i : Int)] (by simp)
        have hal : Below wr.heap.size wr (wr.alloc (.cells #[.int .i64 i] 3)) := (Below.refl _ _).alloc (Nat.le_refl _) _
        have HLIT := hid hlit.r
        have HAL := hid hal
        clear hlit hal
        go_wp2_with fail
        refine (scriptOf_c m _ _ L [(i : Int)] _ (HG3.out.keep HAL.out) (by omega) HLIT.out (by simp; omega)).mono ?_
        rintro e w3 ⟨us, rfl, hF3, hb3⟩
        have HUS := hid hF3.r
        have HB3 := hid (HAL.out.trans (hb3.mono HAL.out.size))
        obtain ⟨a5, n5, c5, rfl⟩ := hF3.form3
        clear hF3 hb3
        go_wp2_with fail
        refine (less_c m _ _ f (mrkF [(i : Int)]) _ ((HDW.out.keep HB.out).keep HB3.out) HUS.out (by omega) (by omega) (fun j _ => by have := HBF.out j; omega) (fun j _ => by unfold mrkF; split <;> omega)).mono ?_
        rintro e w4 ⟨ul, rfl, hF4, hb4⟩
        rw [less_one] at hF4
        have HUL := hid hF4.r
        have HB4 := hid (HB3.out.trans (hb4.mono HB3.out.size))
        obtain ⟨a6, n6, c6, rfl⟩ := hF4.form3
        clear hF4 hb4
        go_wp2_with fail
        refine (rank_c m _ _ L (lessAt f i) _ (HG3.out.keep HB4.out) hG hcn HUL.out (HLS.out i).1 (HLS.out i).2).mono ?_
        rintro e w5 ⟨rfl, hb5⟩
        have HB5 := hid (HB4.out.trans (hb5.mono HB4.out.size))
        have HFW := hid ((HF.out.keep HB5.out).mono (Nat.le_refl _) HB5.out.size)
        have HBV := hid (HB.out.trans (HB5.out.mono HB.out.size))
        clear hb5
        obtain ⟨x, hx⟩ : ∃ x, rkZ m L (lessAt f i) = x := ⟨_, rfl⟩
        rw [hx]
        have hbp : basP m L f i = (x == rk) := by unfold basP; rw [hx, HRK.out]
        clear hx
        rcases Bool.eq_false_or_eq_true (x == rk) with tb | tb
        · have HX : Hid (setL (basP m L f) i ++ [(i : Int)] = setL (basP m L f) (i + 1)) := by show _ = _; rw [setL_succ_yes (hbp.trans tb)]
          have hkm : k3 ≤ 1048576 := by omega
          clear hbp
          go_wp2_with (at_builtin; (refine wpList_push_r (W0 := w1) rfl _ _ rfl w1.heap.size (.slice a3 k3 c3) (setL (basP m L f) i) (i : Int) rfl rfl HFW.out HBV.out HBV.out.size k3 HLK hkm _ HX ?_; intro g7 c7 w7 hF7 hb7; have HF7 := hid hF7; have HB7 := hid hb7; clear hF7 hb7))
          go_roundg (m - (i + 1))
          case rel => exact ⟨i + 1, _, k3 + 1, _, rfl, by go_num, by omega, rfl, by omega, by rw [← HX.out, List.length_append, HLK.out]; rfl, HF7.out, HB7.out⟩
          case measure => omega
        · have HX : Hid (setL (basP m L f) (i + 1) = setL (basP m L f) i) := by show _ = _; rw [setL_succ_no (hbp.trans tb)]
          clear hbp
          go_wp2
          go_roundg (m - (i + 1))
          case rel => exact ⟨i + 1, _, k3, _, rfl, by go_num, by omega, rfl, by omega, by rw [HX.out]; exact HLK.out, by rw [HX.out]; exact HFW.out, HBV.out⟩
          case measure => omega
      · obtain rfl : i = m := by omega
        go_wp2
        go_ret2
        exact ⟨_, by rw [HY.out]; rfl, by rw [HY.out]; exact HF.out.mono hsz1 (Nat.le_refl _), HB0.out.trans (HB.out.mono hsz1)⟩
  · have HE := hid (basB_no t1)
    go_enter Try.func13, Try.ntmps13
    go_wp2_with fail
    refine (smallGame_no n _ _ L d _ HR.out HD.out t1).mono ?_
    rintro e w1 ⟨g, rfl, hb1⟩
    go_wp2
    go_ret2
    exact ⟨_, by rw [HE.out]; rfl, by rw [HE.out]; exact ints_nil _ _ _, hb1⟩

end Go.Proofs.Ytlehhfmbdcmpoaa
