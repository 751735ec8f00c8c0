/- The rank of a divisor: both. -/
import Derived.Test.YtlehhfmbdcmpoaaRankC
namespace Go.Proofs.Ytlehhfmbdcmpoaa
open Go.RowKit
open Go.Lib (hid)

theorem allL_sum : ∀ (d k : Nat) (e : List Int), e ∈ allL d k → e.sum = (k : Int) := by
  intro d
  induction d with
  | zero => intro k e he; simp [allL] at he; subst he; simp
  | succ d ih =>
    intro k e he
    simp only [allL, List.mem_flatMap, List.mem_range, List.mem_map] at he
    obtain ⟨x, hx, e', he', rfl⟩ := he
    have := ih _ _ he'
    simp only [List.sum_cons, this]
    omega
theorem allL_ne : ∀ (d k : Nat), ∃ e, e ∈ allL d k := by
  intro d
  induction d with
  | zero => intro k; exact ⟨[(k : Int)], by simp [allL]⟩
  | succ d ih =>
    intro k
    obtain ⟨e, he⟩ := ih k
    exact ⟨((0 : Nat) : Int) :: e, by
      simp only [allL, List.mem_flatMap, List.mem_range, List.mem_map]
      exact ⟨0, by omega, e, by simpa using he, rfl⟩⟩
/-- a degree above the divisor's own breaks it -/
theorem brk_end {n : Nat} {L : List Lnk} (hG : GoodL n L) (hc : (grL n L hG).Conn 0) {f : Nat → Int} (hs : small8 n f) {k : Nat} (hk : k ≤ 15) (h : sumN n f < (k : Int)) : (brkO n L f k).isSome = true := by
  obtain ⟨e, he⟩ := allL_ne (n - 1) k
  have hn1 := hG.n1
  have h1 := allL_mem _ _ e he
  have h2 := allL_sum _ _ e he
  have hsm := small_sub hs hk h1.2
  have hinv := (small_inv hG hsm).1
  have hel : e.length = n := by omega
  have hsum : sumN n (fun i => f i - e.getD i 0) = sumN n f - (k : Int) := by
    rw [sumN_sub, ← lst_sum n (fun i => e.getD i 0), ← lst_of hel, h2]
  have hneg := Gr.red_neg (show 0 < (grL n L hG).n from hn1) (wt0 hG hc) hinv (by rw [hsum]; omega)
  have hw : winB n L (fun i => f i - e.getD i 0) = false := by rw [winB_eq hG hc, decide_eq_false_iff_not]; omega
  unfold brkO
  rw [List.find?_isSome]
  exact ⟨e, he, by rw [hw]; rfl⟩
/-- the rank, looked for from k on -/
noncomputable def rkN (n : Nat) (L : List Lnk) (f : Nat → Int) : Nat → Nat → Int
  | 0, k => (k : Int) - 1
  | m + 1, k => if (brkO n L f k).isSome then (k : Int) - 1 else rkN n L f m (k + 1)
noncomputable def rkZ (n : Nat) (L : List Lnk) (f : Nat → Int) : Int := rkN n L f 10 0
theorem rk_yes {n : Nat} {L : List Lnk} {f : Nat → Int} {k : Nat} (hk : k ≤ 9) (h : (brkO n L f k).isSome = true) : rkN n L f (10 - k) k = (k : Int) - 1 := by
  rw [show 10 - k = (9 - k) + 1 by omega]; simp only [rkN]; rw [if_pos h]
theorem rk_no {n : Nat} {L : List Lnk} {f : Nat → Int} {k : Nat} (hk : k ≤ 9) (h : (brkO n L f k).isSome = false) : rkN n L f (10 - k) k = rkN n L f (10 - (k + 1)) (k + 1) := by
  rw [show 10 - k = (10 - (k + 1)) + 1 by omega]
  simp only [rkN]; rw [if_neg (by rw [h]; decide)]

set_option maxRecDepth 100000 in
set_option maxHeartbeats 1000000 in
theorem raRank_c (n : Nat) (v u : Value) (L : List Lnk) (f : Nat → Int) (w : World) (h : RLinks w v L) (hG : GoodL n L) (hc : (grL n L hG).Conn 0) (hd : RInts w u (lst n f)) (hs : small8 n f) (h8 : sumN n f ≤ 8) :
    Calls Try.prog 91 #[.int .i64 n, v, u] w fun e w' => e = .returned (.int .i64 (rkZ n L f)) ∧ Below w.heap.size w w' := by
  have HR := hid h
  have HD := hid hd
  have hn1 := hG.n1
  obtain ⟨a, cap, rfl⟩ := h.form
  obtain ⟨gd, od, cd, rfl, hcd1, hcd2, _⟩ := ri_open hd (by omega)
  have HS := hid hs
  have HEND : Hid (∀ k, 9 ≤ k → k ≤ 15 → (brkO n L f k).isSome = true) := fun k h1 h2 => brk_end hG hc hs h2 (by omega)
  have HK0 : Hid (rkZ n L f = rkN n L f (10 - 0) 0) := rfl
  clear h hd hs h8
  go_enter Try.func91, Try.ntmps91
  go_wp2
  go_loopg [7] 10 (fun gk kv wr => ∃ k : Nat, k ≤ 9 ∧ gk = 10 - k ∧ kv = .int .i64 k ∧ Below w.heap.size w wr ∧ rkZ n L f = rkN n L f (10 - k) k)
  case atStart => exact ⟨0, Nat.zero_le _, rfl, rfl, Below.refl _ _, HK0.out⟩
  case round =>
    obtain ⟨k, hk, rfl, rfl, hb, hr⟩ := hrel
    have HB := hid hb
    have HRK := hid hr
    have HR1 := hid (HR.out.keep hb)
    have HD1 := hid (HD.out.keep hb)
    clear hb hr
    go_wp2_with fail
    refine (raBreaks_c n k _ _ L f _ HR1.out hG hc HD1.out HS.out (by omega)).mono ?_
    rintro e w1 ⟨q, rfl, hF, hb1⟩
    have HB1 := hid (HB.out.trans (hb1.mono HB.out.size))
    obtain ⟨aq, nq, cq, rfl⟩ := hF.form3
    have hend := HEND.out k
    unfold optB
    dsimp only
    obtain ⟨t, ht⟩ : ∃ t, (brkO n L f k).isSome = t := ⟨_, rfl⟩
    rw [ht] at hend ⊢
    clear hF hb1
    cases t with
    | true =>
      have HE := hid (HRK.out.trans (rk_yes hk ht))
      have f1 : IntKind.i64.wrap ((k : Int) - 1) = (k : Int) - 1 := IntWalk.i64_in _ (by omega)
      clear ht hend
      go_wp2
      go_ret
      exact ⟨by rw [HE.out]; rfl, HB1.out⟩
    | false =>
      have HE := hid (HRK.out.trans (rk_no hk ht))
      have hk8 : k + 1 ≤ 9 := by
        apply Classical.byContradiction; intro hn
        have := hend (by omega) (by omega); cases this
      clear ht hend
      go_wp2
      go_roundg (10 - (k + 1))
      case rel => exact ⟨k + 1, hk8, rfl, by go_num, HB1.out, HE.out⟩
      case measure => omega
set_option maxRecDepth 100000 in
set_option maxHeartbeats 1000000 in
theorem rank_c (n : Nat) (v u : Value) (L : List Lnk) (f : Nat → Int) (w : World) (h : RG w v n L) (hG : GoodL n L) (hc : (grL n L hG).Conn 0) (hd : RInts w u (lst n f)) (hs : small8 n f) (h8 : sumN n f ≤ 8) :
    Calls Try.prog 95 #[v, u] w fun e w' => e = .returned (.int .i64 (rkZ n L f)) ∧ Below w.heap.size w w' := by
  have HR := hid h
  have HD := hid hd
  have hn1 := hG.n1
  obtain ⟨gp, rfl⟩ := h.form
  obtain ⟨gd, od, cd, rfl, hcd1, hcd2, _⟩ := ri_open hd (by omega)
  have HS := hid hs
  have HEND : Hid (∀ k, 9 ≤ k → k ≤ 15 → (brkO n L f k).isSome = true) := fun k h1 h2 => brk_end hG hc hs h2 (by omega)
  have HK0 : Hid (rkZ n L f = rkN n L f (10 - 0) 0) := rfl
  clear h hd hs h8
  go_enter Try.func95, Try.ntmps95
  go_wp2
  go_loopg [5] 10 (fun gk kv wr => ∃ k : Nat, k ≤ 9 ∧ gk = 10 - k ∧ kv = .int .i64 k ∧ Below w.heap.size w wr ∧ rkZ n L f = rkN n L f (10 - k) k)
  case atStart => exact ⟨0, Nat.zero_le _, rfl, rfl, Below.refl _ _, HK0.out⟩
  case round =>
    obtain ⟨k, hk, rfl, rfl, hb, hr⟩ := hrel
    have HB := hid hb
    have HRK := hid hr
    have HR1 := hid (HR.out.keep hb)
    have HD1 := hid (HD.out.keep hb)
    clear hb hr
    go_wp2_with fail
    refine (breaking_c n k _ _ L f _ HR1.out hG hc HD1.out HS.out (by omega)).mono ?_
    rintro e w1 ⟨q, rfl, hF, hb1⟩
    have HB1 := hid (HB.out.trans (hb1.mono HB.out.size))
    obtain ⟨aq, nq, cq, rfl⟩ := hF.form3
    have hend := HEND.out k
    unfold optB
    dsimp only
    obtain ⟨t, ht⟩ : ∃ t, (brkO n L f k).isSome = t := ⟨_, rfl⟩
    rw [ht] at hend ⊢
    clear hF hb1
    cases t with
    | true =>
      have HE := hid (HRK.out.trans (rk_yes hk ht))
      have f1 : IntKind.i64.wrap ((k : Int) - 1) = (k : Int) - 1 := IntWalk.i64_in _ (by omega)
      clear ht hend
      go_wp2
      go_ret
      exact ⟨by rw [HE.out]; rfl, HB1.out⟩
    | false =>
      have HE := hid (HRK.out.trans (rk_no hk ht))
      have hk8 : k + 1 ≤ 9 := by
        apply Classical.byContradiction; intro hn
        have := hend (by omega) (by omega); cases this
      clear ht hend
      go_wp2
      go_roundg (10 - (k + 1))
      case rel => exact ⟨k + 1, hk8, rfl, by go_num, HB1.out, HE.out⟩
      case measure => omega

end Go.Proofs.Ytlehhfmbdcmpoaa
