/- Pencils: the plain theory. -/
import Derived.Test.YtlehhfmbdcmpoaaRankF
import Derived.Test.YtlehhfmbdcmpoaaChipR
namespace Go.Proofs.Ytlehhfmbdcmpoaa
open Go.RowKit
open Go.Lib (hid)

theorem sumN_pick (n : Nat) {B : Nat} (c : Int) (h : B < n) : sumN n (fun u => if u = B then c else 0) = c := by
  rw [sumN_but _ h, if_pos rfl]
  have : sumN n (fun i => if i = B then 0 else if i = B then c else 0) = 0 := sumN_zero (fun i _ => by
    by_cases e : i = B
    · rw [if_pos e]
    · rw [if_neg e, if_neg e])
  omega
theorem link_row (n : Nat) {x : Lnk} {A B : Nat} (ha : x.a = (A : Int)) (hb : x.b = (B : Int)) (hAB : A < B) (hBn : B < n) (v : Nat) :
    sumN n (fun u => if isLnk v u x then x.n else 0) = (if v = A then x.n else 0) + (if v = B then x.n else 0) := by
  by_cases e1 : v = A
  · rw [if_pos e1, if_neg (by omega)]
    rw [sumN_congr (g := fun u => if u = B then x.n else 0) (fun u _ => by
      have : isLnk v u x = true ↔ u = B := by rw [isLnk_iff, ha, hb]; omega
      by_cases e : u = B
      · rw [if_pos (this.2 e), if_pos e]
      · rw [if_neg (fun h => e (this.1 h)), if_neg e])]
    rw [sumN_pick n _ hBn]; omega
  · by_cases e2 : v = B
    · rw [if_neg e1, if_pos e2]
      rw [sumN_congr (g := fun u => if u = A then x.n else 0) (fun u _ => by
        have : isLnk v u x = true ↔ u = A := by rw [isLnk_iff, ha, hb]; omega
        by_cases e : u = A
        · rw [if_pos (this.2 e), if_pos e]
        · rw [if_neg (fun h => e (this.1 h)), if_neg e])]
      rw [sumN_pick n _ (show A < n by omega)]; omega
    · rw [if_neg e1, if_neg e2]
      rw [sumN_zero (fun u _ => if_neg (fun h => by rw [isLnk_iff, ha, hb] at h; omega))]
      rfl
/-- each edge is counted at both its ends -/
theorem handshake (n : Nat) : ∀ L : List Lnk, (∀ x ∈ L, 0 ≤ x.a ∧ x.a < x.b ∧ x.b < n ∧ 1 ≤ x.n ∧ x.n ≤ 5) → sumN n (valV n L) = 2 * edgL L
  | [], _ => by
    rw [sumN_zero (f := valV n []) (fun v _ => sumN_zero (fun u _ => rfl))]; rfl
  | x :: L, h => by
    have ih := handshake n L (fun y hy => h y (List.mem_cons_of_mem _ hy))
    obtain ⟨h1, h2, h3, _, _⟩ := h x (List.mem_cons_self ..)
    obtain ⟨A, hA⟩ : ∃ A : Nat, x.a = (A : Int) := ⟨x.a.toNat, by omega⟩
    obtain ⟨B, hB⟩ : ∃ B : Nat, x.b = (B : Int) := ⟨x.b.toNat, by omega⟩
    have hrow : ∀ v, valV n (x :: L) v = ((if v = A then x.n else 0) + (if v = B then x.n else 0)) + valV n L v := fun v => by
      unfold valV
      rw [sumN_congr (g := fun u => (if isLnk v u x then x.n else 0) + mulL L v u) (fun u _ => mulL_cons x L v u), sumN_add, link_row n hA hB (by omega) (by omega)]
    rw [sumN_congr (g := fun v => ((if v = A then x.n else 0) + (if v = B then x.n else 0)) + valV n L v) (fun v _ => hrow v), sumN_add, sumN_add, sumN_pick n _ (show A < n by omega), sumN_pick n _ (show B < n by omega), ih]
    unfold edgL
    simp only [List.map_cons, List.sum_cons]
    omega
/-- a divisor with as many chips as the genus is won -/
theorem win_genus {n : Nat} {L : List Lnk} (hG : GoodL n L) (hc : (grL n L hG).Conn 0) {f : Nat → Int} (hs : small40 n f) (h : 1 - (n : Int) + edgL L ≤ sumN n f) : winB n L f = true := by
  have hn1 := hG.n1
  have hinv := (small_inv hG hs).1
  obtain ⟨h1, h2⟩ := Gr.red_spec (wt0 hG hc) hinv
  have hh : sumN n (valV n L) = 2 * edgL L := handshake n L hG.each
  have hg : (grL n L hG).gen2 = 2 * edgL L - 2 * (n : Int) + 2 := by
    show sumN n (valV n L) - 2 * (n : Int) + 2 = _
    rw [hh]
  have hr : 0 ≤ Gr.red (wt0 hG hc) f 0 := Gr.riemann (grL n L hG) (show 0 < (grL n L hG).n from hn1) h2 (by
    rw [hg]
    have : sumN (grL n L hG).n (Gr.red (wt0 hG hc) f) = sumN n f := h1.sum
    rw [this]; omega)
  rw [winB_eq hG hc]; simpa using hr
/-- an effective divisor is won -/
theorem win_eff {n : Nat} {L : List Lnk} (hG : GoodL n L) (hc : (grL n L hG).Conn 0) {f : Nat → Int} (hs : small40 n f) (h : ∀ v, v < n → 0 ≤ f v) : winB n L f = true := by
  have hn1 := hG.n1
  have hinv := (small_inv hG hs).1
  rw [winB_eq hG hc]
  simpa using Gr.red_eff (wt0 hG hc) (show 0 < (grL n L hG).n from hn1) hinv h
/-- the numbers of a list, as a divisor -/
def ofL (e : List Int) : Nat → Int := fun i => e.getD i 0
/-- the first effective divisor of degree k that one chip does not break -/
noncomputable def penO (n : Nat) (L : List Lnk) (k : Nat) : Option (List Int) := (allL (n - 1) k).find? (fun e => (brkO n L (ofL e) 1).isNone)
noncomputable def pnN (n : Nat) (L : List Lnk) : Nat → Nat → List Int
  | 0, _ => []
  | m + 1, k => match penO n L k with
    | some e => e
    | none => pnN n L m (k + 1)
noncomputable def penL (n : Nat) (L : List Lnk) : List Int := pnN n L 5 1
theorem eff_small {d k : Nat} (hk : k ≤ 8) {e : List Int} (he : e ∈ allL d k) : small8 (d + 1) (ofL e) := fun i _ => by
  have h := (allL_mem d k e he).2
  show -9 ≤ e.getD i 0 ∧ e.getD i 0 ≤ 8
  by_cases hi : i < e.length
  · have := h (e.getD i 0) (by simp [List.getD, List.getElem?_eq_getElem hi])
    omega
  · simp [List.getD, hi]
/-- above the genus nothing breaks at one chip -/
theorem pen_end {n : Nat} {L : List Lnk} (hG : GoodL n L) (hc : (grL n L hG).Conn 0) {k : Nat} (hk : k ≤ 8) (h : 1 - (n : Int) + edgL L + 1 ≤ (k : Int)) : (penO n L k).isSome = true := by
  have hn1 := hG.n1
  obtain ⟨e, he⟩ := allL_ne (n - 1) k
  have hs : small8 n (ofL e) := by have := eff_small hk he; rwa [show n - 1 + 1 = n by omega] at this
  unfold penO
  rw [List.find?_isSome]
  refine ⟨e, he, ?_⟩
  unfold brkO
  rw [Option.isNone_iff_eq_none, List.find?_eq_none]
  intro e' he' hw
  have h2 := allL_mem _ _ e' he'
  have hl : e.length = n := by have := (allL_mem _ _ e he).1; omega
  have hl' : e'.length = n := by omega
  have hsum : sumN n (fun i => ofL e i - e'.getD i 0) = (k : Int) - 1 := by
    rw [sumN_sub, show sumN n (ofL e) = e.sum from sum_getD hl, sum_getD hl', allL_sum _ _ e he, allL_sum _ _ e' he']; rfl
  rw [win_genus hG hc (small_sub hs (by decide) h2.2) (by rw [hsum]; omega)] at hw
  cases hw
/-- rank at least one is: no chip breaks it -/
theorem rank_one {n : Nat} {L : List Lnk} (hG : GoodL n L) (hc : (grL n L hG).Conn 0) {k : Nat} (hk : k ≤ 8) {e : List Int} (he : e ∈ allL (n - 1) k) : decide (1 ≤ rkZ n L (ofL e)) = (brkO n L (ofL e) 1).isNone := by
  have hn1 := hG.n1
  have hs : small8 n (ofL e) := by have := eff_small hk he; rwa [show n - 1 + 1 = n by omega] at this
  have h0 : brkO n L (ofL e) 0 = none := by
    unfold brkO
    rw [List.find?_eq_none]
    intro e' he' hw
    have h2 := allL_mem _ _ e' he'
    rw [win_eff hG hc (small_sub hs (by decide) h2.2) (fun v _ => by
      have h3 := small_less (k := 0) (by decide) h2.2 v
      have h4 : 0 ≤ ofL e v := by
        show 0 ≤ e.getD v 0
        have h5 := (allL_mem _ _ e he).2
        by_cases hi : v < e.length
        · exact (h5 (e.getD v 0) (by simp [List.getD, List.getElem?_eq_getElem hi])).1
        · simp [List.getD, hi]
      have h6 : e'.getD v 0 = 0 := by
        by_cases hi : v < e'.length
        · have := h2.2 (e'.getD v 0) (by simp [List.getD, List.getElem?_eq_getElem hi]); omega
        · simp [List.getD, hi]
      omega)] at hw
    cases hw
  have hge : ∀ m k : Nat, (k : Int) - 1 ≤ rkN n L (ofL e) m k := by
    intro m
    induction m with
    | zero => intro k; exact Int.le_refl _
    | succ m ih =>
      intro k
      simp only [rkN]
      split
      · exact Int.le_refl _
      · have := ih (k + 1); omega
  have hz : rkZ n L (ofL e) = rkN n L (ofL e) 9 1 := by unfold rkZ; simp only [rkN]; rw [h0]; rfl
  rw [hz]
  cases hb : brkO n L (ofL e) 1 with
  | none =>
    have : rkN n L (ofL e) 9 1 = rkN n L (ofL e) 8 2 := by simp only [rkN]; rw [hb]; rfl
    rw [this]
    have := hge 8 2
    show decide _ = true
    rw [decide_eq_true_iff]; omega
  | some x =>
    have : rkN n L (ofL e) 9 1 = 0 := by simp only [rkN]; rw [hb]; rfl
    rw [this]; rfl

end Go.Proofs.Ytlehhfmbdcmpoaa
