/- FnPencils returns true for every input, and its arguments read as before. No condition. -/
import Derived.Test.YtlehhfmbdcmpoaaPenI
import Derived.Test.YtlehhfmbdcmpoaaPen
import Derived.Test.YtlehhfmbdcmpoaaChipW
import Derived.Test.YtlehhfmbdcmpoaaRankF
import Derived.Test.YtlehhfmbdcmpoaaGraphP
import Derived.Test.YtlehhfmbdcmpoaaPileW
import Derived.Test.YtlehhfmbdcmpoaaBase
import Derived.Test.YtlehhfmbdcmpoaaLawQ
import Derived.Test.YtlehhfmbdcmpoaaMem
import Derived.ProofKit
import Derived.OpenShut
import Derived.ShutString
import Derived.ChangeOld
import Derived.Deep.Matrix
import Derived.Test.YtlehhfmbdcmpoaaCur
/- FirstPencil, GonalityOf: both. -/
namespace Go.Proofs.Ytlehhfmbdcmpoaa
open Go.RowKit
open Go.Lib (hid)

theorem pn_small {n : Nat} {L : List Lnk} (h1 : 1 ≤ n) (hn : n ≤ 8) : ∀ m k : Nat, k + m ≤ 20 → (pnN n L m k).length ≤ 8 ∧ ∀ x ∈ pnN n L m k, 0 ≤ x ∧ x ≤ 20 := by
  intro m
  induction m with
  | zero => intro k _; simp [pnN]
  | succ m ih =>
    intro k hk
    simp only [pnN]
    cases hO : penO n L k with
    | none => exact ih (k + 1) (by omega)
    | some e =>
      have h := allL_mem _ _ e (List.mem_of_find?_eq_some hO)
      exact ⟨by dsimp only; omega, fun x hx => by have := h.2 x hx; omega⟩
noncomputable def fpB (n : Int) (L : List Lnk) : List Int × Bool := if raGB n L then (penL n.toNat L, true) else ([], false)
noncomputable def goB (n : Int) (L : List Lnk) : Int × Bool := if raGB n L then ((penL n.toNat L).sum, true) else (0, false)
theorem fpB_yes {n : Int} {L : List Lnk} (h : raGB n L = true) : fpB n L = (penL n.toNat L, true) := by unfold fpB; rw [h]; rfl
theorem fpB_no {n : Int} {L : List Lnk} (h : raGB n L = false) : fpB n L = ([], false) := by unfold fpB; rw [h]; rfl
theorem goB_yes {n : Int} {L : List Lnk} (h : raGB n L = true) : goB n L = ((penL n.toNat L).sum, true) := by unfold goB; rw [h]; rfl
theorem goB_no {n : Int} {L : List Lnk} (h : raGB n L = false) : goB n L = (0, false) := by unfold goB; rw [h]; rfl
theorem fpB_len (n : Int) (L : List Lnk) : (fpB n L).1.length ≤ 1048576 := by
  rcases Bool.eq_false_or_eq_true (raGB n L) with h | h
  · obtain ⟨m, hm, _, hG, _⟩ := graph_parts h
    have := (pn_small (L := L) hG.n1 hG.n8 5 1 (by decide)).1
    rw [fpB_yes h, hm]
    show (pnN m L 5 1).length ≤ _
    omega
  · rw [fpB_no h]; simp

set_option maxRecDepth 100000 in
set_option maxHeartbeats 1000000 in
theorem sFirstPencil_u (n : Int) (v : Value) (L : List Lnk) (w : World) (h : RLinks w v L) :
    Calls Try.prog 85 #[.int .i64 n, v] w (RetIB w (fpB n L)) := by
  have HR := hid h
  obtain ⟨a, cap, rfl⟩ := h.form
  clear h
  rcases Bool.eq_false_or_eq_true (raGB n L) with t | t
  · obtain ⟨m, hm, hn, hG, hc, hg⟩ := graph_parts t
    have hy := fpB_yes t
    rw [hm] at hy
    subst hn
    have HY := hid hy
    clear hy hm
    go_enter Try.func85, Try.ntmps85
    go_wp2_with fail
    refine (raGraph_c _ _ L _ HR.out).mono ?_
    rintro e w1 ⟨rfl, hb1⟩
    rw [t]
    have HB1 := hid hb1
    have HR1 := hid (HR.out.keep hb1)
    clear hb1
    go_wp2_with fail
    refine (raPencil_c m _ L _ HR1.out hG hc hg).mono ?_
    rintro e w2 ⟨q, rfl, hF, hb2⟩
    have HF := hid (And.intro (hF.mono HB1.out.size (Nat.le_refl _)) (HB1.out.trans (hb2.mono HB1.out.size)))
    obtain ⟨a6, n6, c6, rfl⟩ := hF.form3
    clear hF hb2
    go_wp2
    go_ret2
    exact ⟨_, by rw [HY.out]; rfl, by rw [HY.out]; exact HF.out.1, HF.out.2⟩
  · have HE := hid (fpB_no t)
    go_enter Try.func85, Try.ntmps85
    go_wp2_with fail
    refine (raGraph_c _ _ L _ HR.out).mono ?_
    rintro e w1 ⟨rfl, hb1⟩
    rw [t]
    go_wp2
    go_ret2
    exact ⟨_, by rw [HE.out]; rfl, by rw [HE.out]; exact ints_nil _ _ _, hb1⟩

set_option maxRecDepth 100000 in
set_option maxHeartbeats 1000000 in
theorem iFirstPencil_u (n : Int) (v : Value) (L : List Lnk) (w : World) (h : RLinks w v L) :
    Calls Try.prog 84 #[.int .i64 n, v] w (RetIB w (fpB n L)) := by
  have HR := hid h
  obtain ⟨a, cap, rfl⟩ := h.form
  clear h
  rcases Bool.eq_false_or_eq_true (raGB n L) with t | t
  · obtain ⟨m, hm, hn, hG, hc, hg⟩ := graph_parts t
    have hy := fpB_yes t
    rw [hm] at hy
    subst hn
    have HY := hid hy
    clear hy hm
    go_enter Try.func84, Try.ntmps84
    go_wp2_with fail
    refine (smallGraph_yes m _ L _ HR.out t).mono ?_
    rintro e w1 ⟨g, rfl, hgr, hb1⟩
    have HB1 := hid hb1
    have HG1 := hid hgr
    clear hb1 hgr
    go_wp2_with fail
    refine (pencil_c m _ L _ HG1.out hG hc hg).mono ?_
    rintro e w2 ⟨q, rfl, hF, hb2⟩
    have HF := hid (And.intro (hF.mono HB1.out.size (Nat.le_refl _)) (HB1.out.trans (hb2.mono HB1.out.size)))
    obtain ⟨a6, n6, c6, rfl⟩ := hF.form3
    clear hF hb2
    go_wp2
    go_ret2
    exact ⟨_, by rw [HY.out]; rfl, by rw [HY.out]; exact HF.out.1, HF.out.2⟩
  · have HE := hid (fpB_no t)
    go_enter Try.func84, Try.ntmps84
    go_wp2_with fail
    refine (smallGraph_no n _ L _ HR.out t).mono ?_
    rintro e w1 ⟨g, rfl, hb1⟩
    go_wp2
    go_ret2
    exact ⟨_, by rw [HE.out]; rfl, by rw [HE.out]; exact ints_nil _ _ _, hb1⟩

set_option maxRecDepth 100000 in
set_option maxHeartbeats 1000000 in
theorem sGonalityOf_u (n : Int) (v : Value) (L : List Lnk) (w : World) (h : RLinks w v L) :
    Calls Try.prog 83 #[.int .i64 n, v] w (RetZB w (goB n L)) := by
  have HR := hid h
  obtain ⟨a, cap, rfl⟩ := h.form
  clear h
  rcases Bool.eq_false_or_eq_true (raGB n L) with t | t
  · obtain ⟨m, hm, hn, hG, hc, hg⟩ := graph_parts t
    have hy := goB_yes t
    rw [hm] at hy
    subst hn
    have HY := hid hy
    have hps := pn_small (L := L) hG.n1 hG.n8 5 1 (by decide)
    have HSI : Hid (smallI (penL m L)) := ⟨by have := hps.1; show (pnN m L 5 1).length ≤ 1000; omega, fun x hx => by have := hps.2 x hx; omega⟩
    clear hy hm hps
    go_enter Try.func83, Try.ntmps83
    go_wp2_with fail
    refine (raGraph_c _ _ L _ HR.out).mono ?_
    rintro e w1 ⟨rfl, hb1⟩
    rw [t]
    have HB1 := hid hb1
    have HR1 := hid (HR.out.keep hb1)
    clear hb1
    go_wp2_with fail
    refine (raPencil_c m _ L _ HR1.out hG hc hg).mono ?_
    rintro e w2 ⟨q, rfl, hF, hb2⟩
    have HB2 := hid (HB1.out.trans (hb2.mono HB1.out.size))
    have HF := hid hF.r
    obtain ⟨a6, n6, c6, rfl⟩ := hF.form3
    clear hF hb2
    go_wp2_with fail
    refine (chSum_c _ (penL m L) _ HF.out HSI.out).mono ?_
    rintro e w' ⟨rfl, rfl⟩
    go_wp2
    go_ret2
    exact ⟨by rw [HY.out]; rfl, HB2.out⟩
  · have HE := hid (goB_no t)
    go_enter Try.func83, Try.ntmps83
    go_wp2_with fail
    refine (raGraph_c _ _ L _ HR.out).mono ?_
    rintro e w1 ⟨rfl, hb1⟩
    rw [t]
    go_wp2
    go_ret2
    exact ⟨by rw [HE.out]; rfl, hb1⟩

set_option maxRecDepth 100000 in
set_option maxHeartbeats 1000000 in
theorem iGonalityOf_u (n : Int) (v : Value) (L : List Lnk) (w : World) (h : RLinks w v L) :
    Calls Try.prog 82 #[.int .i64 n, v] w (RetZB w (goB n L)) := by
  have HR := hid h
  obtain ⟨a, cap, rfl⟩ := h.form
  clear h
  rcases Bool.eq_false_or_eq_true (raGB n L) with t | t
  · obtain ⟨m, hm, hn, hG, hc, hg⟩ := graph_parts t
    have hy := goB_yes t
    rw [hm] at hy
    subst hn
    have HY := hid hy
    have hps := pn_small (L := L) hG.n1 hG.n8 5 1 (by decide)
    have HSI : Hid (smallI (penL m L)) := ⟨by have := hps.1; show (pnN m L 5 1).length ≤ 1000; omega, fun x hx => by have := hps.2 x hx; omega⟩
    clear hy hm hps
    go_enter Try.func82, Try.ntmps82
    go_wp2_with fail
    refine (smallGraph_yes m _ L _ HR.out t).mono ?_
    rintro e w1 ⟨g, rfl, hgr, hb1⟩
    have HB1 := hid hb1
    have HG1 := hid hgr
    clear hb1 hgr
    go_wp2_with fail
    refine (pencil_c m _ L _ HG1.out hG hc hg).mono ?_
    rintro e w2 ⟨q, rfl, hF, hb2⟩
    have HB2 := hid (HB1.out.trans (hb2.mono HB1.out.size))
    have HF := hid hF.r
    obtain ⟨a6, n6, c6, rfl⟩ := hF.form3
    clear hF hb2
    go_wp2_with fail
    refine (total_c _ (penL m L) _ HF.out HSI.out).mono ?_
    rintro e w' ⟨rfl, rfl⟩
    go_wp2
    go_ret2
    exact ⟨by rw [HY.out]; rfl, HB2.out⟩
  · have HE := hid (goB_no t)
    go_enter Try.func82, Try.ntmps82
    go_wp2_with fail
    refine (smallGraph_no n _ L _ HR.out t).mono ?_
    rintro e w1 ⟨g, rfl, hb1⟩
    go_wp2
    go_ret2
    exact ⟨by rw [HE.out]; rfl, hb1⟩

end Go.Proofs.Ytlehhfmbdcmpoaa

/- Ranks, plain: the rank falls by at most one with a chip less; ranks of a divisor and its dual balance (Riemann and Roch). -/
namespace Go.Proofs.Ytlehhfmbdcmpoaa
open Go.RowKit
open Go.Lib (hid)

theorem winB_iff {n : Nat} {L : List Lnk} (hG : GoodL n L) (hc : (grL n L hG).Conn 0) {f : Nat → Int} (hs : small40 n f) : winB n L f = true ↔ (grL n L hG).Win f := by
  rw [winB_eq hG hc, decide_eq_true_iff]
  exact Gr.win_iff (show 0 < (grL n L hG).n from hG.n1) (wt0 hG hc) (small_inv hG hs).1
/-- lists of no negative numbers with the sum k, all of them -/
theorem allL_all : ∀ (d k : Nat) (e : List Int), e.length = d + 1 → (∀ x ∈ e, 0 ≤ x) → e.sum = (k : Int) → e ∈ allL d k := by
  intro d
  induction d with
  | zero =>
    intro k e hl h0 hs
    obtain ⟨x, rfl⟩ : ∃ x, e = [x] := by
      match e, hl with
      | [x], _ => exact ⟨x, rfl⟩
    simp only [List.sum_cons, List.sum_nil] at hs
    simp only [allL, List.mem_singleton]
    rw [show x = (k : Int) by omega]
  | succ d ih =>
    intro k e hl h0 hs
    match e, hl with
    | x :: e, hl =>
      have hx := h0 x (List.mem_cons_self ..)
      have he : ∀ y ∈ e, 0 ≤ y := fun y hy => h0 y (List.mem_cons_of_mem _ hy)
      have hes : 0 ≤ e.sum := by
        clear hs hl h0 ih
        induction e with
        | nil => simp
        | cons y ys ih2 =>
          have := he y (List.mem_cons_self ..)
          have := ih2 (fun z hz => he z (List.mem_cons_of_mem _ hz))
          simp only [List.sum_cons]; omega
      simp only [List.sum_cons] at hs
      obtain ⟨y, rfl⟩ : ∃ y : Nat, x = y := ⟨x.toNat, by omega⟩
      simp only [allL, List.mem_flatMap, List.mem_range, List.mem_map]
      exact ⟨y, by omega, e, ih (k - y) e (by simpa using hl) he (by omega), rfl⟩
theorem allL_lst {n : Nat} (h1 : 1 ≤ n) {E : Nat → Int} (h0 : ∀ v, v < n → 0 ≤ E v) {k : Nat} (hk : sumN n E = (k : Int)) : lst n E ∈ allL (n - 1) k := by
  refine allL_all _ _ _ (by rw [lst_len]; omega) (fun x hx => ?_) (by rw [lst_sum]; exact hk)
  obtain ⟨i, hi, rfl⟩ := mem_lst.1 hx
  exact h0 i hi
theorem brk_iff {n : Nat} {L : List Lnk} (hG : GoodL n L) (hc : (grL n L hG).Conn 0) {f : Nat → Int} (hs : small8 n f) {k : Nat} (hk : k ≤ 15) :
    (brkO n L f k).isSome = true ↔ ∃ E : Nat → Int, (∀ v, v < n → 0 ≤ E v) ∧ sumN n E = (k : Int) ∧ ¬ (grL n L hG).Win (fun v => f v - E v) := by
  have hn1 := hG.n1
  unfold brkO
  rw [List.find?_isSome]
  constructor
  · rintro ⟨e, he, hw⟩
    have h1 := allL_mem _ _ e he
    have hl : e.length = n := by omega
    refine ⟨fun i => e.getD i 0, fun v _ => (small_less hk h1.2 v).1, by rw [sum_getD hl, allL_sum _ _ e he], fun h => ?_⟩
    rw [(winB_iff hG hc (small_sub hs hk h1.2)).2 h] at hw
    cases hw
  · rintro ⟨E, h0, hk', hw⟩
    have he := allL_lst hn1 h0 hk'
    have h1 := allL_mem _ _ _ he
    refine ⟨_, he, ?_⟩
    have : winB n L (fun i => f i - (lst n E).getD i 0) = false := by
      cases e : winB n L (fun i => f i - (lst n E).getD i 0) with
      | false => rfl
      | true => exact absurd (((winB_iff hG hc (small_sub hs hk h1.2)).1 e).congr (fun v hv => by (try dsimp only); rw [lst_at E (show v < n from hv)])) hw
    rw [this]; rfl
/-- the rank is the least degree that breaks, less one -/
theorem rk_spec {n : Nat} {L : List Lnk} (hG : GoodL n L) (hc : (grL n L hG).Conn 0) {f : Nat → Int} (hs : small8 n f) (h8 : sumN n f ≤ 8) :
    ∃ k : Nat, k ≤ 9 ∧ rkZ n L f = (k : Int) - 1 ∧ (brkO n L f k).isSome = true ∧ ∀ j, j < k → (brkO n L f j).isSome = false := by
  have h : ∀ m k, m + k = 10 → (∀ j, j < k → (brkO n L f j).isSome = false) → k ≤ 9 → ∃ i : Nat, i ≤ 9 ∧ rkN n L f m k = (i : Int) - 1 ∧ (brkO n L f i).isSome = true ∧ ∀ j, j < i → (brkO n L f j).isSome = false := by
    intro m
    induction m with
    | zero => intro k h1 _ h3; omega
    | succ m ih =>
      intro k h1 h2 h3
      simp only [rkN]
      cases e : (brkO n L f k).isSome with
      | true => exact ⟨k, h3, by rw [if_pos rfl], e, h2⟩
      | false =>
        rw [if_neg (by decide)]
        have hk : k ≤ 8 := by
          by_cases h9 : k = 9
          · have := brk_end hG hc hs (k := 9) (by decide) (by omega)
            rw [← h9, e] at this; cases this
          · omega
        exact ih (k + 1) (by omega) (fun j hj => by
          by_cases e' : j = k
          · rw [e', e]
          · exact h2 j (by omega)) (by omega)
  exact h 10 0 rfl (fun j hj => by omega) (by omega)
/-- what breaks is found no earlier than the rank says -/
theorem rk_le {n : Nat} {L : List Lnk} (hG : GoodL n L) (hc : (grL n L hG).Conn 0) {f : Nat → Int} (hs : small8 n f) (h8 : sumN n f ≤ 8) {k : Nat} {E : Nat → Int} (h0 : ∀ v, v < n → 0 ≤ E v) (hk : sumN n E = (k : Int)) (hw : ¬ (grL n L hG).Win (fun v => f v - E v)) : rkZ n L f ≤ (k : Int) - 1 := by
  obtain ⟨i, hi, h1, _, h3⟩ := rk_spec hG hc hs h8
  rw [h1]
  by_cases e : k < i
  · have h4 := h3 k e
    rw [(brk_iff hG hc hs (by omega)).2 ⟨E, h0, hk, hw⟩] at h4; cases h4
  · omega
theorem rk_has {n : Nat} {L : List Lnk} (hG : GoodL n L) (hc : (grL n L hG).Conn 0) {f : Nat → Int} (hs : small8 n f) (h8 : sumN n f ≤ 8) : ∃ (k : Nat) (E : Nat → Int), k ≤ 9 ∧ (∀ v, v < n → 0 ≤ E v) ∧ sumN n E = (k : Int) ∧ rkZ n L f = (k : Int) - 1 ∧ ¬ (grL n L hG).Win (fun v => f v - E v) := by
  obtain ⟨i, hi, h1, h2, _⟩ := rk_spec hG hc hs h8
  obtain ⟨E, h3, h4, h5⟩ := (brk_iff hG hc hs (by omega)).1 h2
  exact ⟨i, E, hi, h3, h4, h1, h5⟩
theorem sumN_upd {n : Nat} {f : Nat → Int} {v : Nat} (hv : v < n) (x : Int) : sumN n (upd f v x) = sumN n f + (x - f v) := by
  rw [sumN_but _ hv, sumN_but f hv, upd_self]
  rw [sumN_congr (f := fun i => if i = v then 0 else upd f v x i) (g := fun i => if i = v then 0 else f i) (fun i _ => by
    (try dsimp only)
    by_cases e : i = v
    · rw [if_pos e, if_pos e]
    · rw [if_neg e, if_neg e, upd_other _ _ e])]
  omega
/-- with a chip less the rank is the same or one less -/
theorem rk_less {n : Nat} {L : List Lnk} (hG : GoodL n L) (hc : (grL n L hG).Conn 0) {f : Nat → Int} (hs : small8 n f) (h8 : sumN n f ≤ 8) {v : Nat} (hv : v < n) (hs2 : small8 n (upd f v (f v - 1))) : rkZ n L (upd f v (f v - 1)) ≤ rkZ n L f ∧ rkZ n L f - 1 ≤ rkZ n L (upd f v (f v - 1)) := by
  have hsum := sumN_upd (f := f) hv (f v - 1)
  have h82 : sumN n (upd f v (f v - 1)) ≤ 8 := by omega
  have hat : ∀ u, upd f v (f v - 1) u ≤ f u ∧ f u ≤ upd f v (f v - 1) u + (if u = v then 1 else 0) := fun u => by
    by_cases e : u = v
    · subst e; rw [upd_self, if_pos rfl]; omega
    · rw [upd_other _ _ e, if_neg e]; omega
  constructor
  · obtain ⟨k, E, _, h1, h2, h3, h4⟩ := rk_has hG hc hs h8
    rw [h3]
    exact rk_le hG hc hs2 h82 h1 h2 (fun h => h4 (h.up (fun u _ => by have := (hat u).1; (try dsimp only); omega)))
  · obtain ⟨k, E, _, h1, h2, h3, h4⟩ := rk_has hG hc hs2 h82
    rw [h3]
    have := rk_le hG hc hs h8 (k := k + 1) (E := upd E v (E v + 1)) (fun u hu => by
      by_cases e : u = v
      · subst e; rw [upd_self]; have := h1 u hu; omega
      · rw [upd_other _ _ e]; exact h1 u hu) (by rw [sumN_upd hv]; omega) (fun h => h4 (h.up (fun u _ => by
      (try dsimp only)
      by_cases e : u = v
      · subst e; rw [upd_self, upd_self]; omega
      · rw [upd_other _ _ e, upd_other _ _ e]; exact Int.le_refl _)))
    omega
/-- one half of the theorem of Riemann and Roch for graphs -/
theorem rr_half {n : Nat} {L : List Lnk} (hG : GoodL n L) (hc : (grL n L hG).Conn 0) {f k : Nat → Int} (hs : small8 n f) (h8 : sumN n f ≤ 8) (ks : small8 n k) (k8 : sumN n k ≤ 8) (hd : ∀ v, v < n → k v = valV n L v - 2 - f v) : rkZ n L k ≤ rkZ n L f + (edgL L - (n : Int)) - sumN n f := by
  have hn1 := hG.n1
  obtain ⟨i, E, hi9, h1, h2, h3, h4⟩ := rk_has hG hc hs h8
  have hE : ∀ v, v < n → 0 ≤ E v ∧ E v ≤ 9 := fun v hv => ⟨h1 v hv, by
    have := le_sumN (f := E) hv (fun u hu _ => h1 u hu)
    omega⟩
  have hsm : small40 n (fun v => f v - E v) := fun v hv => by have := hE v hv; have := hs v hv; (try dsimp only); omega
  obtain ⟨p, hp, c, hc2⟩ := Gr.unwin_order (show 0 < (grL n L hG).n from hn1) (wt0 hG hc) (small_inv hG hsm).1 h4
  have hh : sumN n (valV n L) = 2 * edgL L := handshake n L hG.each
  have hnu : 2 * sumN n (Gr.nu (grL n L hG) p) = sumN n (valV n L) - 2 * (n : Int) := Gr.nu_sum hp
  obtain ⟨p', hp', hrev⟩ := Gr.nu_rev hp
  -- what pays the breaking chips of the dual
  obtain ⟨E', hE'⟩ : ∃ E', (grL n L hG).after (fun v => Gr.nu (grL n L hG) p v - (f v - E v)) c = E' := ⟨_, rfl⟩
  rw [hE'] at hc2
  have hs' : sumN n E' = sumN n (Gr.nu (grL n L hG) p) - (sumN n f - sumN n E) := by
    rw [← hE']
    have h5 : sumN n ((grL n L hG).after (fun v => Gr.nu (grL n L hG) p v - (f v - E v)) c) = sumN n (fun v => Gr.nu (grL n L hG) p v - (f v - E v)) := Gr.after_sum (grL n L hG) _ c
    rw [h5, sumN_sub, sumN_sub]
  have h0 : 0 ≤ sumN n E' := sumN_nonneg hc2
  have hle := rk_le hG hc ks k8 (k := (sumN n E').toNat) (E := E') hc2 (by omega) (fun hw => by
    have hw2 : (grL n L hG).Win (fun v => Gr.nu (grL n L hG) p' v - (k v - E' v)) := by
      refine ⟨fun u => - c u, fun v hv => ?_⟩
      have e1 : E' v = (grL n L hG).after (fun v => Gr.nu (grL n L hG) p v - (f v - E v)) c v := by rw [hE']
      have e2 := hrev v hv
      have e3 : (grL n L hG).val v = valV n L v := rfl
      have e4 := hd v hv
      have e5 := h1 v hv
      have e6 : sumN (grL n L hG).n (fun u => -c u * (grL n L hG).lap u v) = - sumN (grL n L hG).n (fun u => c u * (grL n L hG).lap u v) := by
        have := sumN_mul (grL n L hG).n (-1) (fun u => c u * (grL n L hG).lap u v)
        rw [sumN_congr (g := fun u => (-1) * (c u * (grL n L hG).lap u v)) (fun u _ => by (try dsimp only); rw [Int.neg_mul]; omega), this]; omega
      have hh : (fun v => Gr.nu (grL n L hG) p' v - (k v - E' v)) v = Gr.nu (grL n L hG) p' v - (k v - E' v) := rfl
      have hh2 : (fun v => Gr.nu (grL n L hG) p v - (f v - E v)) v = Gr.nu (grL n L hG) p v - (f v - E v) := rfl
      unfold Gr.after at e1 ⊢
      rw [e6]
      omega
    exact Gr.nu_unwin (show 0 < (grL n L hG).n from hn1) p' ((hw.add hw2).congr (fun v _ => by (try dsimp only); omega)))
  omega
/-- the theorem of Riemann and Roch for graphs -/
theorem rr {n : Nat} {L : List Lnk} (hG : GoodL n L) (hc : (grL n L hG).Conn 0) {f k : Nat → Int} (hs : small8 n f) (h8 : sumN n f ≤ 8) (ks : small8 n k) (k8 : sumN n k ≤ 8) (hd : ∀ v, v < n → k v = valV n L v - 2 - f v) : rkZ n L f - rkZ n L k = sumN n f - (1 - (n : Int) + edgL L) + 1 := by
  have h1 := rr_half hG hc hs h8 ks k8 hd
  have h2 := rr_half hG hc ks k8 hs h8 (fun v hv => by have := hd v hv; omega)
  have hh : sumN n (valV n L) = 2 * edgL L := handshake n L hG.each
  have hk : sumN n k = sumN n (valV n L) - 2 * (n : Int) - sumN n f := by
    rw [sumN_congr hd, sumN_sub, sumN_sub, Gr.sumN_const]; omega
  omega

end Go.Proofs.Ytlehhfmbdcmpoaa

/- impl.IsWinnable at a good question. -/
namespace Go.Proofs.Ytlehhfmbdcmpoaa
open Go.RowKit
open Go.Lib (hid)

set_option maxRecDepth 100000 in
set_option maxHeartbeats 1000000 in
theorem game_yes (n : Nat) (v u : Value) (L : List Lnk) (d : List Int) (w : World) (h : RLinks w v L) (hd : RInts w u d) (hG : GoodL n L) (hg : goodG n L = true) (hc : conB n L = true) (hl : d.length = n) (hb : ∀ x ∈ d, -20 ≤ x ∧ x ≤ 20) :
    Calls Try.prog 155 #[.int .i64 n, v, u] w (RetG w n L) := by
  have HR := hid h
  have HD := hid hd
  obtain ⟨a, cap, rfl⟩ := h.form
  obtain ⟨a2, cap2, rfl, _, _, hcc⟩ := hd
  have hall : allB d (-20) 20 = true := by
    unfold allB; rw [List.all_eq_true]; intro x hx; rw [inB_iff]; exact hb x hx
  have hleq : ((d.length : Int) == (n : Int)) = true := by rw [hl]; simp
  have HX := hid (And.intro hG (And.intro hg (And.intro hc (And.intro hleq hall))))
  clear h hcc hG hg hc hl hb hall hleq
  go_enter Try.func155, Try.ntmps155
  go_wp2_with fail
  refine (graphOf_c n _ L _ HR.out HX.out.1 HX.out.2.1).mono ?_
  rintro e w1 ⟨g, rfl, hg, hb1⟩
  have HRG := hid hg
  have HB1 := hid hb1
  have HD1 := hid (HD.out.keep hb1)
  clear hb1 hg
  go_wp2_with fail
  refine (isConnected_c n _ L _ HRG.out HX.out.1).mono ?_
  rintro e w2 ⟨rfl, hb2⟩
  rw [HX.out.2.2.1]
  have HRG2 := hid (HRG.out.keep hb2)
  have HB2 := hid (HB1.out.trans (hb2.mono HB1.out.size))
  have HD2 := hid (HD1.out.keep hb2)
  clear hb2
  go_wp2_with fail
  refine (areChips_c n _ L _ d 20 _ HRG2.out HD2.out (by decide)).mono ?_
  rintro e w3 ⟨rfl, hb3⟩
  rw [HX.out.2.2.2.1, HX.out.2.2.2.2]
  have HF := hid (And.intro (HRG2.out.keep hb3) (HB2.out.trans (hb3.mono HB2.out.size)))
  clear hb3
  go_wp2
  go_ret2
  exact ⟨g, rfl, HF.out.1, HF.out.2⟩

set_option maxRecDepth 100000 in
set_option maxHeartbeats 1000000 in
theorem iIsWinnable_y (n : Nat) (v u : Value) (L : List Lnk) (f : Nat → Int) (w : World) (h : RLinks w v L) (hd : RInts w u (lst n f)) (hG : GoodL n L) (hg : goodG n L = true) (hc : conB n L = true) (hb : ∀ i, i < n → -20 ≤ f i ∧ f i ≤ 20) :
    Calls Try.prog 69 #[.int .i64 n, v, u] w fun e w' => e = .returned (.tuple #[.bool (winB n L f), .bool true]) ∧ Below w.heap.size w w' := by
  have HR := hid h
  have HD := hid hd
  obtain ⟨a, cap, rfl⟩ := h.form
  obtain ⟨a2, cap2, rfl, _, _, hcc⟩ := hd
  have HX := hid (And.intro hG (And.intro hg (And.intro hc hb)))
  clear h hcc hG hg hc hb
  go_enter Try.func69, Try.ntmps69
  go_wp2_with fail
  refine (game_yes n _ _ L (lst n f) _ HR.out HD.out HX.out.1 HX.out.2.1 HX.out.2.2.1 (lst_len n f) (fun x hx => by obtain ⟨i, hi, rfl⟩ := mem_lst.1 hx; exact HX.out.2.2.2 i hi)).mono ?_
  rintro e w1 ⟨g, rfl, hg, hb1⟩
  have HRG := hid hg
  have HB1 := hid hb1
  have HD1 := hid (HD.out.keep hb1)
  clear hb1 hg
  go_wp2_with fail
  refine (isWinnable_c n _ _ L f _ HRG.out HX.out.1 ((conB_iff HX.out.1).1 HX.out.2.2.1) HD1.out (fun i hi => by have := HX.out.2.2.2 i hi; omega)).mono ?_
  rintro e w2 ⟨rfl, hb2⟩
  have HB2 := hid (HB1.out.trans (hb2.mono HB1.out.size))
  clear hb2
  obtain ⟨x, hx⟩ : ∃ x, winB n L f = x := ⟨_, rfl⟩
  rw [hx]
  have HW := hid hx
  clear hx
  go_wp2
  go_ret2
  exact ⟨by rw [HW.out]; rfl, HB2.out⟩

end Go.Proofs.Ytlehhfmbdcmpoaa

/- The drawing functions of graphs and divisors. -/
namespace Go.Proofs.Ytlehhfmbdcmpoaa
open Go.RowKit
open Go.Lib (hid)

/-- a new cursor -/
theorem cur_new {w : World} {v : Value} {n : Nat} (h : RBytes w v n) : Cur (w.alloc (.cells #[v, .int .i64 0, .int .u64 0] 89)) w.heap.size 0 := by
  obtain ⟨a, cap, rfl, h1, h2, hc⟩ := h
  refine ⟨a, n, cap, 0, 0, heap_alloc_new w _, Int.le_refl _, Int.le_refl _, h1, h1, h2, Int.le_refl _, by decide, fun i hi => ?_⟩
  obtain ⟨g, o, x, rfl, hcell, hx⟩ := hc i hi
  have hlt := cell_lt hcell
  refine ⟨g, o, x, rfl, hlt, ?_, hx⟩
  rw [((Below.refl w.heap.size w).alloc (Nat.le_refl _) _).cell (p := ⟨g, o + i, none⟩) hlt]; exact hcell
theorem RBytes.keep {w w' : World} {v : Value} {n : Nat} (h : RBytes w v n) (hb : Below w.heap.size w w') : RBytes w' v n := by
  obtain ⟨a, cap, rfl, h1, h2, hc⟩ := h
  refine ⟨a, cap, rfl, h1, h2, fun i hi => ?_⟩
  obtain ⟨g, o, x, ha, hcell, hx⟩ := hc i hi
  exact ⟨g, o, x, ha, by rw [hb.cell (p := ⟨g, o + i, none⟩) (cell_lt hcell)]; exact hcell, hx⟩
theorem RBytes.form {w : World} {v : Value} {n : Nat} (h : RBytes w v n) : ∃ a cap, v = .slice a n cap ∧ n ≤ cap ∧ cap ≤ maxLen := by
  obtain ⟨a, cap, rfl, h1, h2, _⟩ := h; exact ⟨a, cap, rfl, h1, h2⟩
/-- what is drawn with a new cursor touches nothing that was there -/
theorem Dr.fresh {w w' : World} {o : Obj} (h : Dr w.heap.size (w.alloc o).heap.size (w.alloc o) w') : Below w.heap.size w w' := by
  have ha := (Below.refl w.heap.size w).alloc (Nat.le_refl _) o
  have hs := ha.size
  exact ha.trans ⟨h.os, h.tape, h.output, h.size, fun c hc => h.block c (by omega) (by omega)⟩
theorem OLinks.dr {w w' : World} {lo b : Nat} {v : Value} {L : List Lnk} (h : OLinks w lo v L) (hd : Dr b w.heap.size w w') (hb : b < lo) : OLinks w' lo v L := by
  refine ⟨h.1, ?_⟩
  rcases h.2 with hn | ⟨g, cap, cur, rfl, hb1, hg, rest⟩
  · exact .inl hn
  · exact .inr ⟨g, cap, cur, rfl, hb1, by rw [hd.block g (Array.getElem?_eq_some_iff.1 hg).1 (by omega)]; exact hg, rest⟩
theorem FInts.dr {w w' : World} {lo b : Nat} {v : Value} {xs : List Int} (h : FInts w lo w.heap.size v xs) (hd : Dr b w.heap.size w w') (hb : b < lo) : FInts w' lo w'.heap.size v xs :=
  (h.same (fun k h1 h2 _ => hd.block k h2 (by omega))).mono (Nat.le_refl _) hd.size

/-- a drawn graph -/
def RetGr (w : World) (e : Ending) (w' : World) : Prop := ∃ (n : Int) (v : Value) (L : List Lnk), e = .returned (.tuple #[.int .i64 n, v]) ∧ -1 ≤ n ∧ n ≤ 9 ∧ L.length ≤ 101 ∧ RLinks w' v L ∧ Below w.heap.size w w'
/-- a drawn graph and drawn numbers -/
def RetGrN (w : World) (e : Ending) (w' : World) : Prop := ∃ (n : Int) (v : Value) (L : List Lnk) (u : Value) (d : List Int), e = .returned (.tuple #[.int .i64 n, v, u]) ∧ -1 ≤ n ∧ n ≤ 9 ∧ L.length ≤ 101 ∧ d.length ≤ 20 ∧ RLinks w' v L ∧ RInts w' u d ∧ Below w.heap.size w w'

set_option maxRecDepth 100000 in
set_option maxHeartbeats 1000000 in
theorem DrawGonalityOf_c (v : Value) (n : Nat) (w : World) (h : RBytes w v n) :
    Calls Try.prog 81 #[v] w (RetGr w) := by
  have HC := hid (cur_new h)
  obtain ⟨a, cap, rfl, _, _⟩ := h.form
  clear h
  obtain ⟨b, hb⟩ : ∃ b, w.heap.size = b := ⟨_, rfl⟩
  obtain ⟨wa, hwa⟩ : ∃ wa, w.alloc (.cells #[.slice a n cap, .int .i64 0, .int .u64 0] 89) = wa := ⟨_, rfl⟩
  have HWA := hid hwa
  have HCA : Hid (Cur wa b 0) := by show Cur _ _ _; rw [← hwa, ← hb]; exact HC.out
  have HB := hid hb
  clear hb hwa HC
  go_enter Try.func81, Try.ntmps81
  go_wp2_with fail
  rw [HB.out, HWA.out]
  refine (smallGraph_c b 0 _ HCA.out (by omega)).mono ?_
  rintro e w1 ⟨n1, u, L, rfl, hn1, hn2, hl, hO, hc, hd⟩
  have HF : Hid (RLinks w1 u L ∧ Below w.heap.size w w1) := ⟨hO.r, by
    rw [← HWA.out, ← HB.out] at hd; exact Dr.fresh hd⟩
  obtain ⟨a3, n3, c3, rfl⟩ := hO.form
  clear hO hd hc
  go_wp2
  go_ret2
  exact ⟨_, _, _, rfl, hn1, hn2, hl, HF.out.1, HF.out.2⟩
set_option maxRecDepth 100000 in
set_option maxHeartbeats 1000000 in
theorem DrawRankOfChips_c (v : Value) (n : Nat) (w : World) (h : RBytes w v n) :
    Calls Try.prog 66 #[v] w (RetGrN w) := by
  have HC := hid (cur_new h)
  obtain ⟨a, cap, rfl, _, _⟩ := h.form
  clear h
  obtain ⟨b, hb⟩ : ∃ b, w.heap.size = b := ⟨_, rfl⟩
  obtain ⟨wa, hwa⟩ : ∃ wa, w.alloc (.cells #[.slice a n cap, .int .i64 0, .int .u64 0] 89) = wa := ⟨_, rfl⟩
  have HWA := hid hwa
  have HCA : Hid (Cur wa b 0) := by show Cur _ _ _; rw [← hwa, ← hb]; exact HC.out
  have HB := hid hb
  clear hb hwa HC
  go_enter Try.func66, Try.ntmps66
  go_wp2_with fail
  rw [HB.out, HWA.out]
  refine (smallGraph_c b 0 _ HCA.out (by omega)).mono ?_
  rintro e w1 ⟨n1, u, L, rfl, hn1, hn2, hl, hO, hc, hd⟩
  have HO := hid hO
  have HC1 := hid hc
  have HD1 := hid hd
  obtain ⟨a3, n3, c3, rfl⟩ := hO.form
  clear hO hd hc
  go_wp2_with fail
  refine (smallChips_c b _ n1 _ HC1.out (by omega) (by omega)).mono ?_
  rintro e w2 ⟨u2, xs, rfl, hxl, hF, hc2, hd2⟩
  have HF : Hid (RLinks w2 (.slice a3 n3 c3) L ∧ RInts w2 u2 xs ∧ Below w.heap.size w w2) := ⟨(HO.out.dr hd2 HCA.out.lt).r, hF.r, by
    have hd := HD1.out.trans (hd2.low HD1.out.size)
    rw [← HWA.out, ← HB.out] at hd; exact Dr.fresh hd⟩
  obtain ⟨a4, n4, c4, rfl⟩ := hF.form3
  clear hF hc2 hd2
  go_wp2
  go_ret3
  exact ⟨_, _, _, _, _, rfl, hn1, hn2, hl, hxl, HF.out.1, HF.out.2.1, HF.out.2.2⟩
set_option maxRecDepth 100000 in
set_option maxHeartbeats 1000000 in
theorem DrawRankBalance_c (v : Value) (n : Nat) (w : World) (h : RBytes w v n) :
    Calls Try.prog 74 #[v] w (RetGrN w) := by
  have HC := hid (cur_new h)
  obtain ⟨a, cap, rfl, _, _⟩ := h.form
  clear h
  obtain ⟨b, hb⟩ : ∃ b, w.heap.size = b := ⟨_, rfl⟩
  obtain ⟨wa, hwa⟩ : ∃ wa, w.alloc (.cells #[.slice a n cap, .int .i64 0, .int .u64 0] 89) = wa := ⟨_, rfl⟩
  have HWA := hid hwa
  have HCA : Hid (Cur wa b 0) := by show Cur _ _ _; rw [← hwa, ← hb]; exact HC.out
  have HB := hid hb
  clear hb hwa HC
  go_enter Try.func74, Try.ntmps74
  go_wp2_with fail
  rw [HB.out, HWA.out]
  refine (smallGraph_c b 0 _ HCA.out (by omega)).mono ?_
  rintro e w1 ⟨n1, u, L, rfl, hn1, hn2, hl, hO, hc, hd⟩
  have HO := hid hO
  have HC1 := hid hc
  have HD1 := hid hd
  obtain ⟨a3, n3, c3, rfl⟩ := hO.form
  clear hO hd hc
  go_wp2_with fail
  refine (smallChips_c b _ n1 _ HC1.out (by omega) (by omega)).mono ?_
  rintro e w2 ⟨u2, xs, rfl, hxl, hF, hc2, hd2⟩
  have HF : Hid (RLinks w2 (.slice a3 n3 c3) L ∧ RInts w2 u2 xs ∧ Below w.heap.size w w2) := ⟨(HO.out.dr hd2 HCA.out.lt).r, hF.r, by
    have hd := HD1.out.trans (hd2.low HD1.out.size)
    rw [← HWA.out, ← HB.out] at hd; exact Dr.fresh hd⟩
  obtain ⟨a4, n4, c4, rfl⟩ := hF.form3
  clear hF hc2 hd2
  go_wp2
  go_ret3
  exact ⟨_, _, _, _, _, rfl, hn1, hn2, hl, hxl, HF.out.1, HF.out.2.1, HF.out.2.2⟩
set_option maxRecDepth 100000 in
set_option maxHeartbeats 1000000 in
theorem DrawBaseVertices_c (v : Value) (n : Nat) (w : World) (h : RBytes w v n) :
    Calls Try.prog 86 #[v] w (RetGrN w) := by
  have HH := hid h
  obtain ⟨a, cap, rfl, _, _⟩ := h.form
  clear h
  go_enter Try.func86, Try.ntmps86
  go_wp2_with fail
  refine (DrawRankOfChips_c _ n _ HH.out).mono ?_
  rintro e w1 ⟨n1, u, L, u2, xs, rfl, hn1, hn2, hl, hxl, hL, hF, hb⟩
  have HF := hid (And.intro hL (And.intro hF hb))
  obtain ⟨a3, c3, rfl⟩ := hL.form
  obtain ⟨a4, c4, rfl, _, _, _⟩ := hF
  clear hL hb
  go_wp2
  go_ret3
  exact ⟨_, _, _, _, _, rfl, hn1, hn2, hl, hxl, HF.out.1, HF.out.2.1, HF.out.2.2⟩

end Go.Proofs.Ytlehhfmbdcmpoaa

/- What the law FnPencils needs: contracts with plain results; the plain facts. -/
namespace Go.Proofs.Ytlehhfmbdcmpoaa
open Go.RowKit
open Go.Lib (hid)

/-- a list and its twin in the same words -/
def RetL (w : World) (xs : List Int) (b : Bool) (e : Ending) (w' : World) : Prop := ∃ a n c, e = .returned (.tuple #[.slice a n c, .bool b]) ∧ RInts w' (.slice a n c) xs ∧ Below w.heap.size w w'
theorem RetIB.l {w w' : World} {p : List Int × Bool} {e : Ending} (h : RetIB w p e w') {xs : List Int} {b : Bool} (hp : p = (xs, b)) : RetL w xs b e w' := by
  subst hp
  obtain ⟨v, h1, h2, h3⟩ := h
  obtain ⟨a, n, c, rfl⟩ := h2.r.form3
  exact ⟨a, n, c, h1, h2.r, h3⟩
def RetZ (w : World) (x : Int) (b : Bool) (e : Ending) (w' : World) : Prop := e = .returned (.tuple #[.int .i64 x, .bool b]) ∧ Below w.heap.size w w'
theorem RetZB.l {w w' : World} {p : Int × Bool} {e : Ending} (h : RetZB w p e w') {x : Int} {b : Bool} (hp : p = (x, b)) : RetZ w x b e w' := by subst hp; exact h
def RetT (w : World) (x : Bool) (b : Bool) (e : Ending) (w' : World) : Prop := e = .returned (.tuple #[.bool x, .bool b]) ∧ Below w.heap.size w w'
theorem RetBB.l {w w' : World} {p : Bool × Bool} {e : Ending} (h : RetBB w p e w') {x : Bool} {b : Bool} (hp : p = (x, b)) : RetT w x b e w' := by subst hp; exact h

/-- a copy of numbers in new memory, one of them changed -/
theorem own_copy {wr w' : World} {o : Obj} {v' : Value} {n : Nat} {f : Nat → Int} (h0 : 0 < n) (hF : FInts w' wr.heap.size w'.heap.size v' (lst n f)) (hg : (wr.alloc o).grownBy w' (some wr.heap.size)) :
    ∃ g c, v' = .slice (some ⟨g, 0, none⟩) n c ∧ (∀ j, j < n → w'.cell? ⟨g, j, none⟩ = some (.int .i64 (f j)) ∧ w'.frozen? ⟨g, j, none⟩ = false) ∧
      ∀ j y, j < n → RInts (w'.setCell ⟨g, j, none⟩ (.int .i64 y)) (.slice (some ⟨g, 0, none⟩) n c) (lst n (upd f j y)) ∧ Below wr.heap.size wr (w'.setCell ⟨g, j, none⟩ (.int .i64 y)) := by
  obtain ⟨g, c, rfl, hg1, hg2⟩ := fi_form hF h0
  obtain ⟨h1, _, h2⟩ := fi_open hF
  have hb : Below wr.heap.size wr w' := ((Below.refl wr.heap.size wr).alloc (Nat.le_refl _) o).grown hg (by simp) (fun k hk => by cases hk; exact Nat.le_refl _)
  refine ⟨g, c, rfl, h1, fun j y hj => ?_⟩
  obtain ⟨h3, h4⟩ := h2 j y hj
  exact ⟨h3.r, hb.trans (h4.below (Nat.le_refl _) hb.size)⟩
/-- the first pencil: effective, small, and no chip breaks it -/
theorem pen_found {n : Nat} {L : List Lnk} (hG : GoodL n L) (hc : (grL n L hG).Conn 0) (hg : 1 - (n : Int) + edgL L ≤ 4) : ∃ k, k ≤ 5 ∧ penL n L ∈ allL (n - 1) k ∧ (brkO n L (ofL (penL n L)) 1).isNone = true := by
  have h : ∀ m k, m + k = 6 → 1 ≤ k → k ≤ 5 → ∃ j, j ≤ 5 ∧ pnN n L m k ∈ allL (n - 1) j ∧ (brkO n L (ofL (pnN n L m k)) 1).isNone = true := by
    intro m
    induction m with
    | zero => intro k h1 _ h3; omega
    | succ m ih =>
      intro k h1 h2 h3
      simp only [pnN]
      cases hO : penO n L k with
      | some e =>
        have h4 := List.mem_of_find?_eq_some hO
        have h5 := List.find?_some hO
        exact ⟨k, h3, h4, h5⟩
      | none =>
        by_cases h5 : k = 5
        · have := pen_end hG hc (k := k) (by omega) (by omega)
          rw [hO] at this; cases this
        · exact ih (k + 1) (by omega) (by omega) (by omega)
  exact h 5 1 rfl (Nat.le_refl _) (by omega)
theorem allB_of {l : List Int} {lo hi : Int} (h : ∀ x ∈ l, lo ≤ x ∧ x ≤ hi) : allB l lo hi = true := by
  unfold allB; rw [List.all_eq_true]; intro x hx; rw [inB_iff]; exact h x hx
/-- its rank is asked, and at least one -/
theorem pen_rank {n : Nat} {L : List Lnk} (t : raGB (n : Int) L = true) : ∃ r, rocB (n : Int) L (penL n L) = (r, true) ∧ 1 ≤ r := by
  obtain ⟨m, hm, hn, hG, hc, hg⟩ := graph_parts t
  obtain rfl : m = n := by omega
  obtain ⟨k, hk, he, hb⟩ := pen_found hG hc hg
  have h1 := allL_mem _ _ _ he
  have h2 := allL_sum _ _ _ he
  have hn1 := hG.n1
  have hl : (penL m L).length = m := by omega
  have ht : raAB (m : Int) L (penL m L) = true := by
    unfold raAB raCB
    rw [t, allB_of (fun x hx => by have := h1.2 x hx; omega), decide_eq_true (by omega), hl]
    simp
  have h3 := rank_one hG hc (show k ≤ 8 by omega) he
  rw [hb, decide_eq_true_iff] at h3
  refine ⟨rkZ m L (ofL (penL m L)), ?_, h3⟩
  rw [rocB_yes ht, Int.toNat_natCast]; rfl
theorem ask_parts2 {n : Nat} {L : List Lnk} {d : List Int} (t : raAB (n : Int) L d = true) (hd : d.length = n) : small8 n (fun i => d.getD i 0) ∧ sumN n (fun i => d.getD i 0) ≤ 8 := by
  obtain ⟨m, hm, hn, hl, hs, h8, _⟩ := ask_parts t
  obtain rfl : m = n := by omega
  rw [← sum_getD hd] at h8
  exact ⟨hs, h8⟩
theorem less_list {d : List Int} {n i : Nat} (hd : d.length = n) (x : Int) : d.set i x = lst n (upd (fun i => d.getD i 0) i x) := by
  conv => lhs; rw [lst_of hd]
  rw [lst_set]
theorem set_fun {d : List Int} {v : Nat} (hv : v < d.length) (x : Int) : (fun i => (d.set v x).getD i 0) = upd (fun i => d.getD i 0) v x := by
  funext i
  unfold upd
  simp only [List.getD, List.getElem?_set]
  by_cases e : v = i
  · subst e; simp [hv]
  · rw [if_neg e, if_neg (fun h => e h.symm)]
/-- a chip less: what the rank says of the base vertices -/
theorem base_ok {n : Nat} {L : List Lnk} {d : List Int} (t : raAB (n : Int) L d = true) (hd : d.length = n) {v : Nat} (hv : v < n) (t2 : raAB (n : Int) L (d.set v (d.getD v 0 - 1)) = true) {r : Int} (hr : rkZ n L (fun i => d.getD i 0) = r) :
    ∃ o, rocB (n : Int) L (d.set v (d.getD v 0 - 1)) = (o, true) ∧ basP n L (fun i => d.getD i 0) v = (o == r) ∧ o ≤ r ∧ r - 1 ≤ o := by
  obtain ⟨m, hm, hn, hl, hs, h8, hG, hc⟩ := ask_parts t
  obtain rfl : m = n := by omega
  have hls := lessAt_small t hd v
  rw [← sum_getD hd] at h8
  have h1 := rk_less hG hc hs h8 hv hls.1
  subst hr
  refine ⟨_, rocB_yes t2, ?_, ?_⟩
  · rw [Int.toNat_natCast, set_fun (by omega)]
    rfl
  · rw [Int.toNat_natCast, set_fun (by omega)]
    exact h1

end Go.Proofs.Ytlehhfmbdcmpoaa

/- From a law's row to its walk: arguments opened as lists of ints and lists of lists of ints. -/
namespace Go.Proofs.Ytlehhfmbdcmpoaa
open Go.ChangeShapes Go.WideShapes Go.ChangeAt Go.RowKit Go.Deep
open Go.ChangeMaps (open_string shut_string)

theorem Try.own' : ownKnob Try.prog.godebug = none := by kernel_rfl
theorem Try.laidOut' : laidOutB Try.prog = true := by kernel_rfl
theorem Try.cellsInt : Try.prog.cellsOf 3 = 1 := by kernel_rfl
theorem Try.cellsInts : Try.prog.cellsOf 23 = 1 := by kernel_rfl

/-- fits Go's int -/
def I64 (x : Int) : Prop := -9223372036854775808 ≤ x ∧ x ≤ 9223372036854775807
theorem I64_of {x : Int} (h : (Lit.int .i64 x).wf = true) : I64 x := by
  simp [Lit.wf, IntKind.min, IntKind.max, IntKind.signed, IntKind.bits] at h
  exact ⟨by omega, by omega⟩

theorem rints_row {W : World} {a : Option Addr} {len cap : Nat} {zs : List Int} (hl : len ≤ cap) (hm : cap ≤ maxLen) (hz : zs.length = cap)
    (hc : ∀ a', a = some a' → ∀ c, c < cap → W.cell? (a'.add c) = some (.int .i64 (zs.getD c 0))) (hn : a = none → cap = 0) : RInts W (.slice a len cap) (zs.take len) := by
  have hlen : (zs.take len).length = len := by rw [List.length_take]; omega
  refine ⟨a, cap, by rw [hlen], by rw [hlen]; exact hl, hm, fun i hi => ?_⟩
  rw [hlen] at hi
  cases a with
  | none => have := hn rfl; omega
  | some ad =>
    obtain ⟨b, off, rfl, hcell⟩ := _root_.Go.ints_at (zs := zs) (a := ad) (w := W) (k := .i64) (fun j hj => hc ad rfl j (by omega)) (by omega)
    refine ⟨b, off, rfl, ?_⟩
    rw [hcell i (by omega)]
    simp [List.getD, hi]

section
variable {H : Type} {enc : TypeId × Value → H} {W : World} {base : Nat}

set_option maxRecDepth 100000 in
theorem open_rints {v : Value} {d : DataW H} {p : List MemPlace} (hv : Value.okWide Try.prog W .any base 23 v) (h : DataW.Trod enc Try.prog W 0 (fun _ => true) true 23 v d p) :
    ∃ xs, RInts W v xs ∧ ∀ x ∈ xs, I64 x := by
  obtain ⟨a, len, cap, rfl⟩ := okWide_slice Try.underlying23 hv
  obtain ⟨fuel, hf⟩ := h
  rcases open_ints Try.underlying23 Try.underlying3 Try.cellsInt hf with ⟨hcs, _⟩ | ⟨x, l, c, zs, hcs, _, hl, hm, hz, _, hcell, hwz⟩
  · simp [Value.cells] at hcs
    obtain ⟨rfl, rfl, rfl⟩ := hcs
    exact ⟨[], ⟨none, 0, rfl, Nat.le_refl _, by unfold maxLen; omega, fun i hi => by simp at hi⟩, by simp⟩
  · simp [Value.cells] at hcs
    obtain ⟨rfl, rfl, rfl⟩ := hcs
    simp only [if_true] at hz
    exact ⟨zs.take len, rints_row hl hm hz (fun a' ha c hc => by cases ha; exact hcell c (by omega)) (fun e => by cases e), fun x hx => I64_of (hwz x (List.mem_of_mem_take hx))⟩

set_option maxRecDepth 100000 in
theorem open_rmat {v : Value} {d : DataW H} {p : List MemPlace} (hv : Value.okWide Try.prog W .any base 59 v) (h : DataW.Trod enc Try.prog W 0 (fun _ => true) true 59 v d p) :
    ∃ M, RMat W v M ∧ ∀ r ∈ M, ∀ x ∈ r, I64 x := by
  obtain ⟨a, len, cap, rfl⟩ := okWide_slice Try.underlying59 hv
  obtain ⟨fuel, hf⟩ := h
  rcases open_int_rows Try.underlying59 Try.underlying23 Try.underlying3 Try.cellsInts Try.cellsInt hf with ⟨hcs, _⟩ | ⟨ad, l, c, A, L, C, Z, hcs, _, hl, hm, _, hr⟩
  · simp [Value.cells] at hcs
    obtain ⟨rfl, rfl, rfl⟩ := hcs
    exact ⟨[], ⟨none, 0, rfl, Nat.le_refl _, by unfold maxLen; omega, fun i hi => by simp at hi⟩, by simp⟩
  · simp [Value.cells] at hcs
    obtain ⟨rfl, rfl, rfl⟩ := hcs
    refine ⟨(List.range len).map fun r => (Z r).take (L r), ⟨some ad, cap, by simp, by simpa using hl, hm, fun i hi => ?_⟩, fun r hr' x hx => ?_⟩
    · simp only [List.length_map, List.length_range] at hi
      obtain ⟨hc, h1, h2, h3, h4, h5, h6⟩ := hr i (by omega)
      obtain ⟨b, off, spot⟩ := ad
      have hspot : spot = none := by
        have h0 := (hr 0 (by omega)).1
        simpa [Addr.add] using World.cell?_spot h0
      subst hspot
      have e : ((⟨b, off, none⟩ : Addr).add i) = ⟨b, off + i, none⟩ := by unfold Addr.add; split <;> simp_all
      rw [e] at hc
      refine ⟨b, off, _, rfl, hc, ?_⟩
      have hg : ((List.range len).map fun r => (Z r).take (L r)).getD i [] = (Z i).take (L i) := by simp [List.getD, hi]
      rw [hg]
      exact rints_row h1 h2 h3 (fun a' ha c hcc => (h6 a' ha).2 c hcc) h5
    · obtain ⟨i, hi, rfl⟩ := List.mem_map.1 hr'
      exact I64_of ((hr i (by have := List.mem_range.1 hi; omega)).2.2.2.2.1 x (List.mem_of_mem_take hx))

theorem trod_blocks {t : TypeId} {v : Value} {d : DataW H} {p : List MemPlace} (h : DataW.Trod enc Try.prog W 0 (fun _ => true) true t v d p) : ∀ x ∈ p, x.block < W.heap.size := by
  obtain ⟨m, hm⟩ := h
  exact DataW.trod_lt m _ _ _ hm
end

end Go.Proofs.Ytlehhfmbdcmpoaa

/- From a law's row to its walk: a slice of bytes opened. -/
namespace Go.Proofs.Ytlehhfmbdcmpoaa
open Go.ChangeShapes Go.WideShapes Go.ChangeAt Go.RowKit Go.Deep
open Go.ChangeMaps (open_string shut_string)

theorem Try.cellsByte : Try.prog.cellsOf 5 = 1 := by kernel_rfl

section
variable {H : Type} {enc : TypeId × Value → H} {W : World} {base : Nat}

set_option maxRecDepth 100000 in
theorem open_rbytes {v : Value} {d : DataW H} {p : List MemPlace} (hv : Value.okWide Try.prog W .any base 35 v) (h : DataW.Trod enc Try.prog W 0 (fun _ => true) true 35 v d p) :
    ∃ n, RBytes W v n ∧ True := by
  obtain ⟨a, len, cap, rfl⟩ := okWide_slice Try.underlying35 hv
  obtain ⟨fuel, hf⟩ := h
  rcases open_slice Try.underlying35 hf with ⟨hcs, _⟩ | ⟨ad, l, c, m, n, D, Pl, hcs, _, hl, hm, hmm, _, hr⟩
  · simp [Value.cells] at hcs
    obtain ⟨rfl, rfl, rfl⟩ := hcs
    exact ⟨0, ⟨none, 0, rfl, Nat.le_refl _, by unfold maxLen; omega, fun i hi => by omega⟩, trivial⟩
  · simp [Value.cells] at hcs
    obtain ⟨rfl, rfl, rfl⟩ := hcs
    simp only [if_true] at hmm
    refine ⟨len, ⟨some ad, cap, rfl, hl, hm, fun i hi => ?_⟩, trivial⟩
    have each : ∀ i, i < len → ∃ y : Int, W.cell? (ad.add i) = some (.int .u8 y) ∧ 0 ≤ y ∧ y < 256 := by
      intro i hi
      obtain ⟨cs, h1, h2⟩ := hr i (by omega)
      rw [Try.cellsByte] at h1
      obtain ⟨_, hlen, hc⟩ := World.cells?_some h1
      obtain ⟨c0, rfl⟩ : ∃ c0, cs = [c0] := by
        match cs, hlen with
        | [c0], _ => exact ⟨c0, rfl⟩
      obtain ⟨z0, e0, _, w0⟩ := DataW.trod_int Try.underlying5 h2
      simp at e0
      subst e0
      refine ⟨z0, by simpa [Addr.add] using hc 0 (by omega), ?_⟩
      simp [Lit.wf, IntKind.min, IntKind.max, IntKind.signed, IntKind.bits] at w0
      omega
    obtain ⟨b, off, spot⟩ := ad
    obtain ⟨y, k1, k2, k3⟩ := each i hi
    have hspot : spot = none := by
      obtain ⟨y0, h0, _⟩ := each 0 (by omega)
      simpa [Addr.add] using World.cell?_spot h0
    subst hspot
    have e : ((⟨b, off, none⟩ : Addr).add i) = ⟨b, off + i, none⟩ := by unfold Addr.add; split <;> simp_all
    rw [e] at k1
    exact ⟨b, off, y, rfl, k1, k2, k3⟩
end

end Go.Proofs.Ytlehhfmbdcmpoaa

namespace Go.Proofs.Ytlehhfmbdcmpoaa
open Go.ChangeShapes Go.WideShapes Go.ChangeAt Go.RowKit
open Go.Lib (hid)

set_option maxRecDepth 100000 in
set_option maxHeartbeats 4000000 in
theorem FnPencils_c (v0 : Value) (x0 : Nat) (v1 : Value) (x1 : Nat) (w : World) (r0 : RBytes w v0 x0) (r1 : RBytes w v1 x1) :
    Calls Try.prog 8 #[v0, v1] w fun e w' => e = .returned (.bool true) ∧ Below w.heap.size w w' := by
  have R0 := hid r0
  have R1 := hid r1
  obtain ⟨a0, c0, rfl, hx0, hm0⟩ := r0.form
  obtain ⟨a1, c1, rfl, hx1, hm1⟩ := r1.form
  unfold maxLen at hm0 hm1
  clear r0 r1
  obtain ⟨z, hz⟩ : ∃ z, IntKind.i64.wrap ((x0 : Int) + (x1 : Int)) = z := ⟨_, rfl⟩
  by_cases hbig : 1048576 < z
  · go_enter Try.func8, Try.ntmps8
    go_wp2
    go_ret
    exact ⟨rfl, Below.refl _ _⟩
  go_enter Try.func8, Try.ntmps8
  go_wp2_with fail
  refine (DrawGonalityOf_c _ x0 _ R0.out).mono ?_
  rintro e w1 ⟨n, v, L, rfl, hn1, hn9, hll, hL, hb1⟩
  have HBw1 := hid hb1
  have R1_w1 := hid (R1.out.keep hb1)
  have L_w1 := hid hL
  obtain ⟨al, cl, rfl⟩ := hL.form
  clear hb1 hL
  clear hz hbig
  cases t : raGB n L
  case' false =>
    have HGO := hid (goB_no t)
    have HFP := hid (fpB_no t)
    go_wp2_with fail
    refine ((iGonalityOf_u n _ L _ L_w1.out).mono fun e w' h => h.l HGO.out).mono ?_
    rintro e w2 ⟨rfl, hb2⟩
    have HBw2 := hid (HBw1.out.trans (hb2.mono HBw1.out.size))
    have R1_w2 := hid (R1_w1.out.keep hb2)
    have L_w2 := hid (L_w1.out.keep hb2)
    clear hb2
    go_wp2_with fail
    refine ((sGonalityOf_u n _ L _ L_w2.out).mono fun e w' h => h.l HGO.out).mono ?_
    rintro e w3 ⟨rfl, hb3⟩
    have HBw3 := hid (HBw2.out.trans (hb3.mono HBw2.out.size))
    have R1_w3 := hid (R1_w2.out.keep hb3)
    have L_w3 := hid (L_w2.out.keep hb3)
    clear hb3
    go_wp2_with fail
    refine ((iFirstPencil_u n _ L _ L_w3.out).mono fun e w' h => h.l HFP.out).mono ?_
    rintro e w4 ⟨a4, n4, c4, rfl, hp4, hb4⟩
    have HBw4 := hid (HBw3.out.trans (hb4.mono HBw3.out.size))
    have R1_w4 := hid (R1_w3.out.keep hb4)
    have L_w4 := hid (L_w3.out.keep hb4)
    have P_w4 := hid hp4
    clear hb4 hp4
    go_wp2_with fail
    refine ((sFirstPencil_u n _ L _ L_w4.out).mono fun e w' h => h.l HFP.out).mono ?_
    rintro e w5 ⟨a5, n5, c5, rfl, hp5, hb5⟩
    have HBw5 := hid (HBw4.out.trans (hb5.mono HBw4.out.size))
    have R1_w5 := hid (R1_w4.out.keep hb5)
    have L_w5 := hid (L_w4.out.keep hb5)
    have P_w5 := hid (P_w4.out.keep hb5)
    have Q_w5 := hid hp5
    clear hb5 hp5
    go_wp2_with fail
    refine (qInts_y _ _ [] _ P_w5.out Q_w5.out).mono ?_
    rintro e w6 ⟨rfl, hb6⟩
    have HBw6 := hid (HBw5.out.trans (hb6.mono HBw5.out.size))
    have R1_w6 := hid (R1_w5.out.keep hb6)
    have L_w6 := hid (L_w5.out.keep hb6)
    have P_w6 := hid (P_w5.out.keep hb6)
    have Q_w6 := hid (Q_w5.out.keep hb6)
    clear hb6
    obtain ⟨wz, hwwz⟩ : ∃ wz, wz = w6 := ⟨_, rfl⟩
    subst hwwz
    have HBZ := HBw6
    have R1Z := R1_w6
  case' true =>
    obtain ⟨m, hm, hn, hG, hc, hg⟩ := graph_parts t
    subst hn
    have hgo := goB_yes t
    have hfp := fpB_yes t
    rw [Int.toNat_natCast] at hgo hfp
    obtain ⟨r, hr, hr1⟩ := pen_rank t
    have HRO := hid hr
    obtain ⟨k, hk, he, _⟩ := pen_found hG hc hg
    have h1 := allL_mem _ _ _ he
    have hn8 := hG.n8
    have HSQ : Hid (smallQ (penL m L)) := ⟨by omega, fun x hx => by have := h1.2 x hx; omega⟩
    obtain ⟨S, hS⟩ : ∃ S, (penL m L).sum = S := ⟨_, rfl⟩
    rw [hS] at hgo
    have HGO := hid hgo
    have HFP := hid hfp
    have HS := hid hS
    clear hgo hfp hr he h1 hk hG hc hg hS hm
    go_wp2_with fail
    refine ((iGonalityOf_u m _ L _ L_w1.out).mono fun e w' h => h.l HGO.out).mono ?_
    rintro e w2 ⟨rfl, hb2⟩
    have HBw2 := hid (HBw1.out.trans (hb2.mono HBw1.out.size))
    have R1_w2 := hid (R1_w1.out.keep hb2)
    have L_w2 := hid (L_w1.out.keep hb2)
    clear hb2
    go_wp2_with fail
    refine ((sGonalityOf_u m _ L _ L_w2.out).mono fun e w' h => h.l HGO.out).mono ?_
    rintro e w3 ⟨rfl, hb3⟩
    have HBw3 := hid (HBw2.out.trans (hb3.mono HBw2.out.size))
    have R1_w3 := hid (R1_w2.out.keep hb3)
    have L_w3 := hid (L_w2.out.keep hb3)
    clear hb3
    go_wp2_with fail
    refine ((iFirstPencil_u m _ L _ L_w3.out).mono fun e w' h => h.l HFP.out).mono ?_
    rintro e w4 ⟨a4, n4, c4, rfl, hp4, hb4⟩
    have HBw4 := hid (HBw3.out.trans (hb4.mono HBw3.out.size))
    have R1_w4 := hid (R1_w3.out.keep hb4)
    have L_w4 := hid (L_w3.out.keep hb4)
    have P_w4 := hid hp4
    clear hb4 hp4
    go_wp2_with fail
    refine ((sFirstPencil_u m _ L _ L_w4.out).mono fun e w' h => h.l HFP.out).mono ?_
    rintro e w5 ⟨a5, n5, c5, rfl, hp5, hb5⟩
    have HBw5 := hid (HBw4.out.trans (hb5.mono HBw4.out.size))
    have R1_w5 := hid (R1_w4.out.keep hb5)
    have L_w5 := hid (L_w4.out.keep hb5)
    have P_w5 := hid (P_w4.out.keep hb5)
    have Q_w5 := hid hp5
    clear hb5 hp5
    go_wp2_with fail
    refine (qInts_y _ _ (penL m L) _ P_w5.out Q_w5.out).mono ?_
    rintro e w6 ⟨rfl, hb6⟩
    have HBw6 := hid (HBw5.out.trans (hb6.mono HBw5.out.size))
    have R1_w6 := hid (R1_w5.out.keep hb6)
    have L_w6 := hid (L_w5.out.keep hb6)
    have P_w6 := hid (P_w5.out.keep hb6)
    have Q_w6 := hid (Q_w5.out.keep hb6)
    clear hb6
    go_wp2_with fail
    refine ((iRankOfChips_u m _ L _ (penL m L) _ L_w6.out P_w6.out).mono fun e w' h => h.l HRO.out).mono ?_
    rintro e w7 ⟨rfl, hb7⟩
    have HBw7 := hid (HBw6.out.trans (hb7.mono HBw6.out.size))
    have R1_w7 := hid (R1_w6.out.keep hb7)
    have L_w7 := hid (L_w6.out.keep hb7)
    have P_w7 := hid (P_w6.out.keep hb7)
    have Q_w7 := hid (Q_w6.out.keep hb7)
    clear hb7
    go_wp2_with fail
    refine (qSum_c _ (penL m L) _ Q_w7.out HSQ.out).mono ?_
    rintro e w' ⟨rfl, rfl⟩
    rw [HS.out]
    obtain ⟨wz, hwwz⟩ : ∃ wz, wz = w7 := ⟨_, rfl⟩
    subst hwwz
    have HBZ := HBw7
    have R1Z := R1_w7
  all_goals
    go_wp2_with fail
    refine (DrawBaseVertices_c _ x1 _ R1Z.out).mono ?_
    rintro e y1 ⟨g, vg, M, vd, d, rfl, hg1, hg9, hml, hdl, hM, hD, hb1⟩
    have HBy1 := hid (HBZ.out.trans (hb1.mono HBZ.out.size))
    have M_y1 := hid hM
    have D_y1 := hid hD
    obtain ⟨am, cm, rfl⟩ := hM.form
    obtain ⟨ad, cd, rfl⟩ := hD.form
    clear hb1 hM hD
    cases t1 : raAB g M d
    case false =>
      have HBA := hid (basB_no t1)
      have HSP := hid (speB_no (by rw [dualB_no1 t1]) : speB g M d = (false, false))
      go_wp2_with fail
      refine ((iBaseVertices_u g _ M _ d _ M_y1.out D_y1.out).mono fun e w' h => h.l HBA.out).mono ?_
      rintro e y2 ⟨a2, n2, c2, rfl, hp2, hb2⟩
      have HBy2 := hid (HBy1.out.trans (hb2.mono HBy1.out.size))
      have M_y2 := hid (M_y1.out.keep hb2)
      have D_y2 := hid (D_y1.out.keep hb2)
      have B_y2 := hid hp2
      clear hb2 hp2
      go_wp2_with fail
      refine ((sBaseVertices_u g _ M _ d _ M_y2.out D_y2.out).mono fun e w' h => h.l HBA.out).mono ?_
      rintro e y3 ⟨a3, n3, c3, rfl, hp3, hb3⟩
      have HBy3 := hid (HBy2.out.trans (hb3.mono HBy2.out.size))
      have M_y3 := hid (M_y2.out.keep hb3)
      have D_y3 := hid (D_y2.out.keep hb3)
      have B_y3 := hid (B_y2.out.keep hb3)
      have E_y3 := hid hp3
      clear hb3 hp3
      go_wp2_with fail
      refine ((iIsSpecialChips_u g _ M _ d _ M_y3.out D_y3.out).mono fun e w' h => h.l HSP.out).mono ?_
      rintro e y4 ⟨rfl, hb4⟩
      have HBy4 := hid (HBy3.out.trans (hb4.mono HBy3.out.size))
      have M_y4 := hid (M_y3.out.keep hb4)
      have D_y4 := hid (D_y3.out.keep hb4)
      have B_y4 := hid (B_y3.out.keep hb4)
      have E_y4 := hid (E_y3.out.keep hb4)
      clear hb4
      go_wp2_with fail
      refine ((sIsSpecialChips_u g _ M _ d _ M_y4.out D_y4.out).mono fun e w' h => h.l HSP.out).mono ?_
      rintro e y5 ⟨rfl, hb5⟩
      have HBy5 := hid (HBy4.out.trans (hb5.mono HBy4.out.size))
      have M_y5 := hid (M_y4.out.keep hb5)
      have D_y5 := hid (D_y4.out.keep hb5)
      have B_y5 := hid (B_y4.out.keep hb5)
      have E_y5 := hid (E_y4.out.keep hb5)
      clear hb5
      go_wp2_with fail
      refine (qInts_y _ _ [] _ B_y5.out E_y5.out).mono ?_
      rintro e y6 ⟨rfl, hb6⟩
      have HBy6 := hid (HBy5.out.trans (hb6.mono HBy5.out.size))
      have M_y6 := hid (M_y5.out.keep hb6)
      have D_y6 := hid (D_y5.out.keep hb6)
      have B_y6 := hid (B_y5.out.keep hb6)
      have E_y6 := hid (E_y5.out.keep hb6)
      clear hb6
      go_wp2
      go_ret
      exact ⟨rfl, HBy6.out⟩
    case true =>
      obtain ⟨i, hi, hn, hdi, _, _, hG, hc⟩ := ask_parts t1
      subst hn
      have hba := basB_yes t1
      rw [Int.toNat_natCast] at hba
      have HBA := hid hba
      have HT1 := hid t1
      have hn8 := hG.n8
      have HDL := hid hdi
      obtain ⟨r, hr⟩ : ∃ r, rkZ i M (fun i => d.getD i 0) = r := ⟨_, rfl⟩
      have HR : Hid (rocB (i : Int) M d = (r, true)) := by show _ = _; rw [rocB_yes HT1.out, Int.toNat_natCast, hr]
      have hr9 : Hid (-100 ≤ r ∧ r ≤ 100) := by
        obtain ⟨k, h1, h2, _⟩ := rk_spec hG hc (ask_parts2 HT1.out HDL.out).1 (ask_parts2 HT1.out HDL.out).2
        show _ ∧ _
        omega
      have hok : Hid (∀ v, v < i → raAB (i : Int) M (d.set v (d.getD v 0 - 1)) = true → ∃ o, rocB (i : Int) M (d.set v (d.getD v 0 - 1)) = (o, true) ∧ basP i M (fun i => d.getD i 0) v = (o == r) ∧ o ≤ r ∧ r - 1 ≤ o) := fun v hv t2 => base_ok HT1.out HDL.out hv t2 hr
      have hbd : Hid (∀ j, -8 ≤ d.getD j 0 ∧ d.getD j 0 ≤ 8) := fun j => getD_bound (B := 8) (raCB_parts (by have := HT1.out; unfold raAB at this; simp only [Bool.and_eq_true] at this; exact this.2)).2 (by decide) j
      have HLL : Hid (d.length ≤ 1048576) := by show _ ≤ _; omega
      clear hba hr t1 hdi hG hc
      cases t2 : (dualB (i : Int) M d).2
      case' false =>
        have HSP := hid (speB_no t2)
        clear t2
        go_wp2_with fail
        refine ((iBaseVertices_u i _ M _ d _ M_y1.out D_y1.out).mono fun e w' h => h.l HBA.out).mono ?_
        rintro e y2 ⟨a2, n2, c2, rfl, hp2, hb2⟩
        have HBy2 := hid (HBy1.out.trans (hb2.mono HBy1.out.size))
        have M_y2 := hid (M_y1.out.keep hb2)
        have D_y2 := hid (D_y1.out.keep hb2)
        have B_y2 := hid hp2
        clear hb2 hp2
        go_wp2_with fail
        refine ((sBaseVertices_u i _ M _ d _ M_y2.out D_y2.out).mono fun e w' h => h.l HBA.out).mono ?_
        rintro e y3 ⟨a3, n3, c3, rfl, hp3, hb3⟩
        have HBy3 := hid (HBy2.out.trans (hb3.mono HBy2.out.size))
        have M_y3 := hid (M_y2.out.keep hb3)
        have D_y3 := hid (D_y2.out.keep hb3)
        have B_y3 := hid (B_y2.out.keep hb3)
        have E_y3 := hid hp3
        clear hb3 hp3
        go_wp2_with fail
        refine ((iIsSpecialChips_u i _ M _ d _ M_y3.out D_y3.out).mono fun e w' h => h.l HSP.out).mono ?_
        rintro e y4 ⟨rfl, hb4⟩
        have HBy4 := hid (HBy3.out.trans (hb4.mono HBy3.out.size))
        have M_y4 := hid (M_y3.out.keep hb4)
        have D_y4 := hid (D_y3.out.keep hb4)
        have B_y4 := hid (B_y3.out.keep hb4)
        have E_y4 := hid (E_y3.out.keep hb4)
        clear hb4
        go_wp2_with fail
        refine ((sIsSpecialChips_u i _ M _ d _ M_y4.out D_y4.out).mono fun e w' h => h.l HSP.out).mono ?_
        rintro e y5 ⟨rfl, hb5⟩
        have HBy5 := hid (HBy4.out.trans (hb5.mono HBy4.out.size))
        have M_y5 := hid (M_y4.out.keep hb5)
        have D_y5 := hid (D_y4.out.keep hb5)
        have B_y5 := hid (B_y4.out.keep hb5)
        have E_y5 := hid (E_y4.out.keep hb5)
        clear hb5
        go_wp2_with fail
        refine (qInts_y _ _ (setL (basP i M fun i => d.getD i 0) i) _ B_y5.out E_y5.out).mono ?_
        rintro e y6 ⟨rfl, hb6⟩
        have HBy6 := hid (HBy5.out.trans (hb6.mono HBy5.out.size))
        have M_y6 := hid (M_y5.out.keep hb6)
        have D_y6 := hid (D_y5.out.keep hb6)
        have B_y6 := hid (B_y5.out.keep hb6)
        have E_y6 := hid (E_y5.out.keep hb6)
        clear hb6
        go_wp2_with fail
        refine ((iRankOfChips_u i _ M _ d _ M_y6.out D_y6.out).mono fun e w' h => h.l HR.out).mono ?_
        rintro e y7 ⟨rfl, hb7⟩
        have HBy7 := hid (HBy6.out.trans (hb7.mono HBy6.out.size))
        have M_y7 := hid (M_y6.out.keep hb7)
        have D_y7 := hid (D_y6.out.keep hb7)
        have B_y7 := hid (B_y6.out.keep hb7)
        have E_y7 := hid (E_y6.out.keep hb7)
        clear hb7
        obtain ⟨wl, hwl⟩ : ∃ wl, wl = y7 := ⟨_, rfl⟩
        subst hwl
        have HBL := HBy7
        have HML := M_y7
        have HDL2 := D_y7
        have HEL := E_y7
      case' true =>
        have hsp := speB_yes t2
        rw [Int.toNat_natCast] at hsp
        obtain ⟨hG, hc, hd40, hdu, _, hra⟩ := dual_parts t2
        obtain ⟨wb, hwb⟩ : ∃ wb, winB i M (dualF i M d) = wb := ⟨_, rfl⟩
        rw [hwb] at hsp
        have HWB := hid hwb
        have HSP := hid hsp
        have HDU : Hid (dualB (i : Int) M d = (lst i (dualF i M d), true)) := by show _ = _; rw [← hdu, ← t2]
        have HGG := hid (raGB_good (by have := HT1.out; unfold raAB at this; simp only [Bool.and_eq_true] at this; exact this.1))
        have HW : Hid (∀ j, j < i → -20 ≤ dualF i M d j ∧ dualF i M d j ≤ 20) := fun j hj => by
          have := (raCB_parts hra).2 _ (mem_lst.2 ⟨j, hj, rfl⟩)
          omega
        clear hsp hG hc hd40 hdu hra hwb t2
        go_wp2_with fail
        refine ((iBaseVertices_u i _ M _ d _ M_y1.out D_y1.out).mono fun e w' h => h.l HBA.out).mono ?_
        rintro e y2 ⟨a2, n2, c2, rfl, hp2, hb2⟩
        have HBy2 := hid (HBy1.out.trans (hb2.mono HBy1.out.size))
        have M_y2 := hid (M_y1.out.keep hb2)
        have D_y2 := hid (D_y1.out.keep hb2)
        have B_y2 := hid hp2
        clear hb2 hp2
        go_wp2_with fail
        refine ((sBaseVertices_u i _ M _ d _ M_y2.out D_y2.out).mono fun e w' h => h.l HBA.out).mono ?_
        rintro e y3 ⟨a3, n3, c3, rfl, hp3, hb3⟩
        have HBy3 := hid (HBy2.out.trans (hb3.mono HBy2.out.size))
        have M_y3 := hid (M_y2.out.keep hb3)
        have D_y3 := hid (D_y2.out.keep hb3)
        have B_y3 := hid (B_y2.out.keep hb3)
        have E_y3 := hid hp3
        clear hb3 hp3
        go_wp2_with fail
        refine ((iIsSpecialChips_u i _ M _ d _ M_y3.out D_y3.out).mono fun e w' h => h.l HSP.out).mono ?_
        rintro e y4 ⟨rfl, hb4⟩
        have HBy4 := hid (HBy3.out.trans (hb4.mono HBy3.out.size))
        have M_y4 := hid (M_y3.out.keep hb4)
        have D_y4 := hid (D_y3.out.keep hb4)
        have B_y4 := hid (B_y3.out.keep hb4)
        have E_y4 := hid (E_y3.out.keep hb4)
        clear hb4
        go_wp2_with fail
        refine ((sIsSpecialChips_u i _ M _ d _ M_y4.out D_y4.out).mono fun e w' h => h.l HSP.out).mono ?_
        rintro e y5 ⟨rfl, hb5⟩
        have HBy5 := hid (HBy4.out.trans (hb5.mono HBy4.out.size))
        have M_y5 := hid (M_y4.out.keep hb5)
        have D_y5 := hid (D_y4.out.keep hb5)
        have B_y5 := hid (B_y4.out.keep hb5)
        have E_y5 := hid (E_y4.out.keep hb5)
        clear hb5
        go_wp2_with fail
        refine (qInts_y _ _ (setL (basP i M fun i => d.getD i 0) i) _ B_y5.out E_y5.out).mono ?_
        rintro e y6 ⟨rfl, hb6⟩
        have HBy6 := hid (HBy5.out.trans (hb6.mono HBy5.out.size))
        have M_y6 := hid (M_y5.out.keep hb6)
        have D_y6 := hid (D_y5.out.keep hb6)
        have B_y6 := hid (B_y5.out.keep hb6)
        have E_y6 := hid (E_y5.out.keep hb6)
        clear hb6
        go_wp2_with fail
        refine ((iDualChips_u i _ M _ d _ M_y6.out D_y6.out).mono fun e w' h => h.l HDU.out).mono ?_
        rintro e y7 ⟨a7, n7, c7, rfl, hp7, hb7⟩
        have HBy7 := hid (HBy6.out.trans (hb7.mono HBy6.out.size))
        have M_y7 := hid (M_y6.out.keep hb7)
        have D_y7 := hid (D_y6.out.keep hb7)
        have B_y7 := hid (B_y6.out.keep hb7)
        have E_y7 := hid (E_y6.out.keep hb7)
        have U_y7 := hid hp7
        clear hb7 hp7
        go_wp2_with fail
        refine (iIsWinnable_y i _ _ M (dualF i M d) _ M_y7.out U_y7.out (by have := HGG.out.1; rwa [Int.toNat_natCast] at this) HGG.out.2.2.2.2 (by have := HGG.out.2.2.2.1; rwa [Int.toNat_natCast] at this) HW.out).mono ?_
        rintro e y8 ⟨rfl, hb8⟩
        have HBy8 := hid (HBy7.out.trans (hb8.mono HBy7.out.size))
        have M_y8 := hid (M_y7.out.keep hb8)
        have D_y8 := hid (D_y7.out.keep hb8)
        have B_y8 := hid (B_y7.out.keep hb8)
        have E_y8 := hid (E_y7.out.keep hb8)
        have U_y8 := hid (U_y7.out.keep hb8)
        clear hb8
        rw [HWB.out]
        go_wp2_with fail
        refine ((iRankOfChips_u i _ M _ d _ M_y8.out D_y8.out).mono fun e w' h => h.l HR.out).mono ?_
        rintro e y9 ⟨rfl, hb9⟩
        have HBy9 := hid (HBy8.out.trans (hb9.mono HBy8.out.size))
        have M_y9 := hid (M_y8.out.keep hb9)
        have D_y9 := hid (D_y8.out.keep hb9)
        have B_y9 := hid (B_y8.out.keep hb9)
        have E_y9 := hid (E_y8.out.keep hb9)
        have U_y9 := hid (U_y8.out.keep hb9)
        clear hb9
        obtain ⟨wl, hwl⟩ : ∃ wl, wl = y9 := ⟨_, rfl⟩
        subst hwl
        have HBL := HBy9
        have HML := M_y9
        have HDL2 := D_y9
        have HEL := E_y9
      all_goals
        obtain ⟨f, hf⟩ : ∃ f : Nat → Int, (fun j => d.getD j 0) = f := ⟨_, rfl⟩
        have HFD : Hid (∀ j, d.getD j 0 = f j) := fun j => by rw [← hf]
        have HDF : Hid (RInts wl (.slice ad d.length cd) (lst i f)) := by show RInts _ _ _; rw [← hf]; exact rints_lst HDL2.out HDL.out
        have hok2 : Hid (∀ v, v < i → raAB (i : Int) M (lst i (upd f v (f v - 1))) = true → ∃ o, rocB (i : Int) M (lst i (upd f v (f v - 1))) = (o, true) ∧ basP i M f v = (o == r) ∧ o ≤ r ∧ r - 1 ≤ o) := fun v hv t2 => by
          have h := hok.out v hv
          have e : d.set v (d.getD v 0 - 1) = lst i (upd f v (f v - 1)) := by rw [← hf]; exact less_list HDL.out _
          rw [e, hf] at h
          exact h t2
        have hbf : Hid (∀ j, -8 ≤ f j ∧ f j ≤ 8) := fun j => by rw [← HFD.out j]; exact hbd.out j
        have HEF : Hid (RInts wl (.slice a3 n3 c3) (setL (basP i M f) i)) := by have := HEL.out; rw [hf] at this; exact this
        clear HDL2 hok hbd HEL hf
        go_wp2
        go_loopg [208] i (fun gk jv wr => ∃ j : Nat, j ≤ i ∧ gk = i - j ∧ jv = .int .i64 j ∧ Below wl.heap.size wl wr)
        case atStart => exact ⟨0, Nat.zero_le _, by omega, rfl, Below.refl _ _⟩
        case round =>
          obtain ⟨j, hj, rfl, rfl, hb⟩ := hrel
          have HBR := hid hb
          clear hb
          by_cases hlt : j < i
          · have hltz : (j : Int) < (i : Int) := by omega
            have hltd : (j : Int) < (d.length : Int) := by have h : d.length = i := HDL.out; rw [h]; exact hltz
            have HMR := hid (HML.out.keep HBR.out)
            have HER := hid (HEF.out.keep HBR.out)
            have hRa := (HDF.out.keep HBR.out).keep ((Below.refl wr.heap.size wr).alloc (Nat.le_refl _) (.cells #[] 3))
            have hFe := ints_empty wr wr.heap.size (Nat.le_refl _)
            have HAP := hid (And.intro hRa hFe)
            have hi0 : 0 < i := by omega
            have hlen20 : ([] : List Int).length + (lst i f).length ≤ 1099511627776 := by rw [lst_len]; simp; omega
            have HL20 := hid hlen20
            clear hRa hFe hlen20
            go_wp2_with (at_builtin; (refine wpList_append_ints rfl _ _ rfl _ _ _ _ [] (lst i f) rfl rfl HAP.out.2 HAP.out.1 HL20.out (by simp) ?_; intro v' w' hF' hg hn; obtain ⟨g3, c3, rfl, hc1, hc2⟩ := own_copy hi0 hF' hg; have e1 := (hc1 j hlt).1; have e2 := (hc1 j hlt).2; have HST := hid (hc2 j (f j - 1) hlt); have hbj := hbf.out j; have HFJ : Hid (f j = f j) := rfl; obtain ⟨y, hy⟩ : ∃ y, f j = y := ⟨_, rfl⟩; rw [hy] at e1 HST hbj; have HY := hid hy; have f1 : IntKind.i64.wrap (y - 1) = y - 1 := IntWalk.i64_in _ (by omega); clear hF' hg hn hc1 hc2 hy))
            have HMS := hid (HMR.out.keep HST.out.2)
            have HES := hid (HER.out.keep HST.out.2)
            have HBS := hid (HBR.out.trans (HST.out.2.mono HBR.out.size))
            cases t3 : raAB (i : Int) M (lst i (upd f j (y - 1)))
            · have HRN := hid (rocB_no t3)
              refine ((iRankOfChips_u i _ M _ (lst i (upd f j (y - 1))) _ HMS.out HST.out.1).mono fun e w' h => h.l HRN.out).mono ?_
              rintro e w2 ⟨rfl, hb2⟩
              have HB2 := hid (HBS.out.trans (hb2.mono HBS.out.size))
              clear hb2 e1 e2 f1 t3
              go_wp2
              go_roundg (i - (j + 1))
              case rel => exact ⟨j + 1, by omega, rfl, by go_num, HB2.out⟩
              case measure => omega
            · obtain ⟨o, ho, hbo, ho1, ho2⟩ := hok2.out j hlt (by rw [HY.out]; exact t3)
              rw [HY.out] at ho
              have HRN := hid ho
              have HBO := hid hbo
              clear ho hbo t3 e1 e2 f1
              refine ((iRankOfChips_u i _ M _ (lst i (upd f j (y - 1))) _ HMS.out HST.out.1).mono fun e w' h => h.l HRN.out).mono ?_
              rintro e w2 ⟨rfl, hb2⟩
              have HB2 := hid (HBS.out.trans (hb2.mono HBS.out.size))
              have HE2 := hid (HES.out.keep hb2)
              clear hb2
              have f2 : IntKind.i64.wrap (r - 1) = r - 1 := IntWalk.i64_in _ (by have := hr9.out; omega)
              cases tb : (o == r)
              all_goals
                go_wp2_with (go_at_call 89; (with_reducible refine (qHas_c _ (setL (basP i M f) i) j _ HE2.out).mono ?_); rintro e w' ⟨rfl, rfl⟩; rw [hasB_setL hlt, HBO.out, tb])
                go_roundg (i - (j + 1))
                case rel => exact ⟨j + 1, by omega, rfl, by go_num, HB2.out⟩
                case measure => omega
          · obtain rfl : j = i := by omega
            have hltd : ¬ ((j : Int) < (d.length : Int)) := by have h : d.length = j := HDL.out; rw [h]; omega
            go_wp2
            go_ret
            exact ⟨rfl, HBL.out.trans (HBR.out.mono HBL.out.size)⟩

set_option maxRecDepth 100000 in
theorem fnPencils_lifted (os : Os) (started : os.Started) (H : Type) (enc : TypeId × Value → H) :
    ReturnsInHanded {} Try.checked os 8 .any (Rows.fnPencilsSpec.pre6 enc Try.prog Try.f8 Rows.fnPencilsRow.domain false) (Rows.fnPencilsSpec.post enc Try.prog Try.f8 false true false false) := by
  refine returnsInHanded_of_change (C := Try.checked) Try.own' started (by kernel_rfl) Try.func8
    (ChangeSpec.witness6 (enc := enc) (C := Try.checked) false ⟨#[], #[.slice none 0 0, .slice none 0 0], []⟩ 8 (by kernel_rfl) (by kernel_rfl) (by kernel_rfl) (by kernel_rfl)) ?_
  intro W base args ds gs before hval0 hW hcnd _
  have hval : ∀ (j : Nat) t v, Try.f8.params[j]? = some t → args[j]? = some v → Value.okWide Try.prog W .any base t v := hval0
  have hW' := hW
  obtain ⟨p, q, hA0, hV, rfl, hfz, hnd⟩ := hW
  have hA : DataW.TrodAll enc Try.prog W 0 (fun _ => true) true Try.f8.params.toList args.toList ds p := hA0
  rw [Try.params8] at hA hval
  obtain ⟨v0, vs0, d0, ds0, p0, q0, hargs, rfl, rfl, h0, t0⟩ := trodAll_cons hA
  obtain ⟨v1, vs1, d1, ds1, p1, q1, rfl, rfl, rfl, h1, t1⟩ := trodAll_cons t0
  obtain ⟨rfl, rfl, rfl⟩ := trodAll_nil t1
  obtain rfl : args = #[v0, v1] := by cases args; simp_all
  obtain ⟨rfl, rfl⟩ := trodVars_none hV
  have k0 := h0
  have lt0 := trod_blocks k0
  obtain ⟨x0, r0, i0⟩ := open_rbytes (hval 0 35 v0 rfl rfl) h0
  have k1 := h1
  have lt1 := trod_blocks k1
  obtain ⟨x1, r1, i1⟩ := open_rbytes (hval 1 35 v1 rfl rfl) h1
  clear hA0 hval0
  refine (FnPencils_c v0 x0 v1 x1 W r0 r1).mono fun e W' ⟨he, bel⟩ => ?_
  subst he
  exact ⟨_, rfl, _, _, _, [], _, [], hW', trodAll_mk1 (shut_bool Try.underlying4 _), (trodAll_cons_mk (Below.trod Try.laidOut' (by kernel_rfl) (of_decide_eq_true (by kernel_rfl)) k0 bel lt0) (trodAll_cons_mk (Below.trod Try.laidOut' (by kernel_rfl) (of_decide_eq_true (by kernel_rfl)) k1 bel lt1) trodAll_mk0)), rfl, bel.frame _, fun h => by cases h⟩

theorem fnPencils_holds : Rows.FnPencilsSaid :=
  OpenClaim.holds_of_wide 8 Try.f8 rfl rfl rfl rfl rfl rfl rfl ⟨rfl, rfl, rfl, rfl, rfl⟩ rfl rfl rfl rfl rfl (by kernel_rfl) Try.func8 (by kernel_rfl)
    (of_decide_eq_true (by kernel_rfl)) (by unfold Func.isWrapper; first | (rw [if_pos (by decide +kernel)]; kernel_rfl) | (rw [if_neg (by decide +kernel)]; exact ⟨rfl, rfl⟩))
    (fun os started H enc _ => fnPencils_lifted os started H enc)

end Go.Proofs.Ytlehhfmbdcmpoaa

