/- FirstPencil, GonalityOf: both. -/
import Derived.Test.YtiepmhoimijnlaaPenI
namespace Go.Proofs.Ytiepmhoimijnlaa
open Go.RowKit
open Go.Lib (hid)

theorem pn_small {n : Nat} {L : List Lnk} (h1 : 1 ≤ n) (hn : n ≤ 8) : ∀ m k : Nat, k + m ≤ 20 → (pnN n L m k).length ≤ 8 ∧ ∀ x ∈ pnN n L m k, 0 ≤ x ∧ x ≤ 20 := by
  intro m
  induction m with
  | zero => intro k _; simp [pnN]
  | succ m ih =>
    intro k hk
    simp only [pnN]
    cases hO : penO n L k with
    | none => exact ih (k + 1) (by omega)
    | some e =>
      have h := allL_mem _ _ e (List.mem_of_find?_eq_some hO)
      exact ⟨by dsimp only; omega, fun x hx => by have := h.2 x hx; omega⟩
noncomputable def fpB (n : Int) (L : List Lnk) : List Int × Bool := if raGB n L then (penL n.toNat L, true) else ([], false)
noncomputable def goB (n : Int) (L : List Lnk) : Int × Bool := if raGB n L then ((penL n.toNat L).sum, true) else (0, false)
theorem fpB_yes {n : Int} {L : List Lnk} (h : raGB n L = true) : fpB n L = (penL n.toNat L, true) := by unfold fpB; rw [h]; rfl
theorem fpB_no {n : Int} {L : List Lnk} (h : raGB n L = false) : fpB n L = ([], false) := by unfold fpB; rw [h]; rfl
theorem goB_yes {n : Int} {L : List Lnk} (h : raGB n L = true) : goB n L = ((penL n.toNat L).sum, true) := by unfold goB; rw [h]; rfl
theorem goB_no {n : Int} {L : List Lnk} (h : raGB n L = false) : goB n L = (0, false) := by unfold goB; rw [h]; rfl
theorem fpB_len (n : Int) (L : List Lnk) : (fpB n L).1.length ≤ 1048576 := by
  rcases Bool.eq_false_or_eq_true (raGB n L) with h | h
  · obtain ⟨m, hm, _, hG, _⟩ := graph_parts h
    have := (pn_small (L := L) hG.n1 hG.n8 5 1 (by decide)).1
    rw [fpB_yes h, hm]
    show (pnN m L 5 1).length ≤ _
    omega
  · rw [fpB_no h]; simp

set_option maxRecDepth 100000 in
set_option maxHeartbeats 1000000 in
theorem sFirstPencil_u (n : Int) (v : Value) (L : List Lnk) (w : World) (h : RLinks w v L) :
    Calls Try.prog 42 #[.int .i64 n, v] w (RetIB w (fpB n L)) := by
  have HR := hid h
  obtain ⟨a, cap, rfl⟩ := h.form
  clear h
  rcases Bool.eq_false_or_eq_true (raGB n L) with t | t
  · obtain ⟨m, hm, hn, hG, hc, hg⟩ := graph_parts t
    have hy := fpB_yes t
    rw [hm] at hy
    subst hn
    have HY := hid hy
    clear hy hm
    go_enter Try.func42, Try.ntmps42
    go_wp2_with fail
    refine (raGraph_c _ _ L _ HR.out).mono ?_
    rintro e w1 ⟨rfl, hb1⟩
    rw [t]
    have HB1 := hid hb1
    have HR1 := hid (HR.out.keep hb1)
    clear hb1
    go_wp2_with fail
    refine (raPencil_c m _ L _ HR1.out hG hc hg).mono ?_
    rintro e w2 ⟨q, rfl, hF, hb2⟩
    have HF := hid (And.intro (hF.mono HB1.out.size (Nat.le_refl _)) (HB1.out.trans (hb2.mono HB1.out.size)))
    obtain ⟨a6, n6, c6, rfl⟩ := hF.form3
    clear hF hb2
    go_wp2
    go_ret2
    exact ⟨_, by rw [HY.out]; rfl, by rw [HY.out]; exact HF.out.1, HF.out.2⟩
  · have HE := hid (fpB_no t)
    go_enter Try.func42, Try.ntmps42
    go_wp2_with fail
    refine (raGraph_c _ _ L _ HR.out).mono ?_
    rintro e w1 ⟨rfl, hb1⟩
    rw [t]
    go_wp2
    go_ret2
    exact ⟨_, by rw [HE.out]; rfl, by rw [HE.out]; exact ints_nil _ _ _, hb1⟩

set_option maxRecDepth 100000 in
set_option maxHeartbeats 1000000 in
theorem iFirstPencil_u (n : Int) (v : Value) (L : List Lnk) (w : World) (h : RLinks w v L) :
    Calls Try.prog 43 #[.int .i64 n, v] w (RetIB w (fpB n L)) := by
  have HR := hid h
  obtain ⟨a, cap, rfl⟩ := h.form
  clear h
  rcases Bool.eq_false_or_eq_true (raGB n L) with t | t
  · obtain ⟨m, hm, hn, hG, hc, hg⟩ := graph_parts t
    have hy := fpB_yes t
    rw [hm] at hy
    subst hn
    have HY := hid hy
    clear hy hm
    go_enter Try.func43, Try.ntmps43
    go_wp2_with fail
    refine (smallGraph_yes m _ L _ HR.out t).mono ?_
    rintro e w1 ⟨g, rfl, hgr, hb1⟩
    have HB1 := hid hb1
    have HG1 := hid hgr
    clear hb1 hgr
    go_wp2_with fail
    refine (pencil_c m _ L _ HG1.out hG hc hg).mono ?_
    rintro e w2 ⟨q, rfl, hF, hb2⟩
    have HF := hid (And.intro (hF.mono HB1.out.size (Nat.le_refl _)) (HB1.out.trans (hb2.mono HB1.out.size)))
    obtain ⟨a6, n6, c6, rfl⟩ := hF.form3
    clear hF hb2
    go_wp2
    go_ret2
    exact ⟨_, by rw [HY.out]; rfl, by rw [HY.out]; exact HF.out.1, HF.out.2⟩
  · have HE := hid (fpB_no t)
    go_enter Try.func43, Try.ntmps43
    go_wp2_with fail
    refine (smallGraph_no n _ L _ HR.out t).mono ?_
    rintro e w1 ⟨g, rfl, hb1⟩
    go_wp2
    go_ret2
    exact ⟨_, by rw [HE.out]; rfl, by rw [HE.out]; exact ints_nil _ _ _, hb1⟩

set_option maxRecDepth 100000 in
set_option maxHeartbeats 1000000 in
theorem sGonalityOf_u (n : Int) (v : Value) (L : List Lnk) (w : World) (h : RLinks w v L) :
    Calls Try.prog 34 #[.int .i64 n, v] w (RetZB w (goB n L)) := by
  have HR := hid h
  obtain ⟨a, cap, rfl⟩ := h.form
  clear h
  rcases Bool.eq_false_or_eq_true (raGB n L) with t | t
  · obtain ⟨m, hm, hn, hG, hc, hg⟩ := graph_parts t
    have hy := goB_yes t
    rw [hm] at hy
    subst hn
    have HY := hid hy
    have hps := pn_small (L := L) hG.n1 hG.n8 5 1 (by decide)
    have HSI : Hid (smallI (penL m L)) := ⟨by have := hps.1; show (pnN m L 5 1).length ≤ 1000; omega, fun x hx => by have := hps.2 x hx; omega⟩
    clear hy hm hps
    go_enter Try.func34, Try.ntmps34
    go_wp2_with fail
    refine (raGraph_c _ _ L _ HR.out).mono ?_
    rintro e w1 ⟨rfl, hb1⟩
    rw [t]
    have HB1 := hid hb1
    have HR1 := hid (HR.out.keep hb1)
    clear hb1
    go_wp2_with fail
    refine (raPencil_c m _ L _ HR1.out hG hc hg).mono ?_
    rintro e w2 ⟨q, rfl, hF, hb2⟩
    have HB2 := hid (HB1.out.trans (hb2.mono HB1.out.size))
    have HF := hid hF.r
    obtain ⟨a6, n6, c6, rfl⟩ := hF.form3
    clear hF hb2
    go_wp2_with fail
    refine (chSum_c _ (penL m L) _ HF.out HSI.out).mono ?_
    rintro e w' ⟨rfl, rfl⟩
    go_wp2
    go_ret2
    exact ⟨by rw [HY.out]; rfl, HB2.out⟩
  · have HE := hid (goB_no t)
    go_enter Try.func34, Try.ntmps34
    go_wp2_with fail
    refine (raGraph_c _ _ L _ HR.out).mono ?_
    rintro e w1 ⟨rfl, hb1⟩
    rw [t]
    go_wp2
    go_ret2
    exact ⟨by rw [HE.out]; rfl, hb1⟩

set_option maxRecDepth 100000 in
set_option maxHeartbeats 1000000 in
theorem iGonalityOf_u (n : Int) (v : Value) (L : List Lnk) (w : World) (h : RLinks w v L) :
    Calls Try.prog 35 #[.int .i64 n, v] w (RetZB w (goB n L)) := by
  have HR := hid h
  obtain ⟨a, cap, rfl⟩ := h.form
  clear h
  rcases Bool.eq_false_or_eq_true (raGB n L) with t | t
  · obtain ⟨m, hm, hn, hG, hc, hg⟩ := graph_parts t
    have hy := goB_yes t
    rw [hm] at hy
    subst hn
    have HY := hid hy
    have hps := pn_small (L := L) hG.n1 hG.n8 5 1 (by decide)
    have HSI : Hid (smallI (penL m L)) := ⟨by have := hps.1; show (pnN m L 5 1).length ≤ 1000; omega, fun x hx => by have := hps.2 x hx; omega⟩
    clear hy hm hps
    go_enter Try.func35, Try.ntmps35
    go_wp2_with fail
    refine (smallGraph_yes m _ L _ HR.out t).mono ?_
    rintro e w1 ⟨g, rfl, hgr, hb1⟩
    have HB1 := hid hb1
    have HG1 := hid hgr
    clear hb1 hgr
    go_wp2_with fail
    refine (pencil_c m _ L _ HG1.out hG hc hg).mono ?_
    rintro e w2 ⟨q, rfl, hF, hb2⟩
    have HB2 := hid (HB1.out.trans (hb2.mono HB1.out.size))
    have HF := hid hF.r
    obtain ⟨a6, n6, c6, rfl⟩ := hF.form3
    clear hF hb2
    go_wp2_with fail
    refine (total_c _ (penL m L) _ HF.out HSI.out).mono ?_
    rintro e w' ⟨rfl, rfl⟩
    go_wp2
    go_ret2
    exact ⟨by rw [HY.out]; rfl, HB2.out⟩
  · have HE := hid (goB_no t)
    go_enter Try.func35, Try.ntmps35
    go_wp2_with fail
    refine (smallGraph_no n _ L _ HR.out t).mono ?_
    rintro e w1 ⟨g, rfl, hb1⟩
    go_wp2
    go_ret2
    exact ⟨by rw [HE.out]; rfl, hb1⟩

end Go.Proofs.Ytiepmhoimijnlaa
