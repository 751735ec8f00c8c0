/- The splits of a tree metric, by the reference. -/
import Derived.Test.YtnkbfgnmodfemaaGreatDoorSides
namespace Go.Proofs.YtnkbfgnmodfemaaGreatDoor
open Go.RowKit
open Go.Lib (hid)

theorem sidesL_mem : ∀ (m i : Nat) (xs : List Int), ∀ s ∈ sidesL m i xs, ∀ x ∈ s, x ∈ xs ∨ ((i : Int) ≤ x ∧ x < ((i + m : Nat) : Int)) := by
  intro m
  induction m with
  | zero => intro i xs s hs; cases hs
  | succ m ih =>
    intro i xs s hs x hx
    rw [sidesL_succ] at hs
    rcases List.mem_cons.1 hs with rfl | hs
    · rcases List.mem_append.1 hx with h | h
      · exact .inl h
      · simp at h; exact .inr (by omega)
    · rcases List.mem_append.1 hs with h | h
      · rcases ih (i + 1) _ s h x hx with h1 | h1
        · rcases List.mem_append.1 h1 with h2 | h2
          · exact .inl h2
          · simp at h2; exact .inr (by omega)
        · exact .inr (by omega)
      · rcases ih (i + 1) _ s h x hx with h1 | h1
        · exact .inl h1
        · exact .inr (by omega)
theorem sidesL_length : ∀ (m i : Nat) (xs : List Int), ∀ s ∈ sidesL m i xs, s.length ≤ xs.length + m := by
  intro m
  induction m with
  | zero => intro i xs s hs; cases hs
  | succ m ih =>
    intro i xs s hs
    rw [sidesL_succ] at hs
    rcases List.mem_cons.1 hs with rfl | hs
    · simp
    · rcases List.mem_append.1 hs with h | h
      · have := ih (i + 1) _ s h; simp at this; omega
      · have := ih (i + 1) _ s h; omega
theorem sides_in {n : Nat} {s : List Int} (h : s ∈ sidesL (n - 1) 1 []) (hn : 1 ≤ n) : (∀ x ∈ s, 0 ≤ x ∧ x < (n : Int)) ∧ s.length ≤ n := by
  refine ⟨fun x hx => ?_, ?_⟩
  · rcases sidesL_mem _ _ _ s h x hx with h1 | h1
    · cases h1
    · omega
  · have := sidesL_length _ _ _ s h; simp at this; omega

/-- an element of such a slice -/
theorem OMat.at {w : World} {lo : Nat} {ad : Option Addr} {n c : Nat} {Z : List (Value × List Int)} (h : OMat w lo (.slice ad n c) Z) {k : Nat} (hk : k < Z.length) :
    ∃ g, ∃ z : Value × List Int, ad = some ⟨g, 0, none⟩ ∧ w.cell? ⟨g, k, none⟩ = some z.1 ∧ z ∈ Z ∧ Z.drop k = z :: Z.drop (k + 1) ∧ Z.take (k + 1) = Z.take k ++ [z] := by
  obtain ⟨a', cap, hv, h1, h2, h3, h4, h5⟩ := own_form h
  simp only [Value.slice.injEq] at hv
  obtain ⟨rfl, _, _⟩ := hv
  obtain ⟨g, e2, _, _, hc, _⟩ := h5 k hk
  refine ⟨g, Z[k], e2, ?_, List.getElem_mem hk, List.drop_eq_getElem_cons hk, List.take_succ_eq_append_getElem hk⟩
  rw [hc]; simp [hk]
theorem OMat.mono {w : World} {lo lo' : Nat} {v : Value} {Z : List (Value × List Int)} (h : OMat w lo v Z) (hl : lo' ≤ lo) : OMat w lo' v Z := own_mono h hl

/-- the splits -/
def splitP (M : List (List Int)) (s : List Int) : Bool := decide (0 < lenF M s)
def splL (M : List (List Int)) : List (List Int) := (sidesL (M.length - 1) 1 []).filter (splitP M)
theorem filter_yes {p : List Int → Bool} {x : List Int} {L : List (List Int)} (h : p x = true) : (x :: L).filter p = x :: L.filter p := List.filter_cons_of_pos h
theorem filter_no {p : List Int → Bool} {x : List Int} {L : List (List Int)} (h : p x = false) : (x :: L).filter p = L.filter p := List.filter_cons_of_neg (by rw [h]; simp)

/-- one value appended to such a slice -/
theorem row_cell {w : World} (u : Value) : ∀ (a : Addr) (j : Nat) (z : Value × List Int) (x : List Int), some (⟨w.heap.size, 0, none⟩ : Addr) = some a → [(u, x)][j]? = some z → (w.alloc (.cells #[u] 27)).cell? (a.add j) = some z.1 := by
  rintro a j z x he hz
  cases he
  cases j with
  | zero => simp at hz; subst hz; rw [addr_add]; exact cell_new _ _ _
  | succ j => simp at hz

/-- the world, behind a round of a filter's loop -/
theorem filter_post {w1 wa w3 : World} {lo B : Nat} {v : Value} {Z : List (Value × List Int)} (hO : OMat wa lo v Z) (hg : wa.grownBy w3 v.ownBlock) (hb : Below B w1 wa) (hB : B ≤ lo) (hs : B ≤ wa.heap.size) : Below B w1 w3 := hb.grown hg hs (fun k hk => Nat.le_trans hB (hO.lt k hk).1)

set_option maxRecDepth 100000 in
set_option maxHeartbeats 2000000 in
theorem slOf_c (v : Value) (M : List (List Int)) (w : World) (hm : metB M = true) (h : RMat w v M) :
    Calls Tryz.prog 29 #[v] w (RetMat w (splL M)) := by
  have hp := metB_parts hm
  have hn2 := hp.1
  have hn7 := hp.2.1
  have HM := hid hm
  have HR := hid h
  obtain ⟨a, cap, rfl, q1, q2, hc⟩ := h
  clear hc hp
  unfold maxLen at q2
  go_enter Tryz.func29, Tryz.ntmps29
  go_wp2_with fail
  refine (slSides_c M.length hn7 (M.length + 1) 1 _ [] w (by omega) (by omega) (by simp) (ints_nil w 0 0).r).mono ?_
  rintro e w1 ⟨v1, rfl, hF1, hb1⟩
  obtain ⟨Y, hYM, hY, hYP, hYb⟩ := hF1.toZ
  obtain ⟨a1, c1, rfl⟩ := hY.form
  have HY := hid hY
  have HYP := hid hYP
  have HB1 := hid hb1
  have HYM := hid hYM
  have hYl : Y.length ≤ 128 := by
    have := congrArg List.length hYM
    rw [List.length_map] at this
    have := sidesL_small (show M.length - 1 ≤ 7 by omega) 1 []
    omega
  have HIN : Hid (∀ z ∈ Y, (∀ x ∈ z.2, 0 ≤ x ∧ x < (M.length : Int)) ∧ z.2.length ≤ M.length) := fun z hz => sides_in (by rw [← hYM]; exact List.mem_map_of_mem hz) (by omega)
  have H1 := hid (HR.out.keep hb1)
  have HSL : Hid (splL M = (Y.map Prod.snd).filter (splitP M)) := by show _ = _; rw [splL, hYM]
  clear hY hYP hb1 hYM hF1 hYb
  go_wp2
  go_loopg [3, 10] Y.length (fun gk o iv wr => ∃ k : Nat, ∃ Z : List (Value × List Int), k ≤ Y.length ∧ gk = Y.length - k ∧ iv = .int .i64 k ∧ OMat wr w1.heap.size o Z ∧ Z.Sublist (Y.take k) ∧ splL M = Z.map Prod.snd ++ ((Y.drop k).map Prod.snd).filter (splitP M) ∧ Below w1.heap.size w1 wr)
  case atStart => exact ⟨0, [], Nat.zero_le _, rfl, rfl, omat_nil _ _, List.nil_sublist _, HSL.out, Below.refl _ _⟩
  case round =>
    obtain ⟨k, Z, hk, rfl, rfl, hO, hZS, hr, hb⟩ := hrel
    obtain ⟨ao, co, rfl⟩ := hO.form
    have HO := hid hO
    have HZS := hid hZS
    have HRR := hid hr
    have HB := hid hb
    clear hO hZS hr hb
    have hZl : Z.length ≤ 128 := by have := HZS.out.length_le; rw [List.length_take] at this; omega
    by_cases hlt : k < Y.length
    · have hltz : (k : Int) < (Y.length : Int) := by omega
      obtain ⟨g, ⟨zv, zx⟩, rfl, hcell, hzY, hdrop, htake⟩ := (HY.out.keep HB.out).at hlt
      have HZY := hid hzY
      have hrow := (HYP.out.1 _ hzY).keep HB.out
      obtain ⟨az, cz, hzv⟩ := hrow.form
      simp only at hzv
      subst hzv
      have HTK := hid htake
      have HRZ := hid hrow.r
      have hM1 := H1.out.keep HB.out
      have HHR : Hid (splL M = Z.map Prod.snd ++ (zx :: (Y.drop (k + 1)).map Prod.snd).filter (splitP M)) := by show _ = _; rw [HRR.out, hdrop]; rfl
      clear hdrop htake hrow hzY
      go_wp2_with fail
      refine (slTwice_c _ _ M zx _ HM.out hM1 HRZ.out (HIN.out _ HZY.out).1 (by have := (HIN.out _ HZY.out).2; simp only at this; omega)).mono ?_
      rintro e w2 ⟨rfl, hb2⟩
      have HO2 := hid (HO.out.keep hb2)
      have HB2 := hid (HB.out.trans (hb2.mono HB.out.size))
      clear hb2 hcell hM1
      rcases Bool.eq_false_or_eq_true (splitP M zx) with t | t
      · have ht : 0 < lenF M zx := of_decide_eq_true t
        have HS := hid (filter_yes (L := (Y.drop (k + 1)).map Prod.snd) t)
        have hal := (Below.refl w2.heap.size w2).alloc (Nat.le_refl _) (.cells #[.slice az zx.length cz] 27)
        have hO3 := HO2.out.keep hal
        have HB3 := hid (HB2.out.trans (hal.mono HB2.out.size))
        clear hal t
        go_wp2_with (at_builtin; refine wpList_append_vals rfl _ _ rfl _ _ _ [(.slice az zx.length cz, zx)] _ _ rfl rfl hO3 (by simp) (fun a j z he hz => row_cell _ a j z zx he hz) (by simp [Value.oneCell']) (by simp; omega) (by have := HB3.out.size; omega) ?_; intro v4 w4 hO4 hg4 hat4)
        have hb4 := filter_post hO3 hg4 HB3.out (Nat.le_refl _) HB3.out.size
        go_roundg (Y.length - (k + 1))
        case rel => exact ⟨k + 1, _, by omega, rfl, by go_num, hO4, by rw [HTK.out]; exact HZS.out.append (List.Sublist.refl _), by rw [HHR.out, HS.out, List.map_append, List.append_assoc]; rfl, hb4⟩
        case measure => omega
      · have ht : ¬ 0 < lenF M zx := of_decide_eq_false t
        have HS := hid (filter_no (L := (Y.drop (k + 1)).map Prod.snd) t)
        clear t
        go_wp2
        go_roundg (Y.length - (k + 1))
        case rel => exact ⟨k + 1, Z, by omega, rfl, by go_num, HO2.out, by rw [HTK.out]; exact HZS.out.trans (List.sublist_append_left _ _), by rw [HHR.out, HS.out], HB2.out⟩
        case measure => omega
    · have HS : Hid (splL M = Z.map Prod.snd) := by show _ = _; rw [HRR.out, List.drop_eq_nil_of_le (show Y.length ≤ k by omega)]; simp
      go_wp2
      go_ret
      refine ⟨_, rfl, ?_, HB1.out.trans (HB.out.mono HB1.out.size)⟩
      rw [HS.out]
      exact (HO.out.mono HB1.out.size).f (fun g hg => (HO.out.lt g hg).2) (((HYP.out.sub (HZS.out.trans (List.take_sublist _ _))).keep HB.out).mono (Nat.le_refl _) HB.out.size)

end Go.Proofs.YtnkbfgnmodfemaaGreatDoor
