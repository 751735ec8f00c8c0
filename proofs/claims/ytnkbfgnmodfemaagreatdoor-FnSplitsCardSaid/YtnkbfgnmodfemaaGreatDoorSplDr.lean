/- Drawn tree metrics (printed by wip/splitdraw3.py). -/
import Derived.Test.YtnkbfgnmodfemaaGreatDoorSplDw
import Derived.Test.YtnkbfgnmodfemaaGreatDoorFm
namespace Go.Proofs.YtnkbfgnmodfemaaGreatDoor
open Go.RowKit
open Go.Lib (hid)

theorem mos_met {n : Int} {L : List (List Int)} {t : List Int} {M : List (List Int)} (h : mosB n L t = (M, true)) : metB M = true := by
  unfold mosB at h
  split at h
  · cases hm : mosAll (mosF L t) n.toNat n.toNat 0 [] with
    | none => rw [hm, fin_none] at h; cases h
    | some R =>
      rw [hm] at h
      rcases Bool.eq_false_or_eq_true (metB R) with t1 | t1
      · rw [fin_yes R t1] at h; cases h; exact t1
      · rw [fin_no R t1] at h; cases h
  · cases h
def RetTM (b k lo : Nat) (w : World) (e : Ending) (w' : World) : Prop := ∃ (v : Value) (M : List (List Int)), e = .returned v ∧ 2 ≤ M.length ∧ M.length ≤ 7 ∧ FMat w' lo w'.heap.size v M ∧ Cur w' b k ∧ Dr b lo w w'
def RetMM (w : World) (e : Ending) (w' : World) : Prop := ∃ (v u : Value) (A B : List (List Int)), e = .returned (.tuple #[v, u]) ∧ RMat w' v A ∧ RMat w' u B ∧ Below w.heap.size w w'
theorem three_rows (w : World) (lo : Nat) (hlo : lo ≤ w.heap.size) (a b c d e f g h i : Int) :
    FMat ((((w.alloc (.cells #[.int .i64 a, .int .i64 b, .int .i64 c] 3)).alloc (.cells #[.int .i64 d, .int .i64 e, .int .i64 f] 3)).alloc (.cells #[.int .i64 g, .int .i64 h, .int .i64 i] 3)).alloc (.cells #[.slice (some ⟨w.heap.size, 0, none⟩) 3 3, .slice (some ⟨w.heap.size + 1, 0, none⟩) 3 3, .slice (some ⟨w.heap.size + 1 + 1, 0, none⟩) 3 3] 27)) lo (w.heap.size + 4) (.slice (some ⟨w.heap.size + 1 + 1 + 1, 0, none⟩) 3 3) [[a, b, c], [d, e, f], [g, h, i]] ∧
      Below w.heap.size w ((((w.alloc (.cells #[.int .i64 a, .int .i64 b, .int .i64 c] 3)).alloc (.cells #[.int .i64 d, .int .i64 e, .int .i64 f] 3)).alloc (.cells #[.int .i64 g, .int .i64 h, .int .i64 i] 3)).alloc (.cells #[.slice (some ⟨w.heap.size, 0, none⟩) 3 3, .slice (some ⟨w.heap.size + 1, 0, none⟩) 3 3, .slice (some ⟨w.heap.size + 1 + 1, 0, none⟩) 3 3] 27)) := by
  have lit : ∀ (u : World) (x y z : Int), FInts (u.alloc (.cells #[.int .i64 x, .int .i64 y, .int .i64 z] 3)) u.heap.size (u.heap.size + 1) (.slice (some ⟨u.heap.size, 0, none⟩) 3 3) [x, y, z] := fun u x y z => by
    have := ints_lit u u.heap.size (Nat.le_refl _) [x, y, z] (by simp)
    simpa using this
  obtain ⟨w1, h1⟩ : ∃ w1, w1 = w.alloc (.cells #[.int .i64 a, .int .i64 b, .int .i64 c] 3) := ⟨_, rfl⟩
  obtain ⟨w2, h2⟩ : ∃ w2, w2 = w1.alloc (.cells #[.int .i64 d, .int .i64 e, .int .i64 f] 3) := ⟨_, rfl⟩
  obtain ⟨w3, h3⟩ : ∃ w3, w3 = w2.alloc (.cells #[.int .i64 g, .int .i64 h, .int .i64 i] 3) := ⟨_, rfl⟩
  have s1 : w1.heap.size = w.heap.size + 1 := by rw [h1]; simp
  have s2 : w2.heap.size = w.heap.size + 1 + 1 := by rw [h2]; simp [s1]
  have s3 : w3.heap.size = w.heap.size + 1 + 1 + 1 := by rw [h3]; simp [s2]
  have b1 : Below w.heap.size w w1 := by rw [h1]; exact (Below.refl _ _).alloc (Nat.le_refl _) _
  have b2 : Below w1.heap.size w1 w2 := by rw [h2]; exact (Below.refl _ _).alloc (Nat.le_refl _) _
  have b3 : Below w2.heap.size w2 w3 := by rw [h3]; exact (Below.refl _ _).alloc (Nat.le_refl _) _
  have f1 := lit w a b c
  have f2 := lit w1 d e f
  have f3 := lit w2 g h i
  rw [← h1] at f1 ⊢
  rw [← h2] at f2 ⊢
  rw [← h3] at f3 ⊢
  rw [s1] at f2
  rw [s2] at f3
  obtain ⟨r1, hr1⟩ : ∃ r1 : Value, r1 = .slice (some ⟨w.heap.size, 0, none⟩) 3 3 := ⟨_, rfl⟩
  obtain ⟨r2, hr2⟩ : ∃ r2 : Value, r2 = .slice (some ⟨w.heap.size + 1, 0, none⟩) 3 3 := ⟨_, rfl⟩
  obtain ⟨r3, hr3⟩ : ∃ r3 : Value, r3 = .slice (some ⟨w.heap.size + 1 + 1, 0, none⟩) 3 3 := ⟨_, rfl⟩
  rw [← hr1] at f1 ⊢
  rw [← hr2] at f2 ⊢
  rw [← hr3] at f3 ⊢
  have ho := World.ownsRow_lit (base := lo) (e := 27) (size := 1) w3 #[r1, r2, r3] 3 (by omega) (by unfold maxLen; omega) (by simp)
  have b4 : Below w3.heap.size w3 (w3.alloc (.cells #[r1, r2, r3] 27)) := (Below.refl _ _).alloc (Nat.le_refl _) _
  rw [s3] at ho
  refine ⟨?_, b1.trans ((b2.trans ((b3.trans (b4.mono (by omega))).mono (by omega))).mono (by omega))⟩
  have k1 := (((f1.keep b2).keep b3).keep b4).mono (lo' := lo) (hi' := w.heap.size + 1) hlo (Nat.le_refl _)
  have k2 := ((f2.keep b3).keep b4).mono (lo' := w.heap.size + 1) (hi' := w.heap.size + 2) (Nat.le_refl _) (Nat.le_refl _)
  have k3 := (f3.keep b4).mono (lo' := w.heap.size + 2) (hi' := w.heap.size + 4) (Nat.le_refl _) (by omega)
  have one : ∀ {W : World} {l h : Nat} {v : Value} {xs : List Int}, FInts W l h v xs → PoolZ W l h [(v, xs)] := fun hh => ⟨fun z hz => by rw [List.mem_singleton] at hz; subst hz; exact hh, List.pairwise_singleton _ _⟩
  have hp := ((one k1).append (one k2) (by omega) (by omega)).append (one k3) (by omega) (by omega)
  have hO : OMat (w3.alloc (.cells #[r1, r2, r3] 27)) lo (.slice (some ⟨w.heap.size + 1 + 1 + 1, 0, none⟩) 3 3) ([(r1, [a, b, c])] ++ [(r2, [d, e, f])] ++ [(r3, [g, h, i])]) := by simpa [OMat] using ho
  exact hO.f (fun g' hg => by simp [Value.ownBlock] at hg; omega) hp

set_option maxRecDepth 100000 in
set_option maxHeartbeats 4000000 in
theorem treeMetric_c (b k : Nat) (w : World) (h : Cur w b k) (hk : k ≤ 500000000000) :
    Calls Tryz.prog 25 #[.pointer (some ⟨b, 0, none⟩)] w (RetTM b (k + 2000) w.heap.size w) := by
  have HC0 := hid h
  have hlt0 := h.lt
  obtain ⟨lo, hlo⟩ : ∃ lo, w.heap.size = lo := ⟨_, rfl⟩
  rw [hlo] at hlt0
  have HS0 : Hid (lo ≤ w.heap.size) := Nat.le_of_eq hlo.symm
  have HD0 : Hid (Dr b lo w w) := Dr.refl _ _ _
  have HLO := hid hlo
  clear h hlo
  rw [HLO.out]
  go_enter Tryz.func25, Tryz.ntmps25
  have HLT := hid (ints_lit w w.heap.size (Nat.le_refl _) [3, 4, 4, 5, 5, 2, 7] (by simp)).r
  have HAL : Hid (Below w.heap.size w _) := (Below.refl w.heap.size w).alloc (Nat.le_refl _) (.cells ([3, 4, 4, 5, 5, 2, 7].map (.int .i64 ·)).toArray 3)
  go_wp2_with fail
  refine (among_c b k _ [3, 4, 4, 5, 5, 2, 7] _ (HC0.out.keep HAL.out) (by omega) HLT.out (by simp) (by simp) (fun p hp => by simp [Value.ownBlock] at hp; have := HS0.out; omega)).mono ?_
  rintro e w1 ⟨x0, rfl, hx0, hc1, ht1⟩
  have HC1 := hid (hc1.more (show _ ≤ (k + 2) by omega))
  have HD1 := hid ((HD0.out.below (HAL.out.mono HS0.out)).touch HS0.out ht1)
  have HS1 : Hid (lo ≤ w1.heap.size) := Nat.le_trans (Nat.le_trans HS0.out HAL.out.size) ht1.size
  clear hc1 ht1 HLT HAL
  obtain ⟨n, rfl, hn2, hn7⟩ : ∃ n : Nat, x0 = n ∧ 2 ≤ n ∧ n ≤ 7 := ⟨x0.toNat, by simp at hx0; omega, by simp at hx0; omega, by simp at hx0; omega⟩
  clear hx0
  go_wp2_with fail
  refine (nested_c b (k + 2) n hn7 _ HC1.out (by omega)).mono ?_
  rintro e w2 ⟨v1, v2, L, ts, rfl, hL2, hT2, hc2, hd2⟩
  have HC2 := hid (hc2.more (show _ ≤ (k + 1002) by omega))
  have HD2 := hid (HD1.out.trans (hd2.low HS1.out))
  have HS2 : Hid (lo ≤ w2.heap.size) := Nat.le_trans HS1.out hd2.size
  obtain ⟨a1, n1, c1, rfl⟩ : ∃ a n c, v1 = .slice a n c := by obtain ⟨a, c, rfl, _⟩ := hL2; exact ⟨a, _, c, rfl⟩
  obtain ⟨a2, n2, c2, rfl⟩ := hT2.form3
  have HL := hid hL2
  have HT := hid hT2
  clear hL2 hT2
  clear hc2 hd2
  go_wp2_with fail
  refine (sMetricOfSplits_u n _ L _ ts _ HL.out HT.out).mono ?_
  rintro e w3 ⟨vm, rfl, hF3, hb3⟩
  have HC3 := hid (HC2.out.keep hb3)
  have HD3 := hid (HD2.out.below (hb3.mono HS2.out))
  have HS3 : Hid (lo ≤ w3.heap.size) := Nat.le_trans HS2.out hb3.size
  have F_3 := hid (hF3.mono HS2.out (Nat.le_refl _))
  clear hF3 HL HT
  clear hb3
  obtain ⟨M, bm, hmos⟩ : ∃ M bm, mosB n L ts = (M, bm) := ⟨_, _, rfl⟩
  rw [hmos] at F_3 ⊢
  have FF : Hid (FMat w3 lo w3.heap.size vm M) := F_3
  clear F_3
  obtain ⟨am, nm, cm, rfl⟩ := FF.out.form3
  cases bm
  · obtain ⟨h1, h2⟩ := three_rows w3 lo HS3.out 0 3 4 3 0 4 4 4 0
    have HX := hid (And.intro h1 h2)
    clear h1 h2
    go_wp2
    go_ret
    exact ⟨_, _, rfl, by simp, by simp, HX.out.1.mono (Nat.le_refl _) (by simp), (HC3.out.keep HX.out.2).more (by omega), HD3.out.below (HX.out.2.mono HS3.out)⟩
  · have hmt := mos_met hmos
    have hmp := metB_parts hmt
    obtain ⟨g, cap, he, _, _⟩ := FF.out.form_some (by have := hmp.1; omega)
    simp only [Value.slice.injEq] at he
    obtain ⟨rfl, hnm, rfl⟩ := he
    have hsq := hmp.2.2.1
    have hM2 := hmp.1
    have hM7 := hmp.2.1
    obtain ⟨N, hN⟩ : ∃ N, M.length = N := ⟨_, rfl⟩
    rw [hN] at hnm hsq hM2 hM7
    obtain rfl : nm = N := hnm
    have q0 : (0 : Int) < (nm : Int) := by omega
    have q1 : (1 : Int) < (nm : Int) := by omega
    clear hmt hmp hmos
    go_wp2_with fail
    refine (pick_c b (k + 1002) 16 _ HC3.out (by omega) (by omega)).mono ?_
    rintro e w4 ⟨y, rfl, ⟨hy1, hy2⟩, hc4, ht4⟩
    have HC4 := hid (hc4.more (show _ ≤ (k + 1004) by omega))
    have HD4 := hid (HD3.out.touch HS0.out ht4)
    have F_4 := hid (FF.out.tch ht4 hlt0)
    have HS4 : Hid (lo ≤ w4.heap.size) := Nat.le_trans HS3.out ht4.size
    clear hc4 ht4
    rcases Bool.eq_false_or_eq_true (y == 0) with t0 | t0
    · obtain ⟨G8, C8, hcl8, hcs8, hset8⟩ := fm_open F_4.out hN hsq (by omega)
      have ea8 := hcl8 0 (by omega)
      obtain ⟨eb8, ef8⟩ := hcs8 0 1 (by omega) (by omega)
      obtain ⟨x8, hx8⟩ : ∃ x, ent M 0 1 = x := ⟨_, rfl⟩
      rw [hx8] at eb8
      clear hx8
      obtain ⟨z8, hz8⟩ : ∃ z, IntKind.i64.wrap (x8 + 1) = z := ⟨_, rfl⟩
      have hst8 := hset8 0 1 (z8) (by omega) (by omega)
      obtain ⟨gr8, hgr8⟩ : ∃ gr, G8 0 = gr := ⟨_, rfl⟩
      obtain ⟨cr8, hcr8⟩ : ∃ cr, C8 0 = cr := ⟨_, rfl⟩
      rw [hgr8] at ea8 eb8 ef8 hst8
      rw [hcr8] at ea8
      have hbl8 := hst8.2.below (Nat.le_refl lo) HS4.out
      have F_8 := hid (hst8.1.mono (Nat.le_refl _) hst8.2.size)
      have HD8 := hid (HD4.out.below hbl8)
      have HC8 := hid (HC4.out.low (hbl8.mono hlt0))
      have HS8 : Hid (lo ≤ (w4.setCell ⟨gr8, 1, none⟩ (.int .i64 (z8))).heap.size) := Nat.le_trans HS4.out hbl8.size
      clear hcl8 hcs8 hset8 hst8 hgr8 hcr8 hbl8
      have hml2 : (setEnt M 0 1 z8).length = nm := by rw [setEnt_len]; exact hN
      have hsq2 := setEnt_sq hsq hN (show 0 < nm by omega) 1 z8
      obtain ⟨M2, hM2e⟩ : ∃ M2, setEnt M 0 1 z8 = M2 := ⟨_, rfl⟩
      rw [hM2e] at hml2 hsq2 F_8
      clear hM2e
      obtain ⟨G9, C9, hcl9, hcs9, hset9⟩ := fm_open F_8.out hml2 hsq2 (by omega)
      have ea9 := hcl9 1 (by omega)
      obtain ⟨eb9, ef9⟩ := hcs9 1 0 (by omega) (by omega)
      obtain ⟨x9, hx9⟩ : ∃ x, ent M2 1 0 = x := ⟨_, rfl⟩
      rw [hx9] at eb9
      clear hx9
      obtain ⟨z9, hz9⟩ : ∃ z, IntKind.i64.wrap (x9 + 1) = z := ⟨_, rfl⟩
      have hst9 := hset9 1 0 (z9) (by omega) (by omega)
      obtain ⟨gr9, hgr9⟩ : ∃ gr, G9 1 = gr := ⟨_, rfl⟩
      obtain ⟨cr9, hcr9⟩ : ∃ cr, C9 1 = cr := ⟨_, rfl⟩
      rw [hgr9] at ea9 eb9 ef9 hst9
      rw [hcr9] at ea9
      have hbl9 := hst9.2.below (Nat.le_refl lo) HS8.out
      have F_9 := hid (hst9.1.mono (Nat.le_refl _) hst9.2.size)
      have HD9 := hid (HD8.out.below hbl9)
      have HC9 := hid (HC8.out.low (hbl9.mono hlt0))
      have HS9 : Hid (lo ≤ ((w4.setCell ⟨gr8, 1, none⟩ (.int .i64 (z8))).setCell ⟨gr9, 0, none⟩ (.int .i64 (z9))).heap.size) := Nat.le_trans HS8.out hbl9.size
      clear hcl9 hcs9 hset9 hst9 hgr9 hcr9 hbl9
      have hml3 : (setEnt M2 1 0 z9).length = nm := by rw [setEnt_len]; exact hml2
      go_wp2
      go_ret
      exact ⟨_, _, rfl, by rw [hml3]; omega, by rw [hml3]; omega, F_9.out, HC9.out.more (by omega), HD9.out⟩
    · rcases Bool.eq_false_or_eq_true (y == 1) with t1 | t1
      · obtain ⟨G8, C8, hcl8, hcs8, hset8⟩ := fm_open F_4.out hN hsq (by omega)
        have ea8 := hcl8 0 (by omega)
        obtain ⟨eb8, ef8⟩ := hcs8 0 0 (by omega) (by omega)
        obtain ⟨x8, hx8⟩ : ∃ x, ent M 0 0 = x := ⟨_, rfl⟩
        rw [hx8] at eb8
        clear hx8
        obtain ⟨z8, hz8⟩ : ∃ z, IntKind.i64.wrap (x8 + 1) = z := ⟨_, rfl⟩
        have hst8 := hset8 0 0 (1) (by omega) (by omega)
        obtain ⟨gr8, hgr8⟩ : ∃ gr, G8 0 = gr := ⟨_, rfl⟩
        obtain ⟨cr8, hcr8⟩ : ∃ cr, C8 0 = cr := ⟨_, rfl⟩
        rw [hgr8] at ea8 eb8 ef8 hst8
        rw [hcr8] at ea8
        have hbl8 := hst8.2.below (Nat.le_refl lo) HS4.out
        have F_8 := hid (hst8.1.mono (Nat.le_refl _) hst8.2.size)
        have HD8 := hid (HD4.out.below hbl8)
        have HC8 := hid (HC4.out.low (hbl8.mono hlt0))
        have HS8 : Hid (lo ≤ (w4.setCell ⟨gr8, 0, none⟩ (.int .i64 (1))).heap.size) := Nat.le_trans HS4.out hbl8.size
        clear hcl8 hcs8 hset8 hst8 hgr8 hcr8 hbl8
        have hml3 : (setEnt M 0 0 1).length = nm := by rw [setEnt_len]; exact hN
        go_wp2
        go_ret
        exact ⟨_, _, rfl, by rw [hml3]; omega, by rw [hml3]; omega, F_8.out, HC8.out.more (by omega), HD8.out⟩
      · go_wp2
        go_ret
        exact ⟨_, M, rfl, by rw [hN]; omega, by rw [hN]; omega, F_4.out, HC4.out.more (by omega), HD4.out⟩

end Go.Proofs.YtnkbfgnmodfemaaGreatDoor
