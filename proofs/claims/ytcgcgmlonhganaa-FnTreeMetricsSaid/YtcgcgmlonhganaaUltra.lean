/- The greatest ultrametric below a metric: both programs' functions. -/
import Derived.Test.YtcgcgmlonhganaaOwn
import Derived.Test.YtcgcgmlonhganaaFm
import Derived.Test.YtcgcgmlonhganaaIsMetric
import Derived.Test.YtcgcgmlonhganaaWithout2
import Derived.StillTailTactics
namespace Go.Proofs.Ytcgcgmlonhganaa
open Go.RowKit
open Go.Lib (hid)

/-! ### Ultrametrics -/
def ultJ (k i j : Nat) (s : List (List Int)) : List (List Int) := setEnt s i j (min (ent s i j) (max (ent s i k) (ent s k j)))
def ultI (n k i : Nat) (s : List (List Int)) : List (List Int) := iterFrom n 0 (ultJ k i) s
def ultK (n k : Nat) (s : List (List Int)) : List (List Int) := iterFrom n 0 (ultI n k) s
def ultB (M : List (List Int)) : List (List Int) × Bool := if metB M then (iterFrom M.length 0 (ultK M.length) M, true) else ([], false)
theorem ultB_no (M : List (List Int)) (h : metB M = false) : ultB M = ([], false) := by rw [ultB, h]; rfl
theorem ultB_yes (M : List (List Int)) (h : metB M = true) : ultB M = (iterFrom M.length 0 (ultK M.length) M, true) := by rw [ultB, h]; rfl
theorem ult_sq {M : List (List Int)} {n : Nat} (hl : M.length = n) (hsq : sqB M n = true) : (iterFrom n 0 (ultK n) M).length = n ∧ sqB (iterFrom n 0 (ultK n) M) n = true := by
  refine iterFrom_inv (n := n) (fun s => s.length = n ∧ sqB s n = true) (fun k s hk hs => ?_) n 0 M (by omega) ⟨hl, hsq⟩
  refine iterFrom_inv (n := n) (fun s => s.length = n ∧ sqB s n = true) (fun i s hi hs => ?_) n 0 s (by omega) hs
  refine iterFrom_inv (n := n) (fun s => s.length = n ∧ sqB s n = true) (fun j s hj hs => ?_) n 0 s (by omega) hs
  exact ⟨by unfold ultJ; rw [setEnt_len]; exact hs.1, setEnt_sq hs.2 hs.1 hi _ _⟩
theorem ult_tot (M : List (List Int)) : tot (ultB M).1 ≤ 1099511627776 := by
  rcases Bool.eq_false_or_eq_true (metB M) with h | h
  · obtain ⟨_, hn7, hsq, _⟩ := metB_parts h
    rw [ultB_yes M h]
    obtain ⟨h1, h2⟩ := ult_sq rfl hsq
    have := tot_le (M := iterFrom M.length 0 (ultK M.length) M) (a := 7) (by omega) (fun r hr => by have := sqB_iff.1 h2 r hr; omega)
    show tot (iterFrom M.length 0 (ultK M.length) M) ≤ _
    omega
  · rw [ultB_no M h]; simp [tot]

theorem l1Most_s (a b : Int) (w : World) : Calls Try.prog 65 #[.int .i64 a, .int .i64 b] w fun e w' => e = .returned (.int .i64 (max a b)) ∧ w' = w := (l1Most_c a b w).mono fun _ _ h => ⟨h.1, h.2.symm⟩
theorem l1Least_s (a b : Int) (w : World) : Calls Try.prog 64 #[.int .i64 a, .int .i64 b] w fun e w' => e = .returned (.int .i64 (min a b)) ∧ w' = w := (l1Least_c a b w).mono fun _ _ h => ⟨h.1, h.2.symm⟩
theorem isMetric_lift (v : Value) (M : List (List Int)) (w : World) (h : RMat w v M) :
    Calls Try.prog 51 #[v] w fun e w' => e = .returned (.bool (metB M)) ∧ Below w.heap.size w w' := isMetric_c v M w h
theorem small_of_metB {M : List (List Int)} (h : metB M = true) : (M.length : Int) ≤ 1048576 ∧ ∀ r ∈ M, (r.length : Int) ≤ 1048576 := by
  obtain ⟨_, h7, hsq, _⟩ := metB_parts h
  exact ⟨by omega, fun r hr => by have := sqB_iff.1 hsq r hr; omega⟩

set_option maxRecDepth 100000 in
set_option maxHeartbeats 4000000 in
theorem sUltraBelow_u (v : Value) (M : List (List Int)) (w : World) (h : RMat w v M) :
    Calls Try.prog 22 #[v] w (RetMatB w (ultB M)) := by
  have hR := h
  obtain ⟨a, cap, rfl, h1, h2, hc⟩ := h
  clear hc
  unfold maxLen at h2
  rcases Bool.eq_false_or_eq_true (metB M) with hm | hm
  · obtain ⟨hn2, hn7, hsq, hsym, _⟩ := metB_parts hm
    have HB := hid (ultB_yes M hm)
    have hsm := small_of_metB hm
    have HSQ := hid hsq; clear hsq hsym
    have HSM := hid hsm; clear hsm
    go_enter Try.func22, Try.ntmps22
    go_wp2_with fail
    refine (meGood_b _ M _ hR).mono ?_
    rintro e w1 ⟨rfl, hb1⟩
    rw [hm]
    have hR1 := hR.keep hb1
    go_wp2_with fail
    refine (mxOwn_c _ M _ hR1 HSM.out).mono ?_
    rintro e w2 ⟨u, rfl, hu, hb2⟩
    obtain ⟨g, cu, rfl, hg1, hg2⟩ := hu.form_some (by omega)
    have HU := hid hu
    have HB2 := hid (And.intro hb1 hb2)
    have hs1 := hb1.size
    have hs2 := hb2.size
    clear hR hR1 hu hb1 hb2
    go_wp2
    go_loopg [15] M.length (fun gk kk wr => ∃ k : Nat, ∃ s : List (List Int), k ≤ M.length ∧ gk = M.length - k ∧ kk = .int .i64 k ∧ iterFrom M.length 0 (ultK M.length) M = iterFrom M.length k (ultK M.length) s ∧ s.length = M.length ∧ sqB s M.length = true ∧
      FMat wr w1.heap.size w2.heap.size (.slice (some ⟨g, 0, none⟩) M.length cu) s ∧ Touch w1.heap.size w2.heap.size w2 wr)
    case atStart => exact ⟨0, M, Nat.zero_le _, rfl, rfl, rfl, rfl, HSQ.out, HU.out, Touch.refl _ _ _⟩
    case round =>
      obtain ⟨k, s, hk, rfl, rfl, hit, hsl, hss, hF, hT⟩ := hrel
      obtain ⟨wo, rfl⟩ : ∃ wo : World, wo = wr := ⟨_, rfl⟩
      have HIT := hid hit; clear hit
      have HS := hid (And.intro hsl hss); clear hsl hss
      have HF := hid hF
      have HT := hid hT
      clear hF hT
      by_cases hlt : k < M.length
      · go_wp2
        go_loopg [20] M.length (fun gk ii wr => ∃ i : Nat, ∃ s' : List (List Int), i ≤ M.length ∧ gk = M.length - i ∧ ii = .int .i64 i ∧ iterFrom M.length 0 (ultK M.length) M = iterFrom M.length (k + 1) (ultK M.length) (iterFrom M.length i (ultI M.length k) s') ∧ s'.length = M.length ∧ sqB s' M.length = true ∧
          FMat wr w1.heap.size w2.heap.size (.slice (some ⟨g, 0, none⟩) M.length cu) s' ∧ Touch w1.heap.size w2.heap.size w2 wr)
        case atStart => exact ⟨0, s, Nat.zero_le _, rfl, rfl, by rw [HIT.out, iterFrom_lt _ _ hlt]; rfl, HS.out.1, HS.out.2, HF.out, HT.out⟩
        case round =>
          obtain ⟨i, s1, hi, rfl, rfl, hit, hsl, hss, hF, hT⟩ := hrel
          obtain ⟨wi, rfl⟩ : ∃ wi : World, wi = wr := ⟨_, rfl⟩
          have HIT1 := hid hit; clear hit
          have HS1 := hid (And.intro hsl hss); clear hsl hss
          have HF1 := hid hF
          have HT1 := hid hT
          clear hF hT HIT HS HF HT
          by_cases hlti : i < M.length
          · go_wp2
            go_loopg [25] M.length (fun gk jj wr => ∃ j : Nat, ∃ s' : List (List Int), j ≤ M.length ∧ gk = M.length - j ∧ jj = .int .i64 j ∧ iterFrom M.length 0 (ultK M.length) M = iterFrom M.length (k + 1) (ultK M.length) (iterFrom M.length (i + 1) (ultI M.length k) (iterFrom M.length j (ultJ k i) s')) ∧ s'.length = M.length ∧ sqB s' M.length = true ∧
              FMat wr w1.heap.size w2.heap.size (.slice (some ⟨g, 0, none⟩) M.length cu) s' ∧ Touch w1.heap.size w2.heap.size w2 wr)
            case atStart => exact ⟨0, s1, Nat.zero_le _, rfl, rfl, by rw [HIT1.out, iterFrom_lt _ _ hlti]; rfl, HS1.out.1, HS1.out.2, HF1.out, HT1.out⟩
            case round =>
              obtain ⟨j, s2, hj, rfl, rfl, hit, hsl, hss, hF, hT⟩ := hrel
              have HIT2 := hid hit; clear hit
              clear HIT1 HS1 HF1 HT1
              by_cases hltj : j < M.length
              · obtain ⟨G, C, hrow, hent, hset⟩ := fm_open hF hsl hss (by omega)
                obtain ⟨wq, hwq⟩ : ∃ wq : World, wq = wr.drew := ⟨_, rfl⟩
                have e1 : wq.cell? ⟨g, i, none⟩ = some (.slice (some ⟨G i, 0, none⟩) M.length (C i)) := by rw [hwq]; exact hrow i hlti
                have e2 : wq.cell? ⟨g, k, none⟩ = some (.slice (some ⟨G k, 0, none⟩) M.length (C k)) := by rw [hwq]; exact hrow k hlt
                have e3 : wq.cell? ⟨G i, j, none⟩ = some (.int .i64 (ent s2 i j)) := by rw [hwq]; exact (hent i j hlti hltj).1
                have e4 : wq.cell? ⟨G i, k, none⟩ = some (.int .i64 (ent s2 i k)) := by rw [hwq]; exact (hent i k hlti hlt).1
                have e5 : wq.cell? ⟨G k, j, none⟩ = some (.int .i64 (ent s2 k j)) := by rw [hwq]; exact (hent k j hlt hltj).1
                have e6 : wq.frozen? ⟨G i, j, none⟩ = false := by rw [hwq]; exact (hent i j hlti hltj).2
                obtain ⟨x, hx⟩ : ∃ x, ent s2 i j = x := ⟨_, rfl⟩
                obtain ⟨y, hy⟩ : ∃ y, ent s2 i k = y := ⟨_, rfl⟩
                obtain ⟨z, hz⟩ : ∃ z, ent s2 k j = z := ⟨_, rfl⟩
                rw [hx] at e3
                rw [hy] at e4
                rw [hz] at e5
                have HO : Aside (∀ m, m = min x (max y z) → FMat (wq.setCell ⟨G i, j, none⟩ (.int .i64 m)) w1.heap.size w2.heap.size (.slice (some ⟨g, 0, none⟩) M.length cu) (ultJ k i j s2) ∧ Touch w1.heap.size w2.heap.size w2 (wq.setCell ⟨G i, j, none⟩ (.int .i64 m))) := by
                  intro m hmm
                  have hst := hset i j m hlti hltj
                  rw [hwq]
                  refine ⟨?_, hT.trans ⟨hst.2.os, hst.2.tape, hst.2.output, hst.2.size, hst.2.block⟩⟩
                  unfold ultJ; rw [hx, hy, hz, ← hmm]; exact hst.1
                have HSS := hid (And.intro hsl hss)
                have HWQ := hid hwq
                clear hrow hent hset hF hT hsl hss hwq hx hy hz
                have hjz : (j : Int) < (M.length : Int) := by omega
                have hiz : (i : Int) < (M.length : Int) := by omega
                have hkz : (k : Int) < (M.length : Int) := by omega
                go_wp2
                refine wp_region_still_tail 29 (by kernel_rfl) (by kernel_rfl) ?_
                change wpStill _ _ wr.drew _ _ _
                rw [← HWQ.out]
                simp only [List.take_succ_cons, List.take_zero, List.drop_succ_cons, List.drop_zero]
                repeat still_step
                still_call (l1Most_s _ _ _)
                still_call (l1Least_s _ _ _)
                repeat still_step
                all_goals
                  refine wpStill_nil ?_
                  change wpList _ _ _ _ _ wr.drew
                  rw [← HWQ.out]
                  go_wp2
                  all_goals
                    go_roundg (M.length - (j + 1))
                    case rel => exact ⟨j + 1, ultJ k i j s2, by omega, rfl, by go_num, by rw [HIT2.out, iterFrom_lt _ _ hltj], by unfold ultJ; rw [setEnt_len]; exact HSS.out.1, setEnt_sq HSS.out.2 HSS.out.1 hlti _ _, HO.out _ (by omega)⟩
                    case measure => omega
              · have HO : Aside (s2.length = M.length ∧ sqB s2 M.length = true ∧ FMat wr w1.heap.size w2.heap.size (.slice (some ⟨g, 0, none⟩) M.length cu) s2 ∧ Touch w1.heap.size w2.heap.size w2 wr) := ⟨hsl, hss, hF, hT⟩
                clear hsl hss hF hT
                go_wp2
                go_roundg (M.length - (i + 1))
                case rel => exact ⟨i + 1, s2, by omega, rfl, by go_num, by rw [HIT2.out, iterFrom_ge (ultJ k i) _ (by omega)], HO.out⟩
                case measure => omega
          · go_wp2
            go_roundg (M.length - (k + 1))
            case rel => exact ⟨k + 1, s1, by omega, rfl, by go_num, by rw [HIT1.out, iterFrom_ge (ultI M.length k) _ (by omega)], HS1.out.1, HS1.out.2, HF1.out, HT1.out⟩
            case measure => omega
      · have hfin : iterFrom M.length 0 (ultK M.length) M = s := by rw [HIT.out, iterFrom_ge _ _ (by omega)]
        have hF := HF.out
        rw [← hfin] at hF
        have HFF := hid hF
        clear hfin hF
        go_wp2
        go_ret2
        have ht := HT.out
        have hsz := ht.size
        exact ⟨_, by rw [HB.out]; rfl, by rw [HB.out]; exact HFF.out.mono (by omega) (by omega), (HB2.out.1.trans (HB2.out.2.mono hs1)).trans (ht.below hs1 (by omega))⟩
  · have HB := hid (ultB_no M hm)
    go_enter Try.func22, Try.ntmps22
    go_wp2_with fail
    refine (meGood_b _ M _ hR).mono ?_
    rintro e w1 ⟨rfl, hb1⟩
    rw [hm]
    go_wp2
    go_ret2
    exact retMatB_no hb1 HB.out _ rfl

set_option maxRecDepth 100000 in
set_option maxHeartbeats 4000000 in
theorem iUltraBelow_u (v : Value) (M : List (List Int)) (w : World) (h : RMat w v M) :
    Calls Try.prog 21 #[v] w (RetMatB w (ultB M)) := by
  have hR := h
  obtain ⟨a, cap, rfl, h1, h2, hc⟩ := h
  clear hc
  unfold maxLen at h2
  rcases Bool.eq_false_or_eq_true (metB M) with hm | hm
  · obtain ⟨hn2, hn7, hsq, hsym, _⟩ := metB_parts hm
    have HB := hid (ultB_yes M hm)
    have hsm := small_of_metB hm
    have HSQ := hid hsq; clear hsq hsym
    have HSM := hid hsm; clear hsm
    go_enter Try.func21, Try.ntmps21
    go_wp2_with fail
    refine (isMetric_lift _ M _ hR).mono ?_
    rintro e w1 ⟨rfl, hb1⟩
    rw [hm]
    have hR1 := hR.keep hb1
    go_wp2_with fail
    refine (clones_c _ M _ hR1 HSM.out).mono ?_
    rintro e w2 ⟨u, rfl, hu, hb2⟩
    obtain ⟨g, cu, rfl, hg1, hg2⟩ := hu.form_some (by omega)
    have HU := hid hu
    have HB2 := hid (And.intro hb1 hb2)
    have hs1 := hb1.size
    have hs2 := hb2.size
    clear hR hR1 hu hb1 hb2
    go_wp2
    go_loopg [15] M.length (fun gk kk wr => ∃ k : Nat, ∃ s : List (List Int), k ≤ M.length ∧ gk = M.length - k ∧ kk = .int .i64 k ∧ iterFrom M.length 0 (ultK M.length) M = iterFrom M.length k (ultK M.length) s ∧ s.length = M.length ∧ sqB s M.length = true ∧
      FMat wr w1.heap.size w2.heap.size (.slice (some ⟨g, 0, none⟩) M.length cu) s ∧ Touch w1.heap.size w2.heap.size w2 wr)
    case atStart => exact ⟨0, M, Nat.zero_le _, rfl, rfl, rfl, rfl, HSQ.out, HU.out, Touch.refl _ _ _⟩
    case round =>
      obtain ⟨k, s, hk, rfl, rfl, hit, hsl, hss, hF, hT⟩ := hrel
      obtain ⟨wo, rfl⟩ : ∃ wo : World, wo = wr := ⟨_, rfl⟩
      have HIT := hid hit; clear hit
      have HS := hid (And.intro hsl hss); clear hsl hss
      have HF := hid hF
      have HT := hid hT
      clear hF hT
      by_cases hlt : k < M.length
      · go_wp2
        go_loopg [20] M.length (fun gk ii wr => ∃ i : Nat, ∃ s' : List (List Int), i ≤ M.length ∧ gk = M.length - i ∧ ii = .int .i64 i ∧ iterFrom M.length 0 (ultK M.length) M = iterFrom M.length (k + 1) (ultK M.length) (iterFrom M.length i (ultI M.length k) s') ∧ s'.length = M.length ∧ sqB s' M.length = true ∧
          FMat wr w1.heap.size w2.heap.size (.slice (some ⟨g, 0, none⟩) M.length cu) s' ∧ Touch w1.heap.size w2.heap.size w2 wr)
        case atStart => exact ⟨0, s, Nat.zero_le _, rfl, rfl, by rw [HIT.out, iterFrom_lt _ _ hlt]; rfl, HS.out.1, HS.out.2, HF.out, HT.out⟩
        case round =>
          obtain ⟨i, s1, hi, rfl, rfl, hit, hsl, hss, hF, hT⟩ := hrel
          obtain ⟨wi, rfl⟩ : ∃ wi : World, wi = wr := ⟨_, rfl⟩
          have HIT1 := hid hit; clear hit
          have HS1 := hid (And.intro hsl hss); clear hsl hss
          have HF1 := hid hF
          have HT1 := hid hT
          clear hF hT HIT HS HF HT
          by_cases hlti : i < M.length
          · go_wp2
            go_loopg [25] M.length (fun gk jj wr => ∃ j : Nat, ∃ s' : List (List Int), j ≤ M.length ∧ gk = M.length - j ∧ jj = .int .i64 j ∧ iterFrom M.length 0 (ultK M.length) M = iterFrom M.length (k + 1) (ultK M.length) (iterFrom M.length (i + 1) (ultI M.length k) (iterFrom M.length j (ultJ k i) s')) ∧ s'.length = M.length ∧ sqB s' M.length = true ∧
              FMat wr w1.heap.size w2.heap.size (.slice (some ⟨g, 0, none⟩) M.length cu) s' ∧ Touch w1.heap.size w2.heap.size w2 wr)
            case atStart => exact ⟨0, s1, Nat.zero_le _, rfl, rfl, by rw [HIT1.out, iterFrom_lt _ _ hlti]; rfl, HS1.out.1, HS1.out.2, HF1.out, HT1.out⟩
            case round =>
              obtain ⟨j, s2, hj, rfl, rfl, hit, hsl, hss, hF, hT⟩ := hrel
              have HIT2 := hid hit; clear hit
              clear HIT1 HS1 HF1 HT1
              by_cases hltj : j < M.length
              · obtain ⟨G, C, hrow, hent, hset⟩ := fm_open hF hsl hss (by omega)
                obtain ⟨wq, hwq⟩ : ∃ wq : World, wq = wr.drew := ⟨_, rfl⟩
                have e1 : wq.cell? ⟨g, i, none⟩ = some (.slice (some ⟨G i, 0, none⟩) M.length (C i)) := by rw [hwq]; exact hrow i hlti
                have e2 : wq.cell? ⟨g, k, none⟩ = some (.slice (some ⟨G k, 0, none⟩) M.length (C k)) := by rw [hwq]; exact hrow k hlt
                have e3 : wq.cell? ⟨G i, j, none⟩ = some (.int .i64 (ent s2 i j)) := by rw [hwq]; exact (hent i j hlti hltj).1
                have e4 : wq.cell? ⟨G i, k, none⟩ = some (.int .i64 (ent s2 i k)) := by rw [hwq]; exact (hent i k hlti hlt).1
                have e5 : wq.cell? ⟨G k, j, none⟩ = some (.int .i64 (ent s2 k j)) := by rw [hwq]; exact (hent k j hlt hltj).1
                have e6 : wq.frozen? ⟨G i, j, none⟩ = false := by rw [hwq]; exact (hent i j hlti hltj).2
                obtain ⟨x, hx⟩ : ∃ x, ent s2 i j = x := ⟨_, rfl⟩
                obtain ⟨y, hy⟩ : ∃ y, ent s2 i k = y := ⟨_, rfl⟩
                obtain ⟨z, hz⟩ : ∃ z, ent s2 k j = z := ⟨_, rfl⟩
                rw [hx] at e3
                rw [hy] at e4
                rw [hz] at e5
                have HO : Aside (∀ m, m = min x (max y z) → FMat (wq.setCell ⟨G i, j, none⟩ (.int .i64 m)) w1.heap.size w2.heap.size (.slice (some ⟨g, 0, none⟩) M.length cu) (ultJ k i j s2) ∧ Touch w1.heap.size w2.heap.size w2 (wq.setCell ⟨G i, j, none⟩ (.int .i64 m))) := by
                  intro m hmm
                  have hst := hset i j m hlti hltj
                  rw [hwq]
                  refine ⟨?_, hT.trans ⟨hst.2.os, hst.2.tape, hst.2.output, hst.2.size, hst.2.block⟩⟩
                  unfold ultJ; rw [hx, hy, hz, ← hmm]; exact hst.1
                have HSS := hid (And.intro hsl hss)
                have HWQ := hid hwq
                clear hrow hent hset hF hT hsl hss hwq hx hy hz
                have hjz : (j : Int) < (M.length : Int) := by omega
                have hiz : (i : Int) < (M.length : Int) := by omega
                have hkz : (k : Int) < (M.length : Int) := by omega
                go_wp2
                refine wp_region_still_tail 29 (by kernel_rfl) (by kernel_rfl) ?_
                change wpStill _ _ wr.drew _ _ _
                rw [← HWQ.out]
                simp only [List.take_succ_cons, List.take_zero, List.drop_succ_cons, List.drop_zero]
                repeat still_step
                all_goals
                  refine wpStill_nil ?_
                  change wpList _ _ _ _ _ wr.drew
                  rw [← HWQ.out]
                  go_wp2
                  all_goals
                    go_roundg (M.length - (j + 1))
                    case rel => exact ⟨j + 1, ultJ k i j s2, by omega, rfl, by go_num, by rw [HIT2.out, iterFrom_lt _ _ hltj], by unfold ultJ; rw [setEnt_len]; exact HSS.out.1, setEnt_sq HSS.out.2 HSS.out.1 hlti _ _, HO.out _ (by omega)⟩
                    case measure => omega
              · have HO : Aside (s2.length = M.length ∧ sqB s2 M.length = true ∧ FMat wr w1.heap.size w2.heap.size (.slice (some ⟨g, 0, none⟩) M.length cu) s2 ∧ Touch w1.heap.size w2.heap.size w2 wr) := ⟨hsl, hss, hF, hT⟩
                clear hsl hss hF hT
                go_wp2
                go_roundg (M.length - (i + 1))
                case rel => exact ⟨i + 1, s2, by omega, rfl, by go_num, by rw [HIT2.out, iterFrom_ge (ultJ k i) _ (by omega)], HO.out⟩
                case measure => omega
          · go_wp2
            go_roundg (M.length - (k + 1))
            case rel => exact ⟨k + 1, s1, by omega, rfl, by go_num, by rw [HIT1.out, iterFrom_ge (ultI M.length k) _ (by omega)], HS1.out.1, HS1.out.2, HF1.out, HT1.out⟩
            case measure => omega
      · have hfin : iterFrom M.length 0 (ultK M.length) M = s := by rw [HIT.out, iterFrom_ge _ _ (by omega)]
        have hF := HF.out
        rw [← hfin] at hF
        have HFF := hid hF
        clear hfin hF
        go_wp2
        go_ret2
        have ht := HT.out
        have hsz := ht.size
        exact ⟨_, by rw [HB.out]; rfl, by rw [HB.out]; exact HFF.out.mono (by omega) (by omega), (HB2.out.1.trans (HB2.out.2.mono hs1)).trans (ht.below hs1 (by omega))⟩
  · have HB := hid (ultB_no M hm)
    go_enter Try.func21, Try.ntmps21
    go_wp2_with fail
    refine (isMetric_lift _ M _ hR).mono ?_
    rintro e w1 ⟨rfl, hb1⟩
    rw [hm]
    go_wp2
    go_ret2
    exact retMatB_no hb1 HB.out _ rfl

end Go.Proofs.Ytcgcgmlonhganaa
