/- Numbers added to the distances of points: both programs' functions. -/
import Derived.Test.YtcgcgmlonhganaaUltra
namespace Go.Proofs.Ytcgcgmlonhganaa
open Go.RowKit
open Go.Lib (hid)

def addJ (b : List Int) (i j : Nat) (s : List (List Int)) : List (List Int) := if i = j then s else setEnt s i j (ent s i j + (b.getD i 0 + b.getD j 0))
def addI (b : List Int) (n i : Nat) (s : List (List Int)) : List (List Int) := iterFrom n 0 (addJ b i) s
def addM (b : List Int) (M : List (List Int)) : List (List Int) := iterFrom M.length 0 (addI b M.length) M
def pendOk (M : List (List Int)) (b : List Int) : Bool := metB M && ((b.length == M.length) && allB b 0 10000)
def pendB (M : List (List Int)) (b : List Int) : List (List Int) × Bool := if pendOk M b then (if metB (addM b M) then (addM b M, true) else ([], false)) else ([], false)
theorem pendB_bad (M : List (List Int)) (b : List Int) (h : pendOk M b = false) : pendB M b = ([], false) := by rw [pendB, h]; rfl
theorem pendB_no (M : List (List Int)) (b : List Int) (h : pendOk M b = true) (h' : metB (addM b M) = false) : pendB M b = ([], false) := by rw [pendB, h, h']; rfl
theorem pendB_yes (M : List (List Int)) (b : List Int) (h : pendOk M b = true) (h' : metB (addM b M) = true) : pendB M b = (addM b M, true) := by rw [pendB, h, h']; rfl
theorem metB_tot {M : List (List Int)} (h : metB M = true) : tot M ≤ 1099511627776 := by
  obtain ⟨_, h7, hsq, _⟩ := metB_parts h
  have := tot_le (M := M) (a := 7) (by omega) (fun r hr => by have := sqB_iff.1 hsq r hr; omega)
  omega
theorem pend_tot (M : List (List Int)) (b : List Int) : tot (pendB M b).1 ≤ 1099511627776 := by
  rcases Bool.eq_false_or_eq_true (pendOk M b) with h | h
  · rcases Bool.eq_false_or_eq_true (metB (addM b M)) with h' | h'
    · rw [pendB_yes M b h h']; exact metB_tot h'
    · rw [pendB_no M b h h']; simp [tot]
  · rw [pendB_bad M b h]; simp [tot]

theorem allB_at {l : List Int} {lo hi : Int} (h : allB l lo hi = true) {i : Nat} (hi' : i < l.length) : lo ≤ l.getD i 0 ∧ l.getD i 0 ≤ hi := by
  unfold allB at h
  rw [List.all_eq_true] at h
  exact inB_iff.1 (h (l.getD i 0) (by simp [List.getD, List.getElem?_eq_getElem hi']))

set_option maxHeartbeats 400000 in
theorem toldMetric_yes (v : Value) (M : List (List Int)) (w : World) (h : RMat w v M) (t : metB M = true) :
    Calls Try.prog 76 #[v] w fun e w' => e = .returned (.tuple #[v, .bool true]) ∧ Below w.heap.size w w' := by
  go_enter Try.func76, Try.ntmps76
  go_wp2_with fail
  refine (isMetric_c _ M _ h).mono ?_
  rintro e w1 ⟨rfl, hb1⟩
  rw [t]
  go_wp2
  go_ret2
  exact ⟨rfl, hb1⟩

set_option maxHeartbeats 400000 in
theorem toldMetric_no (v : Value) (M : List (List Int)) (w : World) (h : RMat w v M) (t : metB M = false) :
    Calls Try.prog 76 #[v] w fun e w' => e = .returned (.tuple #[.slice none 0 0, .bool false]) ∧ Below w.heap.size w w' := by
  go_enter Try.func76, Try.ntmps76
  go_wp2_with fail
  refine (isMetric_c _ M _ h).mono ?_
  rintro e w1 ⟨rfl, hb1⟩
  rw [t]
  go_wp2
  go_ret2
  exact ⟨rfl, hb1⟩

set_option maxHeartbeats 400000 in
theorem pendF_c (x : Int) (w : World) :
    Calls Try.prog 74 (#[.int .i64 x] ++ #[]) w fun e w' => e = .returned (.bool (!inB x 0 10000)) ∧ w = w' := by
  show Calls Try.prog 74 #[.int .i64 x] w _
  go_enter Try.func74, Try.ntmps74
  go_wp2_with (go_at_call 75; refine (within_c _ _ _ _).mono ?_; rintro e w' ⟨rfl, rfl⟩)
  go_ret
  exact ⟨rfl, rfl⟩

/-- what is untouched yet at row i, column j -/
def Fresh2 (M s : List (List Int)) (n i j : Nat) : Prop := ∀ a b, a < n → b < n → (i < a ∨ (a = i ∧ j ≤ b)) → ent s a b = ent M a b

theorem addJ_all {M s : List (List Int)} {b : List Int} {n i j : Nat} (hsl : s.length = n) (hss : sqB s n = true) (hf : Fresh2 M s n i j) (hi : i < n) (hj : j < n) :
    (addJ b i j s).length = n ∧ sqB (addJ b i j s) n = true ∧ Fresh2 M (addJ b i j s) n i (j + 1) := by
  unfold addJ
  split
  · exact ⟨hsl, hss, fun x y hx hy h => hf x y hx hy (by omega)⟩
  · refine ⟨by rw [setEnt_len]; exact hsl, setEnt_sq hss hsl hi _ _, fun x y hx hy h => ?_⟩
    rw [ent_setEnt hss hsl hi hj, if_neg (by omega)]
    exact hf x y hx hy (by omega)

set_option maxRecDepth 100000 in
set_option maxHeartbeats 4000000 in
theorem sAddPendants_u (v : Value) (M : List (List Int)) (u : Value) (b : List Int) (w : World) (h : RMat w v M) (h' : RInts w u b) :
    Calls Try.prog 29 #[v, u] w (RetMatB w (pendB M b)) := by
  have hR := h
  have hR' := h'
  obtain ⟨a, cap, rfl, h1, h2, hc⟩ := h
  obtain ⟨a', cap', rfl, h1', h2', hc'⟩ := h'
  clear hc hc'
  unfold maxLen at h2 h2'
  rcases Bool.eq_false_or_eq_true (metB M) with hm | hm
  · obtain ⟨hn2, hn7, hsq, hsym, _⟩ := metB_parts hm
    by_cases hlen : b.length = M.length
    · have t1 : ((b.length : Int) != (M.length : Int)) = false := bne_nat_false hlen
      have HLEN := hid hlen; clear hlen
      rcases Bool.eq_false_or_eq_true (allB b 0 10000) with hall | hall
      · have hok : pendOk M b = true := by rw [pendOk, hm, hall]; simp [HLEN.out]
        have HOK := hid hok; clear hok
        have HBND := hid (fun i (hi : i < M.length) => allB_at hall (show i < b.length by rw [HLEN.out]; exact hi))
        have HSQ := hid hsq
        have HSY := hid hsym
        have HSM := hid (small_of_metB hm)
        clear hsq hsym
        go_enter Try.func29, Try.ntmps29
        go_wp2_with fail
        refine (meGood_b _ M _ hR).mono ?_
        rintro e w1 ⟨rfl, hb1⟩
        rw [hm]
        have hR1 := hR.keep hb1
        have hR1' := hR'.keep hb1
        go_wp2_with (go_at_call 47; refine (l1All_c _ b _ _ _ hR1').mono ?_; rintro e w' ⟨rfl, rfl⟩)
        refine (mxOwn_c _ M _ hR1 HSM.out).mono ?_
        rintro e w2 ⟨u2, rfl, hu, hb2⟩
        obtain ⟨g, cu, rfl, hg1, hg2⟩ := hu.form_some (by omega)
        obtain ⟨ab, cb, hv, hb3, hb4, hbc⟩ := hR1'.keep hb2
        simp only [Value.slice.injEq, true_and] at hv
        obtain ⟨rfl, rfl⟩ := hv
        obtain ⟨gb, ob, rfl, _⟩ := hbc 0 (by have := HLEN.out; omega)
        have HBC : Hid (∀ i, i < M.length → w2.cell? ⟨gb, ob + i, none⟩ = some (.int .i64 (b.getD i 0))) := by
          intro i hi
          obtain ⟨g', o', he, hcell⟩ := hbc i (by rw [HLEN.out]; exact hi)
          simp only [Option.some.injEq, Addr.mk.injEq, and_true] at he
          obtain ⟨rfl, rfl⟩ := he
          exact hcell
        have hgb : gb < w1.heap.size := by
          obtain ⟨a3, c3, hv, _, _, hc3⟩ := hR1'
          simp only [Value.slice.injEq, true_and] at hv
          obtain ⟨g', o', he, hcell⟩ := hc3 0 (by have := HLEN.out; omega)
          rw [← hv.1] at he
          simp only [Option.some.injEq, Addr.mk.injEq, and_true] at he
          obtain ⟨rfl, rfl⟩ := he
          exact cell_lt hcell
        have HU := hid hu
        have HB2 := hid (And.intro hb1 hb2)
        have hs1 := hb1.size
        have hs2 := hb2.size
        have hbl : (M.length : Int) ≤ (b.length : Int) := by rw [HLEN.out]; omega
        clear hR hR1 hR' hR1' hu hb1 hb2 hbc hb4 hall
        go_wp2
        go_loopg [28] M.length (fun gk ii wr => ∃ i : Nat, ∃ s : List (List Int), i ≤ M.length ∧ gk = M.length - i ∧ ii = .int .i64 i ∧ addM b M = iterFrom M.length i (addI b M.length) s ∧ s.length = M.length ∧ sqB s M.length = true ∧ Fresh2 M s M.length i 0 ∧
          FMat wr w1.heap.size w2.heap.size (.slice (some ⟨g, 0, none⟩) M.length cu) s ∧ Touch w1.heap.size w2.heap.size w2 wr)
        case atStart => exact ⟨0, M, Nat.zero_le _, rfl, rfl, rfl, rfl, HSQ.out, fun _ _ _ _ _ => rfl, HU.out, Touch.refl _ _ _⟩
        case round =>
          obtain ⟨i, s, hi, rfl, rfl, hit, hsl, hss, hfr, hF, hT⟩ := hrel
          obtain ⟨wo, rfl⟩ : ∃ wo : World, wo = wr := ⟨_, rfl⟩
          have HIT := hid hit; clear hit
          have HS := hid (And.intro hsl (And.intro hss hfr)); clear hsl hss hfr
          have HF := hid hF
          have HT := hid hT
          clear hF hT
          by_cases hlti : i < M.length
          · go_wp2
            go_loopg [33] M.length (fun gk jj wr => ∃ j : Nat, ∃ s' : List (List Int), j ≤ M.length ∧ gk = M.length - j ∧ jj = .int .i64 j ∧ addM b M = iterFrom M.length (i + 1) (addI b M.length) (iterFrom M.length j (addJ b i) s') ∧ s'.length = M.length ∧ sqB s' M.length = true ∧ Fresh2 M s' M.length i j ∧
              FMat wr w1.heap.size w2.heap.size (.slice (some ⟨g, 0, none⟩) M.length cu) s' ∧ Touch w1.heap.size w2.heap.size w2 wr)
            case atStart => exact ⟨0, s, Nat.zero_le _, rfl, rfl, by rw [HIT.out, iterFrom_lt _ _ hlti]; rfl, HS.out.1, HS.out.2.1, HS.out.2.2, HF.out, HT.out⟩
            case round =>
              obtain ⟨j, s2, hj, rfl, rfl, hit, hsl, hss, hfr, hF, hT⟩ := hrel
              have HIT2 := hid hit; clear hit
              clear HIT HS HF HT
              by_cases hltj : j < M.length
              · have HALL := hid (addJ_all (b := b) hsl hss hfr hlti hltj)
                by_cases hij : i = j
                · have t2 : ((i : Int) != (j : Int)) = false := bne_nat_false hij
                  have HO : Aside ((addJ b i j s2).length = M.length ∧ sqB (addJ b i j s2) M.length = true ∧ Fresh2 M (addJ b i j s2) M.length i (j + 1) ∧ FMat wr w1.heap.size w2.heap.size (.slice (some ⟨g, 0, none⟩) M.length cu) (addJ b i j s2) ∧ Touch w1.heap.size w2.heap.size w2 wr) := by
                    refine ⟨HALL.out.1, HALL.out.2.1, HALL.out.2.2, ?_, hT⟩
                    unfold addJ; rw [if_pos hij]; exact hF
                  clear hij hsl hss hfr hF hT
                  go_wp2
                  go_roundg (M.length - (j + 1))
                  case rel => exact ⟨j + 1, addJ b i j s2, by omega, rfl, by go_num, by rw [HIT2.out, iterFrom_lt _ _ hltj], HO.out⟩
                  case measure => omega
                · have t2 : ((i : Int) != (j : Int)) = true := bne_nat_true hij
                  obtain ⟨G, C, hrow, hent, hset⟩ := fm_open hF hsl hss (by omega)
                  obtain ⟨wq, hwq⟩ : ∃ wq : World, wq = wr.drew := ⟨_, rfl⟩
                  have e1 : wq.cell? ⟨g, i, none⟩ = some (.slice (some ⟨G i, 0, none⟩) M.length (C i)) := by rw [hwq]; exact hrow i hlti
                  have e2 : wq.cell? ⟨gb, ob + i, none⟩ = some (.int .i64 (b.getD i 0)) := by
                    rw [hwq]; rw [show wr.drew.cell? ⟨gb, ob + i, none⟩ = w2.cell? ⟨gb, ob + i, none⟩ from World.cell?_of_block (w := w2) (hT.block gb (by omega) (by omega))]; exact HBC.out i hlti
                  have e3 : wq.cell? ⟨gb, ob + j, none⟩ = some (.int .i64 (b.getD j 0)) := by
                    rw [hwq]; rw [show wr.drew.cell? ⟨gb, ob + j, none⟩ = w2.cell? ⟨gb, ob + j, none⟩ from World.cell?_of_block (w := w2) (hT.block gb (by omega) (by omega))]; exact HBC.out j hltj
                  have e4 : wq.cell? ⟨G i, j, none⟩ = some (.int .i64 (ent s2 i j)) := by rw [hwq]; exact (hent i j hlti hltj).1
                  have e6 : wq.frozen? ⟨G i, j, none⟩ = false := by rw [hwq]; exact (hent i j hlti hltj).2
                  have b1 := HBND.out i hlti
                  have b2 := HBND.out j hltj
                  have b3 := symB_bound HSY.out hlti hltj
                  rw [← hfr i j hlti hltj (.inr ⟨rfl, Nat.le_refl _⟩)] at b3
                  obtain ⟨x, hx⟩ : ∃ x, b.getD i 0 = x := ⟨_, rfl⟩
                  obtain ⟨y, hy⟩ : ∃ y, b.getD j 0 = y := ⟨_, rfl⟩
                  obtain ⟨z, hz⟩ : ∃ z, ent s2 i j = z := ⟨_, rfl⟩
                  rw [hx] at e2 b1
                  rw [hy] at e3 b2
                  rw [hz] at e4 b3
                  have HO : Aside ((addJ b i j s2).length = M.length ∧ sqB (addJ b i j s2) M.length = true ∧ Fresh2 M (addJ b i j s2) M.length i (j + 1) ∧ FMat (wq.setCell ⟨G i, j, none⟩ (.int .i64 (z + (x + y)))) w1.heap.size w2.heap.size (.slice (some ⟨g, 0, none⟩) M.length cu) (addJ b i j s2) ∧ Touch w1.heap.size w2.heap.size w2 (wq.setCell ⟨G i, j, none⟩ (.int .i64 (z + (x + y))))) := by
                    have hst := hset i j (z + (x + y)) hlti hltj
                    rw [hwq]
                    refine ⟨HALL.out.1, HALL.out.2.1, HALL.out.2.2, ?_, hT.trans ⟨hst.2.os, hst.2.tape, hst.2.output, hst.2.size, hst.2.block⟩⟩
                    unfold addJ; rw [if_neg hij, hx, hy, hz]; exact hst.1
                  have HWQ := hid hwq
                  clear hrow hent hset hF hT hsl hss hfr hwq hx hy hz hij
                  have hjz : (j : Int) < (M.length : Int) := by omega
                  have hiz : (i : Int) < (M.length : Int) := by omega
                  have hjb : (j : Int) < (b.length : Int) := by omega
                  have hib : (i : Int) < (b.length : Int) := by omega
                  go_wp2
                  have f1 : IntKind.i64.wrap (x + y) = x + y := IntWalk.i64_in _ (by omega)
                  have f2 : IntKind.i64.wrap (z + (x + y)) = z + (x + y) := IntWalk.i64_in _ (by omega)
                  refine wp_region_still_tail 18 (by kernel_rfl) (by kernel_rfl) ?_
                  change wpStill _ _ wr.drew _ _ _
                  rw [← HWQ.out]
                  simp only [List.take_succ_cons, List.take_zero, List.drop_succ_cons, List.drop_zero]
                  repeat still_step
                  refine wpStill_nil ?_
                  change wpList _ _ _ _ _ wr.drew
                  rw [← HWQ.out]
                  clear f1 f2
                  go_wp2
                  go_roundg (M.length - (j + 1))
                  case rel => exact ⟨j + 1, addJ b i j s2, by omega, rfl, by go_num, by rw [HIT2.out, iterFrom_lt _ _ hltj], HO.out⟩
                  case measure => omega
              · have HO : Aside (s2.length = M.length ∧ sqB s2 M.length = true ∧ Fresh2 M s2 M.length (i + 1) 0 ∧ FMat wr w1.heap.size w2.heap.size (.slice (some ⟨g, 0, none⟩) M.length cu) s2 ∧ Touch w1.heap.size w2.heap.size w2 wr) := ⟨hsl, hss, fun x y hx hy hh => hfr x y hx hy (by omega), hF, hT⟩
                clear hsl hss hfr hF hT
                go_wp2
                go_roundg (M.length - (i + 1))
                case rel => exact ⟨i + 1, s2, by omega, rfl, by go_num, by rw [HIT2.out, iterFrom_ge (addJ b i) _ (by omega)], HO.out⟩
                case measure => omega
          · have hfin : addM b M = s := by rw [HIT.out, iterFrom_ge _ _ (by omega)]
            have hF := HF.out
            rw [← hfin] at hF
            have HFF := hid hF
            have ht := HT.out
            have hsz := ht.size
            have HBB := hid ((HB2.out.1.trans (HB2.out.2.mono hs1)).trans (ht.below hs1 (by omega)) : Below w.heap.size w wo)
            have hRR := hF.r
            clear hfin hF ht HT HF HIT HS
            rcases Bool.eq_false_or_eq_true (metB (addM b M)) with t3 | t3
            · have HB := hid (pendB_yes M b HOK.out t3)
              go_wp2_with fail
              refine (meGood_b _ (addM b M) _ hRR).mono ?_
              rintro e w3 ⟨rfl, hb3⟩
              rw [t3]
              have HB3 := hid hb3
              clear hRR hb3
              go_wp2
              go_ret2
              have hs3 := HB3.out.size
              exact ⟨_, by rw [HB.out]; rfl, by rw [HB.out]; exact (HFF.out.keep HB3.out).mono (by omega) (by omega), HBB.out.trans (HB3.out.mono (by omega))⟩
            · have HB := hid (pendB_no M b HOK.out t3)
              go_wp2_with fail
              refine (meGood_b _ (addM b M) _ hRR).mono ?_
              rintro e w3 ⟨rfl, hb3⟩
              rw [t3]
              clear hRR
              go_wp2
              go_ret2
              exact retMatB_no (HBB.out.trans (hb3.mono (by omega))) HB.out _ rfl
      · have HB := hid (pendB_bad M b (by rw [pendOk, hm, hall]; simp))
        go_enter Try.func29, Try.ntmps29
        go_wp2_with fail
        refine (meGood_b _ M _ hR).mono ?_
        rintro e w1 ⟨rfl, hb1⟩
        rw [hm]
        have hR1' := hR'.keep hb1
        go_wp2_with (go_at_call 47; refine (l1All_c _ b _ _ _ hR1').mono ?_; rintro e w' ⟨rfl, rfl⟩)
        go_ret2
        exact retMatB_no hb1 HB.out _ rfl
    · have t1 : ((b.length : Int) != (M.length : Int)) = true := bne_nat_true hlen
      have HB := hid (pendB_bad M b (by rw [pendOk, hm]; simp [hlen]))
      clear hlen
      go_enter Try.func29, Try.ntmps29
      go_wp2_with fail
      refine (meGood_b _ M _ hR).mono ?_
      rintro e w1 ⟨rfl, hb1⟩
      rw [hm]
      go_wp2
      go_ret2
      exact retMatB_no hb1 HB.out _ rfl
  · have HB := hid (pendB_bad M b (by rw [pendOk, hm]; rfl))
    go_enter Try.func29, Try.ntmps29
    go_wp2_with fail
    refine (meGood_b _ M _ hR).mono ?_
    rintro e w1 ⟨rfl, hb1⟩
    rw [hm]
    go_wp2
    go_ret2
    exact retMatB_no hb1 HB.out _ rfl

set_option maxRecDepth 100000 in
set_option maxHeartbeats 4000000 in
theorem iAddPendants_u (v : Value) (M : List (List Int)) (u : Value) (b : List Int) (w : World) (h : RMat w v M) (h' : RInts w u b) :
    Calls Try.prog 28 #[v, u] w (RetMatB w (pendB M b)) := by
  have hR := h
  have hR' := h'
  obtain ⟨a, cap, rfl, h1, h2, hc⟩ := h
  obtain ⟨a', cap', rfl, h1', h2', hc'⟩ := h'
  clear hc hc'
  unfold maxLen at h2 h2'
  rcases Bool.eq_false_or_eq_true (metB M) with hm | hm
  · obtain ⟨hn2, hn7, hsq, hsym, _⟩ := metB_parts hm
    by_cases hlen : b.length = M.length
    · have t1 : ((b.length : Int) != (M.length : Int)) = false := bne_nat_false hlen
      have HLEN := hid hlen; clear hlen
      rcases Bool.eq_false_or_eq_true (allB b 0 10000) with hall | hall
      · have hok : pendOk M b = true := by rw [pendOk, hm, hall]; simp [HLEN.out]
        have HOK := hid hok; clear hok
        have HBND := hid (fun i (hi : i < M.length) => allB_at hall (show i < b.length by rw [HLEN.out]; exact hi))
        have HSQ := hid hsq
        have HSY := hid hsym
        have HSM := hid (small_of_metB hm)
        clear hsq hsym
        go_enter Try.func28, Try.ntmps28
        go_wp2_with fail
        refine (isMetric_lift _ M _ hR).mono ?_
        rintro e w1 ⟨rfl, hb1⟩
        rw [hm]
        have hR1 := hR.keep hb1
        have hR1' := hR'.keep hb1
        go_wp2_with fail
        refine (containsFuncI_c _ b _ _ _ (fun x => !inB x 0 10000) hR1' Try.call74 (fun x => pendF_c x _)).mono ?_
        rintro e w' ⟨rfl, rfl⟩
        have hany : (b.any fun x => !inB x 0 10000) = false := by
          have : (b.any fun x => !inB x 0 10000) = !allB b 0 10000 := by unfold allB; rw [Bool.eq_iff_iff]; simp
          rw [this, hall]; rfl
        rw [hany]
        clear hany
        go_wp2_with fail
        refine (clones_c _ M _ hR1 HSM.out).mono ?_
        rintro e w2 ⟨u2, rfl, hu, hb2⟩
        obtain ⟨g, cu, rfl, hg1, hg2⟩ := hu.form_some (by omega)
        obtain ⟨ab, cb, hv, hb3, hb4, hbc⟩ := hR1'.keep hb2
        simp only [Value.slice.injEq, true_and] at hv
        obtain ⟨rfl, rfl⟩ := hv
        obtain ⟨gb, ob, rfl, _⟩ := hbc 0 (by have := HLEN.out; omega)
        have HBC : Hid (∀ i, i < M.length → w2.cell? ⟨gb, ob + i, none⟩ = some (.int .i64 (b.getD i 0))) := by
          intro i hi
          obtain ⟨g', o', he, hcell⟩ := hbc i (by rw [HLEN.out]; exact hi)
          simp only [Option.some.injEq, Addr.mk.injEq, and_true] at he
          obtain ⟨rfl, rfl⟩ := he
          exact hcell
        have hgb : gb < w1.heap.size := by
          obtain ⟨a3, c3, hv, _, _, hc3⟩ := hR1'
          simp only [Value.slice.injEq, true_and] at hv
          obtain ⟨g', o', he, hcell⟩ := hc3 0 (by have := HLEN.out; omega)
          rw [← hv.1] at he
          simp only [Option.some.injEq, Addr.mk.injEq, and_true] at he
          obtain ⟨rfl, rfl⟩ := he
          exact cell_lt hcell
        have HU := hid hu
        have HB2 := hid (And.intro hb1 hb2)
        have hs1 := hb1.size
        have hs2 := hb2.size
        have hbl : (M.length : Int) ≤ (b.length : Int) := by rw [HLEN.out]; omega
        clear hR hR1 hR' hR1' hu hb1 hb2 hbc hb4 hall
        go_wp2
        go_loopg [27] M.length (fun gk ii wr => ∃ i : Nat, ∃ s : List (List Int), i ≤ M.length ∧ gk = M.length - i ∧ ii = .int .i64 i ∧ addM b M = iterFrom M.length i (addI b M.length) s ∧ s.length = M.length ∧ sqB s M.length = true ∧ Fresh2 M s M.length i 0 ∧
          FMat wr w1.heap.size w2.heap.size (.slice (some ⟨g, 0, none⟩) M.length cu) s ∧ Touch w1.heap.size w2.heap.size w2 wr)
        case atStart => exact ⟨0, M, Nat.zero_le _, rfl, rfl, rfl, rfl, HSQ.out, fun _ _ _ _ _ => rfl, HU.out, Touch.refl _ _ _⟩
        case round =>
          obtain ⟨i, s, hi, rfl, rfl, hit, hsl, hss, hfr, hF, hT⟩ := hrel
          obtain ⟨wo, rfl⟩ : ∃ wo : World, wo = wr := ⟨_, rfl⟩
          have HIT := hid hit; clear hit
          have HS := hid (And.intro hsl (And.intro hss hfr)); clear hsl hss hfr
          have HF := hid hF
          have HT := hid hT
          clear hF hT
          by_cases hlti : i < M.length
          · go_wp2
            go_loopg [32] M.length (fun gk jj wr => ∃ j : Nat, ∃ s' : List (List Int), j ≤ M.length ∧ gk = M.length - j ∧ jj = .int .i64 j ∧ addM b M = iterFrom M.length (i + 1) (addI b M.length) (iterFrom M.length j (addJ b i) s') ∧ s'.length = M.length ∧ sqB s' M.length = true ∧ Fresh2 M s' M.length i j ∧
              FMat wr w1.heap.size w2.heap.size (.slice (some ⟨g, 0, none⟩) M.length cu) s' ∧ Touch w1.heap.size w2.heap.size w2 wr)
            case atStart => exact ⟨0, s, Nat.zero_le _, rfl, rfl, by rw [HIT.out, iterFrom_lt _ _ hlti]; rfl, HS.out.1, HS.out.2.1, HS.out.2.2, HF.out, HT.out⟩
            case round =>
              obtain ⟨j, s2, hj, rfl, rfl, hit, hsl, hss, hfr, hF, hT⟩ := hrel
              have HIT2 := hid hit; clear hit
              clear HIT HS HF HT
              by_cases hltj : j < M.length
              · have HALL := hid (addJ_all (b := b) hsl hss hfr hlti hltj)
                by_cases hij : i = j
                · have t2 : ((i : Int) != (j : Int)) = false := bne_nat_false hij
                  have HO : Aside ((addJ b i j s2).length = M.length ∧ sqB (addJ b i j s2) M.length = true ∧ Fresh2 M (addJ b i j s2) M.length i (j + 1) ∧ FMat wr w1.heap.size w2.heap.size (.slice (some ⟨g, 0, none⟩) M.length cu) (addJ b i j s2) ∧ Touch w1.heap.size w2.heap.size w2 wr) := by
                    refine ⟨HALL.out.1, HALL.out.2.1, HALL.out.2.2, ?_, hT⟩
                    unfold addJ; rw [if_pos hij]; exact hF
                  clear hij hsl hss hfr hF hT
                  go_wp2
                  go_roundg (M.length - (j + 1))
                  case rel => exact ⟨j + 1, addJ b i j s2, by omega, rfl, by go_num, by rw [HIT2.out, iterFrom_lt _ _ hltj], HO.out⟩
                  case measure => omega
                · have t2 : ((i : Int) != (j : Int)) = true := bne_nat_true hij
                  obtain ⟨G, C, hrow, hent, hset⟩ := fm_open hF hsl hss (by omega)
                  obtain ⟨wq, hwq⟩ : ∃ wq : World, wq = wr.drew := ⟨_, rfl⟩
                  have e1 : wq.cell? ⟨g, i, none⟩ = some (.slice (some ⟨G i, 0, none⟩) M.length (C i)) := by rw [hwq]; exact hrow i hlti
                  have e2 : wq.cell? ⟨gb, ob + i, none⟩ = some (.int .i64 (b.getD i 0)) := by
                    rw [hwq]; rw [show wr.drew.cell? ⟨gb, ob + i, none⟩ = w2.cell? ⟨gb, ob + i, none⟩ from World.cell?_of_block (w := w2) (hT.block gb (by omega) (by omega))]; exact HBC.out i hlti
                  have e3 : wq.cell? ⟨gb, ob + j, none⟩ = some (.int .i64 (b.getD j 0)) := by
                    rw [hwq]; rw [show wr.drew.cell? ⟨gb, ob + j, none⟩ = w2.cell? ⟨gb, ob + j, none⟩ from World.cell?_of_block (w := w2) (hT.block gb (by omega) (by omega))]; exact HBC.out j hltj
                  have e4 : wq.cell? ⟨G i, j, none⟩ = some (.int .i64 (ent s2 i j)) := by rw [hwq]; exact (hent i j hlti hltj).1
                  have e6 : wq.frozen? ⟨G i, j, none⟩ = false := by rw [hwq]; exact (hent i j hlti hltj).2
                  have b1 := HBND.out i hlti
                  have b2 := HBND.out j hltj
                  have b3 := symB_bound HSY.out hlti hltj
                  rw [← hfr i j hlti hltj (.inr ⟨rfl, Nat.le_refl _⟩)] at b3
                  obtain ⟨x, hx⟩ : ∃ x, b.getD i 0 = x := ⟨_, rfl⟩
                  obtain ⟨y, hy⟩ : ∃ y, b.getD j 0 = y := ⟨_, rfl⟩
                  obtain ⟨z, hz⟩ : ∃ z, ent s2 i j = z := ⟨_, rfl⟩
                  rw [hx] at e2 b1
                  rw [hy] at e3 b2
                  rw [hz] at e4 b3
                  have HO : Aside ((addJ b i j s2).length = M.length ∧ sqB (addJ b i j s2) M.length = true ∧ Fresh2 M (addJ b i j s2) M.length i (j + 1) ∧ FMat (wq.setCell ⟨G i, j, none⟩ (.int .i64 (z + (x + y)))) w1.heap.size w2.heap.size (.slice (some ⟨g, 0, none⟩) M.length cu) (addJ b i j s2) ∧ Touch w1.heap.size w2.heap.size w2 (wq.setCell ⟨G i, j, none⟩ (.int .i64 (z + (x + y))))) := by
                    have hst := hset i j (z + (x + y)) hlti hltj
                    rw [hwq]
                    refine ⟨HALL.out.1, HALL.out.2.1, HALL.out.2.2, ?_, hT.trans ⟨hst.2.os, hst.2.tape, hst.2.output, hst.2.size, hst.2.block⟩⟩
                    unfold addJ; rw [if_neg hij, hx, hy, hz]; exact hst.1
                  have HWQ := hid hwq
                  clear hrow hent hset hF hT hsl hss hfr hwq hx hy hz hij
                  have hjz : (j : Int) < (M.length : Int) := by omega
                  have hiz : (i : Int) < (M.length : Int) := by omega
                  have hjb : (j : Int) < (b.length : Int) := by omega
                  have hib : (i : Int) < (b.length : Int) := by omega
                  go_wp2
                  have f1 : IntKind.i64.wrap (x + y) = x + y := IntWalk.i64_in _ (by omega)
                  have f2 : IntKind.i64.wrap (z + (x + y)) = z + (x + y) := IntWalk.i64_in _ (by omega)
                  refine wp_region_still_tail 18 (by kernel_rfl) (by kernel_rfl) ?_
                  change wpStill _ _ wr.drew _ _ _
                  rw [← HWQ.out]
                  simp only [List.take_succ_cons, List.take_zero, List.drop_succ_cons, List.drop_zero]
                  repeat still_step
                  refine wpStill_nil ?_
                  change wpList _ _ _ _ _ wr.drew
                  rw [← HWQ.out]
                  clear f1 f2
                  go_wp2
                  go_roundg (M.length - (j + 1))
                  case rel => exact ⟨j + 1, addJ b i j s2, by omega, rfl, by go_num, by rw [HIT2.out, iterFrom_lt _ _ hltj], HO.out⟩
                  case measure => omega
              · have HO : Aside (s2.length = M.length ∧ sqB s2 M.length = true ∧ Fresh2 M s2 M.length (i + 1) 0 ∧ FMat wr w1.heap.size w2.heap.size (.slice (some ⟨g, 0, none⟩) M.length cu) s2 ∧ Touch w1.heap.size w2.heap.size w2 wr) := ⟨hsl, hss, fun x y hx hy hh => hfr x y hx hy (by omega), hF, hT⟩
                clear hsl hss hfr hF hT
                go_wp2
                go_roundg (M.length - (i + 1))
                case rel => exact ⟨i + 1, s2, by omega, rfl, by go_num, by rw [HIT2.out, iterFrom_ge (addJ b i) _ (by omega)], HO.out⟩
                case measure => omega
          · have hfin : addM b M = s := by rw [HIT.out, iterFrom_ge _ _ (by omega)]
            have hF := HF.out
            rw [← hfin] at hF
            have HFF := hid hF
            have ht := HT.out
            have hsz := ht.size
            have HBB := hid ((HB2.out.1.trans (HB2.out.2.mono hs1)).trans (ht.below hs1 (by omega)) : Below w.heap.size w wo)
            have hRR := hF.r
            clear hfin hF ht HT HF HIT HS
            rcases Bool.eq_false_or_eq_true (metB (addM b M)) with t3 | t3
            · have HB := hid (pendB_yes M b HOK.out t3)
              go_wp2_with fail
              refine (toldMetric_yes _ (addM b M) _ hRR t3).mono ?_
              rintro e w3 ⟨rfl, hb3⟩
              have HB3 := hid hb3
              clear hRR hb3
              go_wp2
              go_ret2
              have hs3 := HB3.out.size
              exact ⟨_, by rw [HB.out]; rfl, by rw [HB.out]; exact (HFF.out.keep HB3.out).mono (by omega) (by omega), HBB.out.trans (HB3.out.mono (by omega))⟩
            · have HB := hid (pendB_no M b HOK.out t3)
              go_wp2_with fail
              refine (toldMetric_no _ (addM b M) _ hRR t3).mono ?_
              rintro e w3 ⟨rfl, hb3⟩
              clear hRR
              go_wp2
              go_ret2
              exact retMatB_no (HBB.out.trans (hb3.mono (by omega))) HB.out _ rfl
      · have HB := hid (pendB_bad M b (by rw [pendOk, hm, hall]; simp))
        go_enter Try.func28, Try.ntmps28
        go_wp2_with fail
        refine (isMetric_lift _ M _ hR).mono ?_
        rintro e w1 ⟨rfl, hb1⟩
        rw [hm]
        have hR1' := hR'.keep hb1
        go_wp2_with fail
        refine (containsFuncI_c _ b _ _ _ (fun x => !inB x 0 10000) hR1' Try.call74 (fun x => pendF_c x _)).mono ?_
        rintro e w' ⟨rfl, rfl⟩
        have hany : (b.any fun x => !inB x 0 10000) = true := by
          have : (b.any fun x => !inB x 0 10000) = !allB b 0 10000 := by unfold allB; rw [Bool.eq_iff_iff]; simp
          rw [this, hall]; rfl
        rw [hany]
        clear hany
        go_wp2_with fail
        go_ret2
        exact retMatB_no hb1 HB.out _ rfl
    · have t1 : ((b.length : Int) != (M.length : Int)) = true := bne_nat_true hlen
      have HB := hid (pendB_bad M b (by rw [pendOk, hm]; simp [hlen]))
      clear hlen
      go_enter Try.func28, Try.ntmps28
      go_wp2_with fail
      refine (isMetric_lift _ M _ hR).mono ?_
      rintro e w1 ⟨rfl, hb1⟩
      rw [hm]
      go_wp2
      go_ret2
      exact retMatB_no hb1 HB.out _ rfl
  · have HB := hid (pendB_bad M b (by rw [pendOk, hm]; rfl))
    go_enter Try.func28, Try.ntmps28
    go_wp2_with fail
    refine (isMetric_lift _ M _ hR).mono ?_
    rintro e w1 ⟨rfl, hb1⟩
    rw [hm]
    go_wp2
    go_ret2
    exact retMatB_no hb1 HB.out _ rfl

end Go.Proofs.Ytcgcgmlonhganaa
