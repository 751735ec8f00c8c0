/- The program's graphs: graphOf, and where the graph lies. -/
import Derived.Test.YtifdhapaonideaaGraphOf
namespace Go.Proofs.Ytifdhapaonideaa
open Go.RowKit
open Go.Lib (hid)

/-- what lies where the graph lies is kept -/
theorem og_same {w0 : World} {n : Nat} {wr : World} {hi B : Nat} {bt : Value} {L : List Lnk} (h : OG w0 n wr hi bt (mat n (mulL L)) (valV n L) (edgL L)) (hB : B ≤ w0.heap.size) (w' : World) (hs : Same B wr.heap.size wr w') : RG w' (.pointer (some ⟨w0.heap.size + 1, 0, none⟩)) n L := by
  have hlt := h.lt
  have hhi := h.hi
  have hbox := (hs _ (by omega) (by omega) (by omega)).trans h.box
  refine ⟨_, _, _, rfl, ?_, ?_, ?_, ?_, (h.btw.same (fun b h1 _ h3 => hs b (by omega) h3 h3)).r, (h.vals.same (fun b h1 _ h3 => hs b (by omega) h3 h3)).r⟩ <;> (rw [cell_of_row _ _ _ _ _ _ hbox]; rfl)

set_option maxRecDepth 100000 in
set_option maxHeartbeats 4000000 in
theorem graphOf_f (n : Nat) (v : Value) (L : List Lnk) (w : World) (h : RLinks w v L) (hG : GoodL n L) (hg : goodG n L = true) :
    Calls Try.prog 86 #[.int .i64 n, v] w fun e w' => ∃ g, e = .returned (.tuple #[.pointer (some ⟨g, 0, none⟩), .bool true]) ∧ RG w' (.pointer (some ⟨g, 0, none⟩)) n L ∧ Below w.heap.size w w' ∧ ∀ w'', Same w.heap.size w'.heap.size w' w'' → RG w'' (.pointer (some ⟨g, 0, none⟩)) n L := by
  have HR := hid h
  obtain ⟨a, cap, rfl, h1, h2, hc⟩ := h
  clear hc
  unfold maxLen at h2
  have hn8 := hG.n8
  have hn1 := hG.n1
  have HG := hid hG; clear hG
  have hmk := run_make_row' (P := Try.prog) 25 3 (.int .i64 0) 8 Try.underlying25 Try.infoInt rfl .i64 .i64 n (by omega) (by omega)
  go_enter Try.func86, Try.ntmps86
  go_wp2_with fail
  refine (isGraph_c n _ L _ HR.out).mono ?_
  rintro e w0 ⟨rfl, hb1⟩
  rw [hg]
  have HB1 := hid hb1
  have HR1 := hid (HR.out.keep hb1)
  have hbz := hb1.size
  clear hb1 hg
  go_wp2
  go_loopg [19] n (fun gk i wr => ∃ k : Nat, ∃ bt, k ≤ n ∧ gk = n - k ∧ i = .int .i64 k ∧ OG w0 n wr wr.heap.size bt ((List.range k).map (fun _ => lst n (fun _ => 0))) (fun _ => 0) 0)
  case atStart => exact ⟨0, _, Nat.zero_le _, rfl, rfl, OG.start (by omega)⟩
  case round =>
    obtain ⟨k, bt, hk, rfl, rfl, hog⟩ := hrel
    by_cases hlt : k < n
    · have hkz : (k : Int) < (n : Int) := by omega
      obtain ⟨wq, hwq⟩ : ∃ wq : World, wq = wr.drew := ⟨_, rfl⟩
      have hogq : OG w0 n wq wq.heap.size bt ((List.range k).map (fun _ => lst n (fun _ => 0))) (fun _ => 0) 0 := by rw [hwq]; exact hog.keep (Below.refl _ _).drew
      obtain ⟨b0, b1, b2, b3, _⟩ := og_cells hog
      have hb1 : Below wq.heap.size wq (wq.alloc (.cells (madeCells #[.int .i64 0] n) 3)) := (Below.refl _ _).alloc (Nat.le_refl _) _
      have hu := fi_made wq n (by omega)
      have hu' : FInts (wq.alloc (.cells (madeCells #[.int .i64 0] n) 3)) wq.heap.size (wq.alloc (.cells (madeCells #[.int .i64 0] n) 3)).heap.size (.slice (some ⟨wq.heap.size, 0, none⟩) n n) (lst n (fun _ => 0)) := by simp; exact hu
      have hbB : Below (w0.heap.size + 2) wq wq := Below.refl _ _
      obtain ⟨q1, q2, q3, q4, q5⟩ := row_one hogq.btw hbB hogq.lt hb1 hu'
      have q3' : ((wq.alloc (.cells (madeCells #[.int .i64 0] n) 3)).alloc (.cells #[.slice (some ⟨wq.heap.size, 0, none⟩) n n] 25)).cell? ⟨wq.heap.size + 1, 0, none⟩ = some (.slice (some ⟨wq.heap.size, 0, none⟩) n n) := by rw [← q3]; simp
      have HBA : Hid (Below wq.heap.size wq ((wq.alloc (.cells (madeCells #[.int .i64 0] n) 3)).alloc (.cells #[.slice (some ⟨wq.heap.size, 0, none⟩) n n] 25))) := hb1.alloc hb1.size _
      have HOG := hid hogq
      have HQ4 := hid q4
      have HQ1 := hid q1
      have HQ2 := hid q2
      have HQ3 := hid q3'
      have HT := hid (mat_zero_succ n k)
      have hkl : ((List.range k).map (fun _ => lst n (fun _ => 0))).length ≤ 1099511627776 := by simp; omega
      have hlow := hogq.lt
      clear hog hogq hu hu' hb1 q1 q2 q3 q3' q4 q5 b0 b2 b3 hbB
      have b1a : (wr.alloc (.cells (madeCells #[.int .i64 0] n) 3)).cell? ⟨w0.heap.size + 1, 1, none⟩ = some bt := by rw [World.cell?_alloc_lt _ _ _ (cell_lt b1)]; exact b1
      have b1b : ((wr.alloc (.cells (madeCells #[.int .i64 0] n) 3)).alloc (.cells #[.slice (some ⟨wr.heap.size, 0, none⟩) n n] 25)).cell? ⟨w0.heap.size + 1, 1, none⟩ = some bt := by rw [World.cell?_alloc_lt _ _ _ (cell_lt b1a)]; exact b1a
      subst hwq
      go_wp2
      go_region_law ((refine step_append_row rfl (.tmp 25) (.tmp 28) rfl _ _ _ _ _ _ _ _ _ (lst n (fun _ => 0)) (by simp [Act.eval]) (by simp [Act.eval]; rfl) HQ1.out HQ2.out HQ3.out (Nat.le_refl _) hlow hkl HQ4.out ?_; intro v' w2 hF' hg hn; obtain ⟨av, nv, cv, rfl⟩ := hF'.form3; have hF2 := hF'; rw [HT.out] at hF2; obtain ⟨⟨s1, s2⟩, hOG2⟩ := HOG.out.push HBA.out hg hF2; have HOG2 := hid hOG2; clear hF' hF2 hg hn hOG2))
      all_goals
        go_wp2
        go_roundg (n - (k + 1))
        case rel => exact ⟨k + 1, _, by omega, rfl, by go_num, by have := HOG2.out; simpa using this⟩
        case measure => omega
    · obtain rfl : k = n := by omega
      have hm0 : (List.range k).map (fun _ => lst k (fun _ => 0)) = mat k (mulL []) := rfl
      have hv0 : lst k (fun _ => 0) = lst k (valV k []) := lst_congr (fun v _ => (sumN_zero (fun _ _ => rfl)).symm)
      obtain ⟨gM, cM, hv, hlo, hhi⟩ := hog.btw.form_some (by simp; omega)
      rw [hm0, mat_len] at hv
      subst hv
      obtain ⟨w1, hw1⟩ : ∃ w1 : World, w1 = wr := ⟨_, rfl⟩
      subst hw1
      have HS : Hid (OG w0 k w1 w1.heap.size (.slice (some ⟨gM, 0, none⟩) k cM) (mat k (mulL (L.take 0))) (valV k (L.take 0)) (edgL (L.take 0))) :=
        ⟨hog.box, hog.btw, by have := hog.vals; rw [hv0] at this; exact this, hog.below, hog.lt, hog.hi⟩
      have hlow := hog.lt
      clear hog hm0 hv0 hmk
      go_wp2
      go_loopg [35] L.length (fun gk i wr => ∃ j : Nat, j ≤ L.length ∧ gk = L.length - j ∧ i = .int .i64 j ∧ OG w0 k wr w1.heap.size (.slice (some ⟨gM, 0, none⟩) k cM) (mat k (mulL (L.take j))) (valV k (L.take j)) (edgL (L.take j)))
      case atStart => exact ⟨0, Nat.zero_le _, rfl, rfl, HS.out⟩
      case round =>
        obtain ⟨j, hj, rfl, rfl, hog⟩ := hrel
        by_cases hltj : j < L.length
        · obtain ⟨a', cap', hv, _, _, hc⟩ := HR1.out.keep hog.below
          simp only [Value.slice.injEq, true_and] at hv
          obtain ⟨rfl, rfl⟩ := hv
          obtain ⟨g, o, x, y, z, rfl, c1, c2, c3, HD, HX⟩ := links_at hc hltj
          have hmem : (⟨x, y, z⟩ : Lnk) ∈ L := by rw [← HX.out]; simp [List.getD, hltj]
          obtain ⟨e1, e2, e3, e4, e5⟩ := HG.out.each _ hmem
          dsimp only at e1 e2 e3 e4 e5
          obtain ⟨a, rfl⟩ : ∃ a : Nat, x = a := ⟨x.toNat, by omega⟩
          obtain ⟨b, rfl⟩ : ∃ b : Nat, y = b := ⟨y.toNat, by omega⟩
          have ha : a < k := by omega
          have hb : b < k := by omega
          have hab : a ≠ b := by omega
          have htk : L.take (j + 1) = L.take j ++ [⟨(a : Int), (b : Int), z⟩] := by
            rw [List.take_succ_eq_append_getElem hltj]
            have := HX.out
            simp [List.getD, hltj] at this
            rw [this]
          have hP : ∀ x ∈ L.take j, isLnk a b x = false := by
            have hs := (HG.out.take (j + 1)).sorted
            rw [htk, List.pairwise_append] at hs
            intro x hx
            have h1 := aheadB_iff.1 (hs.2.2 x hx ⟨(a : Int), (b : Int), z⟩ (List.mem_singleton.2 rfl))
            have h2 := HG.out.each x (List.mem_of_mem_take hx)
            dsimp only at h1
            cases hl : isLnk a b x with
            | false => rfl
            | true => have := isLnk_iff.1 hl; omega
          have hst1 := mat_mul_step (n := k) (z := z) hP
          have hst2 := lst_val_step (n := k) (P := L.take j) (z := z) ha hb hab
          have hst3 := edgL_snoc (L.take j) ⟨(a : Int), (b : Int), z⟩
          rw [← htk] at hst1 hst2 hst3
          have hbv1 : -100 ≤ valV k (L.take j) a ∧ valV k (L.take j) a ≤ 100 := by
            have h1 := (grL k _ (HG.out.take j)).val_le a ha
            have h2 := (grL k _ (HG.out.take j)).val_nonneg a
            have : valV k (L.take j) a = (grL k _ (HG.out.take j)).val a := rfl
            omega
          have hbv2 : -100 ≤ upd (valV k (L.take j)) a (valV k (L.take j) a + z) b ∧ upd (valV k (L.take j)) a (valV k (L.take j) a + z) b ≤ 100 := by
            have h1 := (grL k _ (HG.out.take j)).val_le b hb
            have h2 := (grL k _ (HG.out.take j)).val_nonneg b
            have : valV k (L.take j) b = (grL k _ (HG.out.take j)).val b := rfl
            rw [upd_other _ _ (fun e => hab e.symm)]; omega
          have hbe := edgL_bound (HG.out.take j)
          have hltz : (j : Int) < (L.length : Int) := by omega
          have haz : (a : Int) < (k : Int) := by omega
          have hbz : (b : Int) < (k : Int) := by omega
          -- the copy of the link
          obtain ⟨wp, hwp⟩ : ∃ wp : World, wp = wr.alloc (.cells #[.int .i64 a, .int .i64 b, .int .i64 z] 104) := ⟨_, rfl⟩
          have hbp : Below wr.heap.size wr wp := by rw [hwp]; exact (Below.refl _ _).alloc (Nat.le_refl _) _
          have hnew := heap_alloc_new wr (.cells #[.int .i64 a, .int .i64 b, .int .i64 z] 104)
          rw [← hwp] at hnew
          have hogp := hog.keep hbp
          have hhi := hog.hi
          have hlo2 := hog.lt
          have HWP := hid hwp
          obtain ⟨va, hva⟩ : ∃ va, valV k (L.take j) = va := ⟨_, rfl⟩
          obtain ⟨ed, hed⟩ : ∃ ed, edgL (L.take j) = ed := ⟨_, rfl⟩
          rw [hva, hed] at hogp
          rw [hva] at hst2 hbv1 hbv2
          rw [hed] at hst3 hbe
          have HST := hid (And.intro hst1 (And.intro hst2 hst3))
          clear hc hbp htk hP hst1 hst2 hst3 hmem HX HD hva hed hwp hog HS
          -- the two entries
          obtain ⟨G, C, hrow, hent, hset⟩ := fm_open hogp.btw (mat_len _ _) (mat_sq _ _) (by omega)
          have hs1 := hset a b z ha hb
          rw [mat_set _ _ ha hb] at hs1
          obtain ⟨b0, b1, b2, b3, b4⟩ := og_cells hogp
          have k0 : wp.cell? ⟨wr.heap.size, 0, none⟩ = some (.int .i64 a) := by rw [cell_of_row _ _ _ _ _ _ hnew]; rfl
          have k1 : wp.cell? ⟨wr.heap.size, 1, none⟩ = some (.int .i64 b) := by rw [cell_of_row _ _ _ _ _ _ hnew]; rfl
          have k2 : wp.cell? ⟨wr.heap.size, 2, none⟩ = some (.int .i64 z) := by rw [cell_of_row _ _ _ _ _ _ hnew]; rfl
          have r1 := hrow a ha
          have r2 := hrow b hb
          have d1 := (hent a b ha hb).1
          have d2 := (hent a b ha hb).2
          have d3 := (hent b a hb ha).1
          have d4 := (hent b a hb ha).2
          have hGa := fm_row hogp.btw r1 (by rw [mat_len]; exact ha)
          have hGb := fm_row hogp.btw r2 (by rw [mat_len]; exact hb)
          have n1 : G a ≠ w0.heap.size + 1 := by omega
          have n2 : G a ≠ gM := fun e => by have h1 := hrow a ha; have h2 := (hent a a ha ha).1; rw [e] at h2; rw [h1] at h2; cases h2
          have n3 : G a ≠ wr.heap.size := by omega
          have n4 : G b ≠ w0.heap.size + 1 := by omega
          have n5 : G b ≠ gM := fun e => by have h1 := hrow b hb; have h2 := (hent b b hb hb).1; rw [e] at h2; rw [h1] at h2; cases h2
          have n6 : G b ≠ wr.heap.size := by omega
          have HS1 := hid hs1
          have HOGP := hid hogp
          have HENT := hid hent
          have HSET := hid hset
          have HB4 := hid b4
          have HROW := hid hrow
          clear hs1 hogp hent hset b4 hrow hGa hGb hnew
          go_wp2
          rw [← HWP.out]
          go_region_held3 (fun w' => w'.cell? ⟨w0.heap.size + 1, 1, none⟩ = some (.slice (some ⟨gM, 0, none⟩) k cM) ∧ w'.cell? ⟨gM, a, none⟩ = some (.slice (some ⟨G a, 0, none⟩) k (C a)) ∧ w'.cell? ⟨gM, b, none⟩ = some (.slice (some ⟨G b, 0, none⟩) k (C b)) ∧
              w'.cell? ⟨wr.heap.size, 0, none⟩ = some (.int .i64 a) ∧ w'.cell? ⟨wr.heap.size, 1, none⟩ = some (.int .i64 b) ∧ w'.cell? ⟨wr.heap.size, 2, none⟩ = some (.int .i64 z)) (go_keep) (fail)
          go_wp2
          obtain ⟨wx1, hwx1⟩ : ∃ wx : World, wx = ((wp.setCell ⟨G a, b, none⟩ (.int .i64 z)).setCell ⟨G b, a, none⟩ (.int .i64 z)).drew := ⟨_, rfl⟩
          have hGG : ∀ G' C' : Nat → Nat, (∀ i, i < k → (wp.setCell ⟨G a, b, none⟩ (.int .i64 z)).cell? ⟨gM, i, none⟩ = some (.slice (some ⟨G' i, 0, none⟩) k (C' i))) → G' b = G b := fun G' C' h => by
            have h1 := h b hb
            rw [World.cell?_setCell_far _ _ _ _ n2, r2] at h1
            simp only [Option.some.injEq, Value.slice.injEq, Addr.mk.injEq, and_true] at h1
            exact h1.1.symm
          obtain ⟨G', C', hrow', _, hset'⟩ := fm_open HS1.out.1 (mat_len _ _) (mat_sq _ _) (by omega)
          have hs2 := hset' b a z hb ha
          rw [hGG G' C' hrow', mat_set _ _ hb ha] at hs2
          have tt0 : Touch (w0.heap.size + 2) w1.heap.size wp wx1 := by rw [hwx1]; exact (HS1.out.2.trans hs2.2).drew
          have OG1 : OG w0 k wx1 w1.heap.size (.slice (some ⟨gM, 0, none⟩) k cM) (mat k (mulL (L.take (j + 1)))) va ed := by
            have := HOGP.out.touchM (w' := wx1) (by rw [hwx1]; exact hs2.1) tt0
            rw [HST.out.1] at this; exact this
          have k0 := tt0.cell (by omega) k0
          have k1 := tt0.cell (by omega) k1
          have k2 := tt0.cell (by omega) k2
          rw [← hwx1]
          clear hwx1 hGG hrow' hset' hs2 tt0 r1 r2 d1 d2 d3 d4 n1 n2 n3 n4 n5 n6 b0 b1 b2 b3
          obtain ⟨vb, hvb⟩ : ∃ vb, upd va a (va a + z) = vb := ⟨_, rfl⟩
          rw [hvb] at hbv2 HST
          obtain ⟨vc, hvc⟩ : ∃ vc, upd vb b (vb b + z) = vc := ⟨_, rfl⟩
          rw [hvc] at HST
          obtain ⟨wq1, hwq1⟩ : ∃ wq : World, wq = wx1.drew := ⟨_, rfl⟩
          obtain ⟨hc1, _, hset1⟩ := fi_open OG1.vals
          obtain ⟨_, _, b21, _, _⟩ := og_cells OG1
          have d11 : wq1.cell? ⟨w0.heap.size + 1, 2, none⟩ = some (.slice (some ⟨w0.heap.size, 0, none⟩) k k) := by rw [hwq1]; exact b21
          have d21 : wq1.cell? ⟨w0.heap.size, a, none⟩ = some (.int .i64 (va a)) := by rw [hwq1]; exact (hc1 a (by omega)).1
          have d31 : wq1.frozen? ⟨w0.heap.size, a, none⟩ = false := by rw [hwq1]; exact (hc1 a (by omega)).2
          have d41 : wq1.cell? ⟨wr.heap.size, 0, none⟩ = some (.int .i64 a) := by rw [hwq1]; exact k0
          have d51 : wq1.cell? ⟨wr.heap.size, 1, none⟩ = some (.int .i64 b) := by rw [hwq1]; exact k1
          have d61 : wq1.cell? ⟨wr.heap.size, 2, none⟩ = some (.int .i64 z) := by rw [hwq1]; exact k2
          have hst1 := hset1 a (va a + z) (by omega)
          rw [hvb] at hst1
          obtain ⟨x1, hx1⟩ : ∃ x, va a = x := ⟨_, rfl⟩
          rw [hx1] at d21 hst1 hbv1
          obtain ⟨wx2, hwx2⟩ : ∃ wx : World, wx = wq1.setCell ⟨w0.heap.size, a, none⟩ (.int .i64 (x1 + z)) := ⟨_, rfl⟩
          have tt1 : Touch w0.heap.size (w0.heap.size + 1) wx1 wx2 := by rw [hwx2, hwq1]; exact ⟨hst1.2.os, hst1.2.tape, hst1.2.output, hst1.2.size, hst1.2.block⟩
          have OG2 : OG w0 k wx2 w1.heap.size (.slice (some ⟨gM, 0, none⟩) k cM) (mat k (mulL (L.take (j + 1)))) vb ed := OG1.touchV (by rw [hwx2, hwq1]; exact hst1.1) tt1
          have k0 := tt1.cell (by omega) k0
          have k1 := tt1.cell (by omega) k1
          have k2 := tt1.cell (by omega) k2
          have HWQ1 := hid hwq1
          have HWX2 := hid hwx2
          clear hc1 hset1 hst1 hwq1 hwx2 tt1 hx1 OG1 b21
          obtain ⟨wq2, hwq2⟩ : ∃ wq : World, wq = wx2.drew := ⟨_, rfl⟩
          obtain ⟨hc2, _, hset2⟩ := fi_open OG2.vals
          obtain ⟨_, _, b22, _, _⟩ := og_cells OG2
          have d12 : wq2.cell? ⟨w0.heap.size + 1, 2, none⟩ = some (.slice (some ⟨w0.heap.size, 0, none⟩) k k) := by rw [hwq2]; exact b22
          have d22 : wq2.cell? ⟨w0.heap.size, b, none⟩ = some (.int .i64 (vb b)) := by rw [hwq2]; exact (hc2 b (by omega)).1
          have d32 : wq2.frozen? ⟨w0.heap.size, b, none⟩ = false := by rw [hwq2]; exact (hc2 b (by omega)).2
          have d42 : wq2.cell? ⟨wr.heap.size, 0, none⟩ = some (.int .i64 a) := by rw [hwq2]; exact k0
          have d52 : wq2.cell? ⟨wr.heap.size, 1, none⟩ = some (.int .i64 b) := by rw [hwq2]; exact k1
          have d62 : wq2.cell? ⟨wr.heap.size, 2, none⟩ = some (.int .i64 z) := by rw [hwq2]; exact k2
          have hst2 := hset2 b (vb b + z) (by omega)
          rw [hvc] at hst2
          obtain ⟨x2, hx2⟩ : ∃ x, vb b = x := ⟨_, rfl⟩
          rw [hx2] at d22 hst2 hbv2
          obtain ⟨wx3, hwx3⟩ : ∃ wx : World, wx = wq2.setCell ⟨w0.heap.size, b, none⟩ (.int .i64 (x2 + z)) := ⟨_, rfl⟩
          have tt2 : Touch w0.heap.size (w0.heap.size + 1) wx2 wx3 := by rw [hwx3, hwq2]; exact ⟨hst2.2.os, hst2.2.tape, hst2.2.output, hst2.2.size, hst2.2.block⟩
          have OG3 : OG w0 k wx3 w1.heap.size (.slice (some ⟨gM, 0, none⟩) k cM) (mat k (mulL (L.take (j + 1)))) vc ed := OG2.touchV (by rw [hwx3, hwq2]; exact hst2.1) tt2
          have k0 := tt2.cell (by omega) k0
          have k1 := tt2.cell (by omega) k1
          have k2 := tt2.cell (by omega) k2
          have HWQ2 := hid hwq2
          have HWX3 := hid hwx3
          clear hc2 hset2 hst2 hwq2 hwx3 tt2 hx2 OG2 b22
          obtain ⟨wq3, hwq3⟩ : ∃ wq : World, wq = wx3.drew := ⟨_, rfl⟩
          obtain ⟨_, _, _, b3, b4⟩ := og_cells OG3
          have d13 : wq3.cell? ⟨w0.heap.size + 1, 3, none⟩ = some (.int .i64 ed) := by rw [hwq3]; exact b3
          have d23 : wq3.frozen? ⟨w0.heap.size + 1, 3, none⟩ = false := by rw [hwq3]; exact b4 3
          have d33 : wq3.cell? ⟨wr.heap.size, 2, none⟩ = some (.int .i64 z) := by rw [hwq3]; exact k2
          have hq3 : OG w0 k wq3 w1.heap.size (.slice (some ⟨gM, 0, none⟩) k cM) (mat k (mulL (L.take (j + 1)))) vc ed := by rw [hwq3]; exact OG3.keep (Below.refl _ _).drew
          have hfin := hq3.setE (ed + z)
          have HFIN : Hid (OG w0 k (wq3.setCell ⟨w0.heap.size + 1, 3, none⟩ (.int .i64 (ed + z))) w1.heap.size (.slice (some ⟨gM, 0, none⟩) k cM) (mat k (mulL (L.take (j + 1)))) (valV k (L.take (j + 1))) (edgL (L.take (j + 1)))) := by
            have h1 := HST.out.2.1
            have h2 := HST.out.2.2
            rw [h2]
            exact ⟨hfin.box, hfin.btw, by have := hfin.vals; rw [h1] at this; exact this, hfin.below, hfin.lt, hfin.hi⟩
          have HWQ3 := hid hwq3
          clear b3 b4 hq3 hfin OG3 k0 k1 k2 hwq3 hvb hvc HS1 HOGP HENT HSET HB4 HROW HST
          have f1 : IntKind.i64.wrap (x1 + z) = x1 + z := IntWalk.i64_in _ (by omega)
          refine wp_region_still_tail 11 (by kernel_rfl) (by kernel_rfl) ?_
          change wpStill _ _ wx1.drew _ _ _
          rw [← HWQ1.out]
          simp only [List.take_succ_cons, List.take_zero, List.drop_succ_cons, List.drop_zero]
          repeat still_step
          refine wpStill_nil ?_
          change wpList _ _ _ _ _ wx1.drew
          rw [← HWQ1.out]
          clear f1
          go_wp2
          rw [← HWX2.out]
          clear d11 d21 d31 d41 d51 d61
          have f2 : IntKind.i64.wrap (x2 + z) = x2 + z := IntWalk.i64_in _ (by omega)
          refine wp_region_still_tail 11 (by kernel_rfl) (by kernel_rfl) ?_
          change wpStill _ _ wx2.drew _ _ _
          rw [← HWQ2.out]
          simp only [List.take_succ_cons, List.take_zero, List.drop_succ_cons, List.drop_zero]
          repeat still_step
          refine wpStill_nil ?_
          change wpList _ _ _ _ _ wx2.drew
          rw [← HWQ2.out]
          clear f2
          go_wp2
          rw [← HWX3.out]
          clear d12 d22 d32 d42 d52 d62
          have f3 : IntKind.i64.wrap (ed + z) = ed + z := IntWalk.i64_in _ (by omega)
          refine wp_region_still_tail 9 (by kernel_rfl) (by kernel_rfl) ?_
          change wpStill _ _ wx3.drew _ _ _
          rw [← HWQ3.out]
          simp only [List.take_succ_cons, List.take_zero, List.drop_succ_cons, List.drop_zero]
          repeat still_step
          refine wpStill_nil ?_
          change wpList _ _ _ _ _ wx3.drew
          rw [← HWQ3.out]
          clear f3
          go_wp2
          go_roundg (L.length - (j + 1))
          case rel => exact ⟨j + 1, by omega, rfl, by go_num, HFIN.out⟩
          case measure => omega
        · have hjl : j = L.length := by omega
          subst hjl
          have hog2 := hog
          rw [List.take_length] at hog2
          have HD := hid hog2.done
          have HD2 := hid (fun w'' hs => og_same hog2 hbz w'' hs)
          have HBL := hid (HB1.out.trans (hog.below.mono hbz))
          clear hog hog2 HS
          go_wp2
          go_ret2
          exact ⟨_, rfl, HD.out, HBL.out, HD2.out⟩

end Go.Proofs.Ytifdhapaonideaa
