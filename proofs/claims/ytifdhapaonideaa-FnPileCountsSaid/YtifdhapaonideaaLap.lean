/- The matrix of a graph, made by the reference. -/
import Derived.Test.YtifdhapaonideaaChMem
import Derived.Test.YtifdhapaonideaaOwn
namespace Go.Proofs.Ytifdhapaonideaa
open Go.RowKit
open Go.Lib (hid)

theorem Touch.cell {lo hi : Nat} {w w' : World} (h : Touch lo hi w w') {b o : Nat} {v : Value} (hb : ¬ (lo ≤ b ∧ b < hi)) (hc : w.cell? ⟨b, o, none⟩ = some v) : w'.cell? ⟨b, o, none⟩ = some v := by
  rw [← hc]
  simp [World.cell?, h.block b (cell_lt hc) hb]
theorem touch_drew {lo hi : Nat} {a b : World} (h : Touch lo hi a b) : Touch lo hi a b.drew := h.drew
theorem lst_const (n : Nat) (c : Int) : lst n (fun _ => c) = List.replicate n c := by
  apply List.ext_getElem
  · simp [lst]
  · intro i h1 h2; simp [lst]
/-- a new slice of zeros -/
theorem fi_made (w : World) (n : Nat) (hn : n ≤ 1048576) : FInts (w.alloc (.cells (madeCells #[.int .i64 0] n) 3)) w.heap.size (w.heap.size + 1) (.slice (some ⟨w.heap.size, 0, none⟩) n n) (lst n (fun _ => 0)) := by
  have h := ints_start w n hn []
  rw [lst_const]
  refine ⟨?_, fun g hg => by simp [Value.ownBlock] at hg; omega⟩
  simpa using h

/-- the matrix of some links -/
def lapV (n : Nat) (P : List Lnk) (v u : Nat) : Int := if u = v then sumN n (mulL P v) else - mulL P v u
theorem lapV_gr {n : Nat} {L : List Lnk} (h : GoodL n L) (v u : Nat) : lapV n L v u = (grL n L h).lap v u := rfl
theorem GoodL.take {n : Nat} {L : List Lnk} (h : GoodL n L) (k : Nat) : GoodL n (L.take k) :=
  ⟨h.n1, h.n8, fun x hx => h.each x (List.mem_of_mem_take hx), h.sorted.sublist (List.take_sublist k L)⟩
theorem lapV_bound {n : Nat} {L : List Lnk} (h : GoodL n L) {v u : Nat} (hv : v < n) : -40 ≤ lapV n L v u ∧ lapV n L v u ≤ 40 := by
  unfold lapV
  by_cases e : u = v
  · rw [if_pos e]
    have h1 := (grL n L h).val_le v hv
    have h2 := (grL n L h).val_nonneg v
    have : sumN n (mulL L v) = (grL n L h).val v := rfl
    omega
  · rw [if_neg e]; have := mulL_bound h.each h.sorted v u; omega
theorem mulL_snoc (P : List Lnk) (x : Lnk) (u v : Nat) : mulL (P ++ [x]) u v = mulL P u v + if isLnk u v x then x.n else 0 := by simp [mulL]
theorem lap_snoc {n : Nat} {P : List Lnk} {a b : Nat} {z : Int} (ha : a < n) (hb : b < n) (v u : Nat) :
    lapV n (P ++ [⟨a, b, z⟩]) v u = lapV n P v u + if u = v then (if v = a ∨ v = b then z else 0) else (if (v = a ∧ u = b) ∨ (v = b ∧ u = a) then - z else 0) := by
  unfold lapV
  by_cases e : u = v
  · rw [if_pos e, if_pos e, if_pos e]
    have h1 : sumN n (mulL (P ++ [⟨a, b, z⟩]) v) = sumN n (fun i => mulL P v i + if isLnk v i ⟨a, b, z⟩ then z else 0) := sumN_congr (fun i _ => mulL_snoc P _ v i)
    rw [h1, sumN_add]
    congr 1
    by_cases ea : v = a
    · rw [if_pos (.inl ea), sumN_one (v := b) _ hb (fun i _ hi => if_neg (by rw [isLnk_iff]; dsimp only; omega)), if_pos (by rw [isLnk_iff]; dsimp only; omega)]
    · by_cases eb : v = b
      · rw [if_pos (.inr eb), sumN_one (v := a) _ ha (fun i _ hi => if_neg (by rw [isLnk_iff]; dsimp only; omega)), if_pos (by rw [isLnk_iff]; dsimp only; omega)]
      · rw [if_neg (by omega), sumN_zero (fun i _ => if_neg (by rw [isLnk_iff]; dsimp only; omega))]
  · rw [if_neg e, if_neg e, if_neg e, mulL_snoc]
    by_cases h : (v = a ∧ u = b) ∨ (v = b ∧ u = a)
    · rw [if_pos h, if_pos (by rw [isLnk_iff]; dsimp only; omega)]; dsimp only; omega
    · rw [if_neg h, if_neg (by rw [isLnk_iff]; dsimp only; omega)]; omega
/-- one link more -/
def lapS (m : Nat → Nat → Int) (a b : Nat) (z : Int) : Nat → Nat → Int :=
  let m1 := upd2 m a a (m a a + z)
  let m2 := upd2 m1 b b (m1 b b + z)
  let m3 := upd2 m2 a b (m2 a b - z)
  upd2 m3 b a (m3 b a - z)
theorem lap_step {n : Nat} {P : List Lnk} {a b : Nat} {z : Int} (ha : a < n) (hb : b < n) (hab : a ≠ b) : mat n (lapS (lapV n P) a b z) = mat n (lapV n (P ++ [⟨a, b, z⟩])) := by
  refine mat_congr fun v u _ _ => ?_
  rw [lap_snoc ha hb]
  unfold lapS upd2
  by_cases e1 : v = b ∧ u = a
  · obtain ⟨rfl, rfl⟩ := e1
    simp [hab]
    omega
  · by_cases e2 : v = a ∧ u = b
    · obtain ⟨rfl, rfl⟩ := e2
      simp [hab]
      omega
    · by_cases e3 : u = v
      · subst e3
        by_cases e4 : u = a
        · subst e4; simp [hab]
        · by_cases e5 : u = b
          · subst e5; simp [e4]
          · simp [e4, e5]
      · rw [if_neg e1, if_neg e2, if_neg (by omega), if_neg (by omega), if_neg e3, if_neg (by omega)]; omega
/-- n rows of zeros -/
theorem mat_zero_succ (n k : Nat) : (List.range k).map (fun _ => lst n (fun _ => 0)) ++ [lst n (fun _ => 0)] = (List.range (k + 1)).map (fun _ => lst n (fun _ => 0)) := by simp [List.range_succ]
theorem lapV_nil (n : Nat) : (List.range n).map (fun _ => lst n (fun _ => 0)) = mat n (lapV n []) := by
  unfold mat
  apply List.map_congr_left
  intro v _
  refine lst_congr fun u _ => ?_
  unfold lapV
  by_cases e : u = v
  · rw [if_pos e]; exact (sumN_zero (fun _ _ => rfl)).symm
  · rw [if_neg e]; rfl

set_option maxRecDepth 100000 in
set_option maxHeartbeats 4000000 in
theorem chLaplacian_c (n : Nat) (v : Value) (L : List Lnk) (w : World) (h : RLinks w v L) (hG : GoodL n L) :
    Calls Try.prog 99 #[.int .i64 n, v] w (RetMat w (mat n (lapV n L))) := by
  have HR := hid h
  obtain ⟨a, cap, rfl, h1, h2, hc⟩ := h
  clear hc
  unfold maxLen at h2
  have hn8 := hG.n8
  have hn1 := hG.n1
  have HG := hid hG; clear hG
  have hmk := run_make_row' (P := Try.prog) 25 3 (.int .i64 0) 8 Try.underlying25 Try.infoInt rfl .i64 .i64 n (by omega) (by omega)
  go_enter Try.func99, Try.ntmps99
  go_wp2
  go_loopg [5, 6] n (fun gk out i wr => ∃ k : Nat, k ≤ n ∧ gk = n - k ∧ i = .int .i64 k ∧ FMat wr w.heap.size wr.heap.size out ((List.range k).map (fun _ => lst n (fun _ => 0))) ∧ Below w.heap.size w wr ∧ w.heap.size ≤ wr.heap.size)
  case atStart => exact ⟨0, Nat.zero_le _, rfl, rfl, mat_nil _ _ _, Below.refl _ _, Nat.le_refl _⟩
  case round =>
    obtain ⟨k, hk, rfl, rfl, hm, hbw, hsz⟩ := hrel
    by_cases hlt : k < n
    · have hkz : (k : Int) < (n : Int) := by omega
      have hb1 : Below wr.heap.size wr (wr.alloc (.cells (madeCells #[.int .i64 0] n) 3)) := (Below.refl _ _).alloc (Nat.le_refl _) _
      have hu := fi_made wr n (by omega)
      have hu' : FInts (wr.alloc (.cells (madeCells #[.int .i64 0] n) 3)) wr.heap.size (wr.alloc (.cells (madeCells #[.int .i64 0] n) 3)).heap.size (.slice (some ⟨wr.heap.size, 0, none⟩) n n) (lst n (fun _ => 0)) := by simp; exact hu
      obtain ⟨q1, q2, q3, q4, q5⟩ := row_one hm hbw hsz hb1 hu'
      have q3' : ((wr.alloc (.cells (madeCells #[.int .i64 0] n) 3)).alloc (.cells #[.slice (some ⟨wr.heap.size, 0, none⟩) n n] 25)).cell? ⟨wr.heap.size + 1, 0, none⟩ = some (.slice (some ⟨wr.heap.size, 0, none⟩) n n) := by rw [← q3]; simp
      have HQ4 := hid q4
      have HQ5 := hid q5
      have HQ1 := hid q1
      have HQ2 := hid q2
      have HQ3 := hid q3'
      have HT := hid (mat_zero_succ n k)
      have hkl : ((List.range k).map (fun _ => lst n (fun _ => 0))).length ≤ 1099511627776 := by simp; omega
      clear hm hu hu' hb1 q1 q2 q3 q3' q4 q5
      go_wp2_with (at_builtin; refine wpList_append_row rfl _ _ rfl _ _ _ _ _ _ _ _ _ (lst n (fun _ => 0)) rfl rfl HQ1.out HQ2.out HQ3.out (Nat.le_refl _) hsz hkl HQ4.out ?_; intro v' w' hF' hg hn)
      have hB' := HQ5.out.grown hg HQ4.out (own_blocks HQ1.out)
      rw [HT.out] at hF'
      go_roundg (n - (k + 1))
      case rel => exact ⟨k + 1, by omega, rfl, by go_num, hF', hB', by have := hB'.size; omega⟩
      case measure => omega
    · obtain rfl : k = n := by omega
      clear hmk
      rw [lapV_nil] at hm
      obtain ⟨gM, cM, hv, hlo, hhi⟩ := hm.form_some (by rw [mat_len]; omega)
      rw [mat_len] at hv
      subst hv
      have HM := hid hm
      have HB := hid hbw
      obtain ⟨w1, hw1⟩ : ∃ w1 : World, w1 = wr := ⟨_, rfl⟩
      subst hw1
      clear hm hbw
      go_wp2
      go_loopg [21] L.length (fun gk i wr => ∃ j : Nat, j ≤ L.length ∧ gk = L.length - j ∧ i = .int .i64 j ∧ FMat wr w.heap.size w1.heap.size (.slice (some ⟨gM, 0, none⟩) k cM) (mat k (lapV k (L.take j))) ∧ Touch w.heap.size w1.heap.size w1 wr)
      case atStart => exact ⟨0, Nat.zero_le _, rfl, rfl, HM.out, Touch.refl _ _ _⟩
      case round =>
        obtain ⟨j, hj, rfl, rfl, hF, hT⟩ := hrel
        by_cases hltj : j < L.length
        · have hbr : Below w.heap.size w wr := HB.out.trans (hT.below (Nat.le_refl _) hsz)
          have hR := HR.out.keep hbr
          obtain ⟨a', cap', hv, _, _, hc⟩ := hR
          simp only [Value.slice.injEq, true_and] at hv
          obtain ⟨rfl, rfl⟩ := hv
          obtain ⟨g, o, x, y, z, rfl, c1, c2, c3, HD, HX⟩ := links_at hc hltj
          have hmem : (⟨x, y, z⟩ : Lnk) ∈ L := by rw [← HX.out]; simp [List.getD, hltj]
          obtain ⟨e1, e2, e3, e4, e5⟩ := HG.out.each _ hmem
          dsimp only at e1 e2 e3 e4 e5
          obtain ⟨a, rfl⟩ : ∃ a : Nat, x = a := ⟨x.toNat, by omega⟩
          obtain ⟨b, rfl⟩ : ∃ b : Nat, y = b := ⟨y.toNat, by omega⟩
          have ha : a < k := by omega
          have hb : b < k := by omega
          have hab : a ≠ b := by omega
          have htk : L.take (j + 1) = L.take j ++ [⟨(a : Int), (b : Int), z⟩] := by
            rw [List.take_succ_eq_append_getElem hltj]
            have := HX.out
            simp [List.getD, hltj] at this
            rw [this]
          have HST : Hid (mat k (lapS (lapV k (L.take j)) a b z) = mat k (lapV k (L.take (j + 1)))) := by show _ = _; rw [htk]; exact lap_step ha hb hab
          have hbd := fun v u (hv : v < k) (_ : u < k) => lapV_bound (HG.out.take j) (u := u) hv
          have hsz1 := hT.size
          have hltz : (j : Int) < (L.length : Int) := by omega
          have haz : (a : Int) < (k : Int) := by omega
          have hbz : (b : Int) < (k : Int) := by omega
          -- the copy of the link
          obtain ⟨wp, hwp⟩ : ∃ wp : World, wp = wr.alloc (.cells #[.int .i64 a, .int .i64 b, .int .i64 z] 104) := ⟨_, rfl⟩
          have hbp : Below wr.heap.size wr wp := by rw [hwp]; exact (Below.refl _ _).alloc (Nat.le_refl _) _
          have hnew := heap_alloc_new wr (.cells #[.int .i64 a, .int .i64 b, .int .i64 z] 104)
          rw [← hwp] at hnew
          have k0 : wp.cell? ⟨wr.heap.size, 0, none⟩ = some (.int .i64 a) := by rw [cell_of_row _ _ _ _ _ _ hnew]; rfl
          have k1 : wp.cell? ⟨wr.heap.size, 1, none⟩ = some (.int .i64 b) := by rw [cell_of_row _ _ _ _ _ _ hnew]; rfl
          have k2 : wp.cell? ⟨wr.heap.size, 2, none⟩ = some (.int .i64 z) := by rw [cell_of_row _ _ _ _ _ _ hnew]; rfl
          have hF1 := hF.keep hbp
          have hT1 := hT.trans (.of_below hbp)
          have HWP := hid hwp
          have hfar : ¬ (w.heap.size ≤ wr.heap.size ∧ wr.heap.size < w1.heap.size) := by omega
          have HTK := hid htk
          have hz5 : -5 ≤ z ∧ z ≤ 5 := by omega
          obtain ⟨m0, hm0⟩ : ∃ m0, lapV k (L.take j) = m0 := ⟨_, rfl⟩
          rw [hm0] at hF1 HST hbd
          have HST' : Hid (∃ m1 m2 m3 m4 : Nat → Nat → Int, m1 = upd2 m0 a a (m0 a a + z) ∧ m2 = upd2 m1 b b (m1 b b + z) ∧ m3 = upd2 m2 a b (m2 a b - z) ∧ m4 = upd2 m3 b a (m3 b a - z) ∧ mat k m4 = mat k (lapV k (L.take (j + 1))) ∧
              (-100 ≤ m0 a a ∧ m0 a a ≤ 100) ∧ (-100 ≤ m1 b b ∧ m1 b b ≤ 100) ∧ (-100 ≤ m2 a b ∧ m2 a b ≤ 100) ∧ (-100 ≤ m3 b a ∧ m3 b a ≤ 100)) := by
            refine ⟨_, _, _, _, rfl, rfl, rfl, rfl, HST.out, ?_, ?_, ?_, ?_⟩
            · have := hbd a a ha ha; omega
            · have := hbd b b hb hb; simp [upd2]; omega
            · have := hbd a b ha hb; simp [upd2, hab]; omega
            · have := hbd b a hb ha; simp [upd2, hab]; omega
          obtain ⟨m1, m2, m3, m4, hm1, hm2, hm3, hm4, hmend, bd1, bd2, bd3, bd4⟩ := HST'.out
          have HEND := hid hmend
          clear hc hbr HST HST' hm0 hbd hF hT hbp hnew htk hwp hmend hmem HX HD
          obtain ⟨G1, C1, hrow1, hent1, hset1⟩ := fm_open hF1 (mat_len _ _) (mat_sq _ _) (by omega)
          obtain ⟨wq1, hwq1⟩ : ∃ wq : World, wq = (wp).drew := ⟨_, rfl⟩
          have d11 : wq1.cell? ⟨gM, a, none⟩ = some (.slice (some ⟨G1 a, 0, none⟩) k (C1 a)) := by rw [hwq1]; exact hrow1 a (by omega)
          have d21 : wq1.cell? ⟨G1 a, a, none⟩ = some (.int .i64 (m0 a a)) := by rw [hwq1]; have := (hent1 a a (by omega) (by omega)).1; rw [mat_ent _ (by omega) (by omega)] at this; exact this
          have d31 : wq1.frozen? ⟨G1 a, a, none⟩ = false := by rw [hwq1]; exact (hent1 a a (by omega) (by omega)).2
          have d41 : wq1.cell? ⟨wr.heap.size, 0, none⟩ = some (.int .i64 a) := by rw [hwq1]; exact k0
          have d51 : wq1.cell? ⟨wr.heap.size, 1, none⟩ = some (.int .i64 b) := by rw [hwq1]; exact k1
          have d61 : wq1.cell? ⟨wr.heap.size, 2, none⟩ = some (.int .i64 z) := by rw [hwq1]; exact k2
          have hst1 := hset1 a a (m0 a a + z) (by omega) (by omega)
          rw [mat_set _ _ (by omega) (by omega), ← hm1] at hst1
          obtain ⟨x1, hx1⟩ : ∃ x, m0 a a = x := ⟨_, rfl⟩
          rw [hx1] at d21 hst1 bd1
          obtain ⟨wx1, hwx1⟩ : ∃ wx : World, wx = wq1.setCell ⟨G1 a, a, none⟩ (.int .i64 (x1 + z)) := ⟨_, rfl⟩
          have hF2 : FMat wx1 w.heap.size w1.heap.size (.slice (some ⟨gM, 0, none⟩) k cM) (mat k m1) := by rw [hwx1, hwq1]; exact hst1.1
          have tt1 : Touch w.heap.size w1.heap.size (wp) wx1 := by rw [hwx1, hwq1]; exact ⟨hst1.2.os, hst1.2.tape, hst1.2.output, hst1.2.size, hst1.2.block⟩
          have hT2 := hT1.trans tt1
          have k0 := tt1.cell hfar k0
          have k1 := tt1.cell hfar k1
          have k2 := tt1.cell hfar k2
          have HWQ1 := hid hwq1
          have HWX1 := hid hwx1
          clear hF1 hT1 hrow1 hent1 hset1 hst1 hwq1 hwx1 tt1 hx1
          obtain ⟨G2, C2, hrow2, hent2, hset2⟩ := fm_open hF2 (mat_len _ _) (mat_sq _ _) (by omega)
          obtain ⟨wq2, hwq2⟩ : ∃ wq : World, wq = (wx1).drew := ⟨_, rfl⟩
          have d12 : wq2.cell? ⟨gM, b, none⟩ = some (.slice (some ⟨G2 b, 0, none⟩) k (C2 b)) := by rw [hwq2]; exact hrow2 b (by omega)
          have d22 : wq2.cell? ⟨G2 b, b, none⟩ = some (.int .i64 (m1 b b)) := by rw [hwq2]; have := (hent2 b b (by omega) (by omega)).1; rw [mat_ent _ (by omega) (by omega)] at this; exact this
          have d32 : wq2.frozen? ⟨G2 b, b, none⟩ = false := by rw [hwq2]; exact (hent2 b b (by omega) (by omega)).2
          have d42 : wq2.cell? ⟨wr.heap.size, 0, none⟩ = some (.int .i64 a) := by rw [hwq2]; exact k0
          have d52 : wq2.cell? ⟨wr.heap.size, 1, none⟩ = some (.int .i64 b) := by rw [hwq2]; exact k1
          have d62 : wq2.cell? ⟨wr.heap.size, 2, none⟩ = some (.int .i64 z) := by rw [hwq2]; exact k2
          have hst2 := hset2 b b (m1 b b + z) (by omega) (by omega)
          rw [mat_set _ _ (by omega) (by omega), ← hm2] at hst2
          obtain ⟨x2, hx2⟩ : ∃ x, m1 b b = x := ⟨_, rfl⟩
          rw [hx2] at d22 hst2 bd2
          obtain ⟨wx2, hwx2⟩ : ∃ wx : World, wx = wq2.setCell ⟨G2 b, b, none⟩ (.int .i64 (x2 + z)) := ⟨_, rfl⟩
          have hF3 : FMat wx2 w.heap.size w1.heap.size (.slice (some ⟨gM, 0, none⟩) k cM) (mat k m2) := by rw [hwx2, hwq2]; exact hst2.1
          have tt2 : Touch w.heap.size w1.heap.size (wx1) wx2 := by rw [hwx2, hwq2]; exact ⟨hst2.2.os, hst2.2.tape, hst2.2.output, hst2.2.size, hst2.2.block⟩
          have hT3 := hT2.trans tt2
          have k0 := tt2.cell hfar k0
          have k1 := tt2.cell hfar k1
          have k2 := tt2.cell hfar k2
          have HWQ2 := hid hwq2
          have HWX2 := hid hwx2
          clear hF2 hT2 hrow2 hent2 hset2 hst2 hwq2 hwx2 tt2 hx2
          obtain ⟨G3, C3, hrow3, hent3, hset3⟩ := fm_open hF3 (mat_len _ _) (mat_sq _ _) (by omega)
          obtain ⟨wq3, hwq3⟩ : ∃ wq : World, wq = (wx2).drew := ⟨_, rfl⟩
          have d13 : wq3.cell? ⟨gM, a, none⟩ = some (.slice (some ⟨G3 a, 0, none⟩) k (C3 a)) := by rw [hwq3]; exact hrow3 a (by omega)
          have d23 : wq3.cell? ⟨G3 a, b, none⟩ = some (.int .i64 (m2 a b)) := by rw [hwq3]; have := (hent3 a b (by omega) (by omega)).1; rw [mat_ent _ (by omega) (by omega)] at this; exact this
          have d33 : wq3.frozen? ⟨G3 a, b, none⟩ = false := by rw [hwq3]; exact (hent3 a b (by omega) (by omega)).2
          have d43 : wq3.cell? ⟨wr.heap.size, 0, none⟩ = some (.int .i64 a) := by rw [hwq3]; exact k0
          have d53 : wq3.cell? ⟨wr.heap.size, 1, none⟩ = some (.int .i64 b) := by rw [hwq3]; exact k1
          have d63 : wq3.cell? ⟨wr.heap.size, 2, none⟩ = some (.int .i64 z) := by rw [hwq3]; exact k2
          have hst3 := hset3 a b (m2 a b - z) (by omega) (by omega)
          rw [mat_set _ _ (by omega) (by omega), ← hm3] at hst3
          obtain ⟨x3, hx3⟩ : ∃ x, m2 a b = x := ⟨_, rfl⟩
          rw [hx3] at d23 hst3 bd3
          obtain ⟨wx3, hwx3⟩ : ∃ wx : World, wx = wq3.setCell ⟨G3 a, b, none⟩ (.int .i64 (x3 - z)) := ⟨_, rfl⟩
          have hF4 : FMat wx3 w.heap.size w1.heap.size (.slice (some ⟨gM, 0, none⟩) k cM) (mat k m3) := by rw [hwx3, hwq3]; exact hst3.1
          have tt3 : Touch w.heap.size w1.heap.size (wx2) wx3 := by rw [hwx3, hwq3]; exact ⟨hst3.2.os, hst3.2.tape, hst3.2.output, hst3.2.size, hst3.2.block⟩
          have hT4 := hT3.trans tt3
          have k0 := tt3.cell hfar k0
          have k1 := tt3.cell hfar k1
          have k2 := tt3.cell hfar k2
          have HWQ3 := hid hwq3
          have HWX3 := hid hwx3
          clear hF3 hT3 hrow3 hent3 hset3 hst3 hwq3 hwx3 tt3 hx3
          obtain ⟨G4, C4, hrow4, hent4, hset4⟩ := fm_open hF4 (mat_len _ _) (mat_sq _ _) (by omega)
          obtain ⟨wq4, hwq4⟩ : ∃ wq : World, wq = (wx3).drew := ⟨_, rfl⟩
          have d14 : wq4.cell? ⟨gM, b, none⟩ = some (.slice (some ⟨G4 b, 0, none⟩) k (C4 b)) := by rw [hwq4]; exact hrow4 b (by omega)
          have d24 : wq4.cell? ⟨G4 b, a, none⟩ = some (.int .i64 (m3 b a)) := by rw [hwq4]; have := (hent4 b a (by omega) (by omega)).1; rw [mat_ent _ (by omega) (by omega)] at this; exact this
          have d34 : wq4.frozen? ⟨G4 b, a, none⟩ = false := by rw [hwq4]; exact (hent4 b a (by omega) (by omega)).2
          have d44 : wq4.cell? ⟨wr.heap.size, 0, none⟩ = some (.int .i64 a) := by rw [hwq4]; exact k0
          have d54 : wq4.cell? ⟨wr.heap.size, 1, none⟩ = some (.int .i64 b) := by rw [hwq4]; exact k1
          have d64 : wq4.cell? ⟨wr.heap.size, 2, none⟩ = some (.int .i64 z) := by rw [hwq4]; exact k2
          have hst4 := hset4 b a (m3 b a - z) (by omega) (by omega)
          rw [mat_set _ _ (by omega) (by omega), ← hm4] at hst4
          obtain ⟨x4, hx4⟩ : ∃ x, m3 b a = x := ⟨_, rfl⟩
          rw [hx4] at d24 hst4 bd4
          obtain ⟨wx4, hwx4⟩ : ∃ wx : World, wx = wq4.setCell ⟨G4 b, a, none⟩ (.int .i64 (x4 - z)) := ⟨_, rfl⟩
          have hF5 : FMat wx4 w.heap.size w1.heap.size (.slice (some ⟨gM, 0, none⟩) k cM) (mat k m4) := by rw [hwx4, hwq4]; exact hst4.1
          have tt4 : Touch w.heap.size w1.heap.size (wx3) wx4 := by rw [hwx4, hwq4]; exact ⟨hst4.2.os, hst4.2.tape, hst4.2.output, hst4.2.size, hst4.2.block⟩
          have hT5 := hT4.trans tt4
          have k0 := tt4.cell hfar k0
          have k1 := tt4.cell hfar k1
          have k2 := tt4.cell hfar k2
          have HWQ4 := hid hwq4
          have HWX4 := hid hwx4
          clear hF4 hT4 hrow4 hent4 hset4 hst4 hwq4 hwx4 tt4 hx4
          have HF5 := hid hF5
          have HT5 := hid hT5
          clear hF5 hT5 hm1 hm2 hm3 hm4 k0 k1 k2
          go_wp2
          rw [← HWP.out]
          have f1 : IntKind.i64.wrap (x1 + z) = x1 + z := IntWalk.i64_in _ (by omega)
          refine wp_region_still_tail 13 (by kernel_rfl) (by kernel_rfl) ?_
          change wpStill _ _ (wp).drew _ _ _
          rw [← HWQ1.out]
          simp only [List.take_succ_cons, List.take_zero, List.drop_succ_cons, List.drop_zero]
          repeat still_step
          refine wpStill_nil ?_
          change wpList _ _ _ _ _ (wp).drew
          rw [← HWQ1.out]
          clear f1
          go_wp2
          rw [← HWX1.out]
          clear d11 d21 d31 d41 d51 d61
          have f2 : IntKind.i64.wrap (x2 + z) = x2 + z := IntWalk.i64_in _ (by omega)
          refine wp_region_still_tail 13 (by kernel_rfl) (by kernel_rfl) ?_
          change wpStill _ _ (wx1).drew _ _ _
          rw [← HWQ2.out]
          simp only [List.take_succ_cons, List.take_zero, List.drop_succ_cons, List.drop_zero]
          repeat still_step
          refine wpStill_nil ?_
          change wpList _ _ _ _ _ (wx1).drew
          rw [← HWQ2.out]
          clear f2
          go_wp2
          rw [← HWX2.out]
          clear d12 d22 d32 d42 d52 d62
          have f3 : IntKind.i64.wrap (x3 - z) = x3 - z := IntWalk.i64_in _ (by omega)
          refine wp_region_still_tail 13 (by kernel_rfl) (by kernel_rfl) ?_
          change wpStill _ _ (wx2).drew _ _ _
          rw [← HWQ3.out]
          simp only [List.take_succ_cons, List.take_zero, List.drop_succ_cons, List.drop_zero]
          repeat still_step
          refine wpStill_nil ?_
          change wpList _ _ _ _ _ (wx2).drew
          rw [← HWQ3.out]
          clear f3
          go_wp2
          rw [← HWX3.out]
          clear d13 d23 d33 d43 d53 d63
          have f4 : IntKind.i64.wrap (x4 - z) = x4 - z := IntWalk.i64_in _ (by omega)
          refine wp_region_still_tail 13 (by kernel_rfl) (by kernel_rfl) ?_
          change wpStill _ _ (wx3).drew _ _ _
          rw [← HWQ4.out]
          simp only [List.take_succ_cons, List.take_zero, List.drop_succ_cons, List.drop_zero]
          repeat still_step
          refine wpStill_nil ?_
          change wpList _ _ _ _ _ (wx3).drew
          rw [← HWQ4.out]
          clear f4
          go_wp2
          rw [← HWX4.out]
          clear d14 d24 d34 d44 d54 d64
          go_roundg (L.length - (j + 1))
          case rel => exact ⟨j + 1, by omega, rfl, by go_num, by rw [← HEND.out]; exact HF5.out, HT5.out⟩
          case measure => omega
        · obtain rfl : j = L.length := by omega
          rw [List.take_length] at hF
          have HO := hid (And.intro hF hT)
          clear hF hT
          go_wp2
          go_ret
          exact ⟨_, rfl, HO.out.1.mono (Nat.le_refl _) HO.out.2.size, HB.out.trans (HO.out.2.below (Nat.le_refl _) hsz)⟩

end Go.Proofs.Ytifdhapaonideaa
