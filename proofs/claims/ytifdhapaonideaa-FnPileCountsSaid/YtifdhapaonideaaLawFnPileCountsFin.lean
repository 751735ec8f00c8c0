/- FnPileCounts returns true for every input, and its arguments read as before. No condition. -/
import Derived.Test.YtifdhapaonideaaLawFnPileCountsFinB
import Derived.Test.YtifdhapaonideaaPileS4
import Derived.Deep.RegionHeld3
import Derived.Test.YtifdhapaonideaaPileI5
import Derived.Test.YtifdhapaonideaaPileU
import Derived.Test.YtifdhapaonideaaLeaf
import Derived.Test.YtifdhapaonideaaAppend
import Derived.BigQuiet
import Derived.Laws.BitsLemmas
import Derived.Laws.Bits64
import Derived.Test.YtifdhapaonideaaLink
import Derived.Test.YtifdhapaonideaaPush
import Derived.Test.YtifdhapaonideaaMark
import Derived.Test.YtifdhapaonideaaCntD
import Derived.Test.YtifdhapaonideaaGraphOf
import Derived.Test.YtifdhapaonideaaPool
import Derived.Test.YtifdhapaonideaaMake2
import Derived.Test.YtifdhapaonideaaMem
import Derived.ProofKit
import Derived.OpenShut
import Derived.ShutString
import Derived.ChangeOld
import Derived.Deep.Matrix
/- Piles: the program's list of all recurrent piles, whole. -/
namespace Go.Proofs.Ytifdhapaonideaa
open Go.RowKit
open Go.Lib (hid)

variable {n q p : Nat} {L : List Lnk}
theorem piM_len2 (hP : PG n L q) (xs : List Int) : (piM n L q xs).length ≤ 35 ^ (n - xs.length) := by
  unfold piM
  refine Nat.le_trans (List.length_filter_le _ _) ?_
  rw [List.length_map]
  refine Nat.le_trans (stA_len _ (fun m hm => ?_)) ?_
  · obtain ⟨i, hi, rfl⟩ := mem_lst.1 (List.mem_of_mem_drop hm)
    exact ((grt_pil hP).all (by decide) hi).2
  · rw [List.length_drop, lst_len]; exact Nat.le_refl _
theorem piX_len2 (hP : PG n L q) (xs : List Int) {d : Nat} (hd : n = xs.length + (d + 1)) : ∀ k, (piX n L q xs k).length ≤ k * 35 ^ d := by
  intro k
  induction k with
  | zero => rw [piX_zero]; simp
  | succ k ih =>
    rw [piX_succ, List.length_append, Nat.succ_mul]
    have := piM_len2 hP (xs ++ [(k : Int)])
    rw [List.length_append, List.length_singleton, show n - (xs.length + 1) = d by omega] at this
    omega

set_option maxRecDepth 100000 in
set_option maxHeartbeats 4000000 in
theorem recNext_c (hP : PG n L q) (wp : World) : ∀ (d v : Nat) (f : Nat → Int) (lv : Value) (Z : List (Value × List Int)) (w : World), n = v + d → PsSt wp.heap.size n q p L w lv Z f → preF n L q v f → Below wp.heap.size wp w → Z.length + 35 ^ d ≤ 1000000000 →
    Calls Try.prog 83 #[.int .i64 v, .pointer (some ⟨wp.heap.size, 0, none⟩), .pointer (some ⟨wp.heap.size + 4, 0, none⟩), .pointer (some ⟨wp.heap.size + 2, 0, none⟩), .pointer (some ⟨wp.heap.size + 5, 0, none⟩)] w
      fun e w' => RetPs wp.heap.size n q p L v f (Z.map Prod.snd ++ piM n L q (lst v f)) e w' ∧ Below wp.heap.size wp w' := by
  intro d
  induction d with
  | zero =>
    intro v f lv Z w hd s hp hb hz
    obtain rfl : n = v := by omega
    exact recNext_leaf hP wp f lv Z w s hp hb (by simp at hz; omega)
  | succ d ih =>
    intro v f lv Z w hd s hp hb0 hz
    have hn8 := hP.good.n8
    have hn1 := hP.good.n1
    have hvn : v < n := by omega
    have hvz : (v : Int) < (n : Int) := by omega
    have S := hid s
    have HB := hid hb0
    have HP := hid hp
    have HZ := hid hz
    have HIH := hid ih
    have HD := hid hd
    obtain ⟨H, hH⟩ : ∃ H, wp.heap.size = H := ⟨_, rfl⟩
    rw [hH] at S HB HIH ⊢
    have hlt := S.out.lt
    obtain ⟨gv, ov, cv, hcv1, hcv2, c0, c2, hvc⟩ : ∃ gv ov cv : Nat, n ≤ cv ∧ cv ≤ 9223372036854775807 ∧ w.cell? ⟨p, 0, none⟩ = some (.int .i64 n) ∧ w.cell? ⟨p, 2, none⟩ = some (.slice (some ⟨gv, ov, none⟩) n cv) ∧ ∀ i, i < n → w.cell? ⟨gv, ov + i, none⟩ = some (.int .i64 (valV n L i)) := by
      obtain ⟨g2, bt, vt, hgg, c0, _, c2, _, _, hv⟩ := S.out.gr
      simp only [Value.pointer.injEq, Option.some.injEq, Addr.mk.injEq, and_true] at hgg
      subst hgg
      obtain ⟨gv, ov, cv, rfl, h1, h2, h3⟩ := ri_open hv (by omega)
      exact ⟨gv, ov, cv, h1, h2, c0, c2, h3⟩
    have c3 := hvc v hvn
    obtain ⟨t0, t1⟩ := S.out.tcell
    have tt : ((v : Int) == (n : Int)) = false := beq_nat_false (by omega)
    have hG := (grt_pil hP).all (by decide) hvn
    have HPE := hid (piM_eq (L := L) (q := q) (xs := lst v f) (by rw [lst_len]; exact hvn))
    rw [lst_len] at HPE
    have hgv : ¬ v = q → grtV n L q v = valV n L v - 1 := fun h => by unfold grtV; rw [if_neg h]
    have hgq : v = q → grtV n L q v = 0 := fun h => by unfold grtV; rw [if_pos h]
    obtain ⟨G0, hG0⟩ : ∃ G0, grtV n L q v = G0 := ⟨_, rfl⟩
    rw [hG0] at hG HPE hgv hgq
    have HG0 := hid hG0
    have f1 : IntKind.i64.wrap ((v : Int) + 1) = (v : Int) + 1 := IntWalk.i64_in _ (by omega)
    have F1 := hid f1
    clear s hp hb0 hH hvc hG0 ih hd hz f1
    by_cases hvq : v = q
    -- Q
    · have u1 : ((v : Int) == (q : Int)) = true := beq_nat_true hvq
      have u2 : ((v : Int) != (q : Int)) = false := bne_of_true u1
      have hG00 := hgq hvq
      subst hG00
      clear hgv hgq hvq c2 c3 hG
      obtain ⟨X, hX⟩ : ∃ X : Int, X = 0 + 1 := ⟨_, rfl⟩
      have HX := hid hX
      clear hX
      go_enter Try.func83, Try.ntmps83
      go_wp2
      clear t0 t1 u1 u2 c0
      go_loopg [38] (0 + 1 : Int).toNat (fun gk i wr => ∃ (k : Nat) (lv' : Value) (Z' : List (Value × List Int)) (f' : Nat → Int), k ≤ (0 + 1 : Int).toNat ∧ gk = (0 + 1 : Int).toNat - k ∧ i = .int .i64 k ∧ PsSt H n q p L wr lv' Z' f' ∧ (∀ i, i < v → f' i = f i) ∧ Z'.map Prod.snd = Z.map Prod.snd ++ piX n L q (lst v f) k ∧ Below H wp wr)
      case atStart => exact ⟨0, lv, Z, f, Nat.zero_le _, rfl, rfl, S.out, fun _ _ => rfl, by rw [piX_zero, List.append_nil], HB.out⟩
      case round =>
        obtain ⟨k, lv1, Z1, f1, hk, rfl, rfl, hs, hf, hm, hb⟩ := hrel
        have S1 := hid hs
        have HF := hid hf
        have HM := hid hm
        have HBW := hid hb
        have e4 := hs.bd.cell
        have e5 := hs.bx.cell
        obtain ⟨k1, k2, hs2⟩ := hs.put hvn (k : Int)
        have S2 := hid hs2
        clear hs hf hm hb hs2
        by_cases hltk : (k : Int) < 1
        · have hpre := preF_step (x := (k : Int)) HP.out HF.out ⟨by omega, by rw [HG0.out]; omega⟩
          have hbw := HBW.out.setCell (p := ⟨H + 3, v, none⟩) (show H ≤ H + 3 from Nat.le_add_right H 3) (.int .i64 k)
          have hzl : Z1.length + 35 ^ d ≤ 1000000000 := by
            have h1 := congrArg List.length HM.out
            rw [List.length_map, List.length_append, List.length_map] at h1
            have h2 := piX_len2 hP (lst v f) (d := d) (by rw [lst_len]; exact HD.out) k
            have h3 := HZ.out
            rw [Nat.pow_succ] at h3
            have h4 : k * 35 ^ d + 35 ^ d ≤ 35 * 35 ^ d := by
              rw [← Nat.succ_mul]; exact Nat.mul_le_mul_right _ (by omega)
            rw [Nat.mul_comm (35 ^ d) 35] at h3
            omega
          have hmm : piX n L q (lst v f) (k + 1) = piX n L q (lst v f) k ++ piM n L q (lst (v + 1) (upd f1 v k)) := by
            rw [piX_succ, lst_putp v f f1 (k : Int) HF.out]
          have HPRE := hid hpre
          have HBS := hid hbw
          have HZL := hid hzl
          have HMM := hid hmm
          have ff1 := F1.out
          clear hpre hbw hzl hmm
          go_wp2_with fail
          refine (HIH.out (v + 1) (upd f1 v k) lv1 Z1 _ (by have := HD.out; omega) S2.out HPRE.out HBS.out HZL.out).mono ?_
          rintro e w4 ⟨⟨rfl, lv4, Z4, f4, hs4, hf4, hm4⟩, hb4⟩
          have S4 := hid hs4
          have HM4 : Hid (Z4.map Prod.snd = Z.map Prod.snd ++ piX n L q (lst v f) (k + 1)) := by show _ = _; rw [hm4, HM.out, HMM.out, List.append_assoc]
          have HF4 : Hid (∀ i, i < v → f4 i = f i) := fun i hi => by rw [hf4 i (by omega), upd_other _ _ (by omega), HF.out i hi]
          have HB4 := hid hb4
          clear hs4 hf4 hm4 hb4 e4 e5 k1 k2 ff1
          go_wp2
          go_roundg ((0 + 1 : Int).toNat - (k + 1))
          case rel => exact ⟨k + 1, lv4, Z4, f4, by omega, rfl, by go_num, S4.out, HF4.out, HM4.out, HB4.out⟩
          case measure => omega
        · have hkk : k = (0 + 1 : Int).toNat := by omega
          have HME : Hid (Z1.map Prod.snd = Z.map Prod.snd ++ piM n L q (lst v f)) := by show _ = _; rw [HM.out, HPE.out, hkk]
          obtain ⟨j1, j2, hs3⟩ := S1.out.put hvn 0
          have S3 := hid hs3
          have HBS := hid (HBW.out.setCell (p := ⟨H + 3, v, none⟩) (show H ≤ H + 3 from Nat.le_add_right H 3) (.int .i64 0))
          clear hs3 hkk k1 k2
          go_wp2
          go_end0
          exact ⟨⟨rfl, lv1, Z1, _, S3.out, fun i hi => by rw [upd_other _ _ (by omega), HF.out i hi], HME.out⟩, HBS.out⟩
    -- N
    · have u1 : ((v : Int) == (q : Int)) = false := beq_nat_false hvq
      have u2 : ((v : Int) != (q : Int)) = true := bne_of_false u1
      have hGv := hgv hvq
      obtain ⟨y, hy⟩ : ∃ y, valV n L v = y := ⟨_, rfl⟩
      rw [hy] at c3 hGv
      have g1 : IntKind.i64.wrap (y - 1) = G0 := by rw [← hGv]; exact IntWalk.i64_in _ (by omega)
      have g2 : IntKind.i64.wrap (G0 + 1) = G0 + 1 := IntWalk.i64_in _ (by omega)
      clear hgv hgq hvq hy hGv
      obtain ⟨X, hX⟩ : ∃ X : Int, X = G0 + 1 := ⟨_, rfl⟩
      have HX := hid hX
      clear hX
      go_enter Try.func83, Try.ntmps83
      go_wp2
      clear t0 t1 u1 u2 c0 c2 c3 g1 g2
      go_loopg [38] (G0 + 1).toNat (fun gk i wr => ∃ (k : Nat) (lv' : Value) (Z' : List (Value × List Int)) (f' : Nat → Int), k ≤ (G0 + 1).toNat ∧ gk = (G0 + 1).toNat - k ∧ i = .int .i64 k ∧ PsSt H n q p L wr lv' Z' f' ∧ (∀ i, i < v → f' i = f i) ∧ Z'.map Prod.snd = Z.map Prod.snd ++ piX n L q (lst v f) k ∧ Below H wp wr)
      case atStart => exact ⟨0, lv, Z, f, Nat.zero_le _, rfl, rfl, S.out, fun _ _ => rfl, by rw [piX_zero, List.append_nil], HB.out⟩
      case round =>
        obtain ⟨k, lv1, Z1, f1, hk, rfl, rfl, hs, hf, hm, hb⟩ := hrel
        have S1 := hid hs
        have HF := hid hf
        have HM := hid hm
        have HBW := hid hb
        have e4 := hs.bd.cell
        have e5 := hs.bx.cell
        obtain ⟨k1, k2, hs2⟩ := hs.put hvn (k : Int)
        have S2 := hid hs2
        clear hs hf hm hb hs2
        by_cases hltk : (k : Int) < G0 + 1
        · have hpre := preF_step (x := (k : Int)) HP.out HF.out ⟨by omega, by rw [HG0.out]; omega⟩
          have hbw := HBW.out.setCell (p := ⟨H + 3, v, none⟩) (show H ≤ H + 3 from Nat.le_add_right H 3) (.int .i64 k)
          have hzl : Z1.length + 35 ^ d ≤ 1000000000 := by
            have h1 := congrArg List.length HM.out
            rw [List.length_map, List.length_append, List.length_map] at h1
            have h2 := piX_len2 hP (lst v f) (d := d) (by rw [lst_len]; exact HD.out) k
            have h3 := HZ.out
            rw [Nat.pow_succ] at h3
            have h4 : k * 35 ^ d + 35 ^ d ≤ 35 * 35 ^ d := by
              rw [← Nat.succ_mul]; exact Nat.mul_le_mul_right _ (by omega)
            rw [Nat.mul_comm (35 ^ d) 35] at h3
            omega
          have hmm : piX n L q (lst v f) (k + 1) = piX n L q (lst v f) k ++ piM n L q (lst (v + 1) (upd f1 v k)) := by
            rw [piX_succ, lst_putp v f f1 (k : Int) HF.out]
          have HPRE := hid hpre
          have HBS := hid hbw
          have HZL := hid hzl
          have HMM := hid hmm
          have ff1 := F1.out
          clear hpre hbw hzl hmm
          go_wp2_with fail
          refine (HIH.out (v + 1) (upd f1 v k) lv1 Z1 _ (by have := HD.out; omega) S2.out HPRE.out HBS.out HZL.out).mono ?_
          rintro e w4 ⟨⟨rfl, lv4, Z4, f4, hs4, hf4, hm4⟩, hb4⟩
          have S4 := hid hs4
          have HM4 : Hid (Z4.map Prod.snd = Z.map Prod.snd ++ piX n L q (lst v f) (k + 1)) := by show _ = _; rw [hm4, HM.out, HMM.out, List.append_assoc]
          have HF4 : Hid (∀ i, i < v → f4 i = f i) := fun i hi => by rw [hf4 i (by omega), upd_other _ _ (by omega), HF.out i hi]
          have HB4 := hid hb4
          clear hs4 hf4 hm4 hb4 e4 e5 k1 k2 ff1
          go_wp2
          go_roundg ((G0 + 1).toNat - (k + 1))
          case rel => exact ⟨k + 1, lv4, Z4, f4, by omega, rfl, by go_num, S4.out, HF4.out, HM4.out, HB4.out⟩
          case measure => omega
        · have hkk : k = (G0 + 1).toNat := by omega
          have HME : Hid (Z1.map Prod.snd = Z.map Prod.snd ++ piM n L q (lst v f)) := by show _ = _; rw [HM.out, HPE.out, hkk]
          obtain ⟨j1, j2, hs3⟩ := S1.out.put hvn 0
          have S3 := hid hs3
          have HBS := hid (HBW.out.setCell (p := ⟨H + 3, v, none⟩) (show H ≤ H + 3 from Nat.le_add_right H 3) (.int .i64 0))
          clear hs3 hkk k1 k2
          go_wp2
          go_end0
          exact ⟨⟨rfl, lv1, Z1, _, S3.out, fun i hi => by rw [upd_other _ _ (by omega), HF.out i hi], HME.out⟩, HBS.out⟩

/-- the blocks at the start -/
theorem ps_start (w : World) (hn : n ≤ 1000) (hr : RG w (.pointer (some ⟨p, 0, none⟩)) n L) :
    let W := ((((((w.alloc (.cells #[.pointer (some ⟨p, 0, none⟩), .int .i64 q] 54)).alloc (.cells #[] 25)).alloc (.cells #[.slice (some ⟨w.heap.size + 1, 0, none⟩) 0 0] 44)).alloc (.cells (madeCells #[.int .i64 0] n) 3)).alloc (.cells #[.slice (some ⟨w.heap.size + 1 + 1 + 1, 0, none⟩) n n] 25)).alloc
      (.cells #[.func (.func 83) #[] #[.pointer (some ⟨w.heap.size, 0, none⟩), .pointer (some ⟨w.heap.size + 1 + 1 + 1 + 1, 0, none⟩), .pointer (some ⟨w.heap.size + 1 + 1, 0, none⟩), .pointer (some ⟨w.heap.size + 1 + 1 + 1 + 1 + 1, 0, none⟩)]] 94))
    PsSt w.heap.size n q p L W (.slice (some ⟨w.heap.size + 1, 0, none⟩) 0 0) [] (fun _ => 0) ∧ Below w.heap.size w W := by
  intro W
  have hb : Below w.heap.size w W := ((((((Below.refl _ _).alloc (by omega) _).alloc (by simp) _).alloc (by simp; omega) _).alloc (by simp; omega) _).alloc (by simp; omega) _).alloc (by simp; omega) _
  have look : ∀ (u : World) (o o' : Obj) (b : Nat), u.heap[b]? = some o → (u.alloc o').heap[b]? = some o := fun u o o' b hx => by
    rw [Below.heap_alloc _ _ _ (Array.getElem?_eq_some_iff.1 hx).1]; exact hx
  have new : ∀ (u : World) (o : Obj) (b : Nat), b = u.heap.size → (u.alloc o).heap[b]? = some o := fun u o b hb => by rw [hb]; exact heap_alloc_new u o
  have hsW : W.heap.size = w.heap.size + 6 := by simp [W]
  refine ⟨⟨hr.keep hb, fun w' hs hz => rg_heap hr (by omega) (fun b hb' => (hs b (Nat.zero_le _) hb' (by omega)).trans (hb.block b hb')), ?_, ?_, ?_, ?_, ?_, ?_, pool_nil _ _ _, fun g hg => by simp [Value.ownBlock] at hg; omega⟩, hb⟩
  · exact look _ _ _ _ (look _ _ _ _ (look _ _ _ _ (look _ _ _ _ (look _ _ _ _ (new _ _ _ rfl)))))
  · exact look _ _ _ _ (look _ _ _ _ (look _ _ _ _ (new _ _ _ (by simp))))
  · exact look _ _ _ _ (new _ _ _ (by simp))
  · exact new _ _ _ (by simp)
  · have h3 := fi_made (((w.alloc (.cells #[.pointer (some ⟨p, 0, none⟩), .int .i64 q] 54)).alloc (.cells #[] 25)).alloc (.cells #[.slice (some ⟨w.heap.size + 1, 0, none⟩) 0 0] 44)) n (by omega)
    have hs : (((w.alloc (.cells #[.pointer (some ⟨p, 0, none⟩), .int .i64 q] 54)).alloc (.cells #[] 25)).alloc (.cells #[.slice (some ⟨w.heap.size + 1, 0, none⟩) 0 0] 44)).heap.size = w.heap.size + 3 := by simp
    rw [hs] at h3
    exact (h3.keep ((Below.refl _ _).alloc (Nat.le_refl _) _)).keep ((Below.refl _ _).alloc (Nat.le_refl _) _)
  · have h1 := omat_empty (w.alloc (.cells #[.pointer (some ⟨p, 0, none⟩), .int .i64 q] 54)) (w.heap.size + 1) (by simp)
    have hs : (w.alloc (.cells #[.pointer (some ⟨p, 0, none⟩), .int .i64 q] 54)).heap.size = w.heap.size + 1 := by simp
    rw [hs] at h1
    exact (((h1.keep ((Below.refl _ _).alloc (Nat.le_refl _) _)).keep ((Below.refl _ _).alloc (Nat.le_refl _) _)).keep ((Below.refl _ _).alloc (Nat.le_refl _) _)).keep ((Below.refl _ _).alloc (Nat.le_refl _) _)

set_option maxRecDepth 100000 in
set_option maxHeartbeats 2000000 in
theorem recurrent_c (hP : PG n L q) (w : World) (hp : RG w (.pointer (some ⟨p, 0, none⟩)) n L) :
    Calls Try.prog 50 #[.agg #[.pointer (some ⟨p, 0, none⟩), .int .i64 q]] w (RetMat w (recL n L q)) := by
  have hn8 := hP.good.n8
  have hn1 := hP.good.n1
  have hmk := run_make_row' (P := Try.prog) 25 3 (.int .i64 0) 8 Try.underlying25 Try.infoInt rfl .i64 .i64 n (by omega) (by omega)
  obtain ⟨hs, hb⟩ := ps_start (n := n) (q := q) (p := p) (L := L) w (by omega) hp
  have HS := hid hs
  have HB := hid hb
  have hc0 : w.cell? ⟨p, 0, none⟩ = some (.int .i64 n) := by
    obtain ⟨g2, bt, vt, hgg, c0, _⟩ := hp
    simp only [Value.pointer.injEq, Option.some.injEq, Addr.mk.injEq, and_true] at hgg
    subst hgg
    exact c0
  have hlp := cell_lt hc0
  have hk : ∀ o1 o2 o3 : Obj, (((w.alloc o1).alloc o2).alloc o3).cell? ⟨p, 0, none⟩ = some (.int .i64 n) := fun o1 o2 o3 => by
    rw [World.cell?_alloc_lt _ _ _ (by simp; omega), World.cell?_alloc_lt _ _ _ (by simp; omega), World.cell?_alloc_lt _ _ _ (by omega)]; exact hc0
  have hk1 := hk (.cells #[.pointer (some ⟨p, 0, none⟩), .int .i64 q] 54) (.cells #[] 25) (.cells #[.slice (some ⟨w.heap.size + 1, 0, none⟩) 0 0] 44)
  have hcall := recNext_c hP w n 0 (fun _ => 0) _ [] _ (by omega) HS.out (fun i hi => by omega) HB.out (by
    have := Nat.pow_le_pow_right (show 0 < 35 by decide) hP.n5
    have h5 : 35 ^ 5 = 52521875 := by decide
    simp; omega)
  have HCALL := hid hcall
  clear hs hb hcall hk hp hc0 hlp
  go_enter Try.func50, Try.ntmps50
  go_wp2_with fail
  refine HCALL.out.mono ?_
  rintro e w4 ⟨⟨rfl, lv, Z, f, hs, -, hm⟩, hb4⟩
  have e2 := hs.bo.cell
  have HR := hid ((hs.rows.f (fun g hg => (hs.rows.lt g hg).2) (hs.pool.mono (Nat.le_succ_of_le (Nat.le_succ_of_le (Nat.le_succ_of_le (Nat.le_succ_of_le (Nat.le_succ_of_le (Nat.le_refl _)))))) (Nat.le_refl _))).mono (Nat.le_succ _) (Nat.le_refl _))
  have HM : Hid (Z.map Prod.snd = recL n L q) := by show _ = _; rw [hm, lst_zero]; simp [piM, recL]
  have HB4 := hid hb4
  obtain ⟨al, cl, rfl⟩ := hs.rows.form
  clear hs hm hb4
  go_wp2
  go_ret
  exact ⟨_, rfl, by rw [← HM.out]; exact HR.out, HB4.out⟩

end Go.Proofs.Ytifdhapaonideaa

/- Piles: RecurrentPiles of the program; its identity. -/
namespace Go.Proofs.Ytifdhapaonideaa
open Go.RowKit
open Go.Lib (hid)

set_option maxRecDepth 100000 in
set_option maxHeartbeats 1000000 in
theorem iRecurrentPiles_u (n : Int) (v : Value) (L : List Lnk) (q : Int) (w : World) (h : RLinks w v L) :
    Calls Try.prog 25 #[.int .i64 n, v, .int .i64 q] w (RetMatU w (repB n L q)) := by
  have HR := hid h
  obtain ⟨a, cap, rfl⟩ := h.form
  clear h
  rcases Bool.eq_false_or_eq_true (piGB n L q) with t1 | t1
  · obtain ⟨m, k, hn, hq, hm, hk, hP⟩ := piGB_nat t1
    have hy := repB_yes t1
    rw [hm, hk] at hy
    subst hn
    subst hq
    have HY := hid hy
    clear hm hk hy
    go_enter Try.func25, Try.ntmps25
    go_wp2_with fail
    refine (tableOf_yes m k _ L _ HR.out t1).mono ?_
    rintro e w1 ⟨g, rfl, hg, hb1, -⟩
    have hal : Below w1.heap.size w1 (w1.alloc (.cells #[.pointer (some ⟨g, 0, none⟩), .int .i64 k] 54)) := (Below.refl _ _).alloc (Nat.le_refl _) _
    have HG := hid (hg.keep hal)
    have HB1 := hid (hb1.trans (hal.mono hb1.size))
    clear hg hb1 hal
    go_wp2_with fail
    refine (recurrent_c hP _ HG.out).mono ?_
    rintro e w2 ⟨u, rfl, hF, hb2⟩
    have HF := hid (hF.mono HB1.out.size (Nat.le_refl _))
    have HB2 := hid (HB1.out.trans (hb2.mono HB1.out.size))
    obtain ⟨a3, n3, c3, rfl⟩ := hF.form3
    clear hF hb2
    go_wp2
    go_ret2
    exact ⟨_, by rw [HY.out]; rfl, by rw [HY.out]; exact HF.out, HB2.out⟩
  · have HE := hid (repB_no t1)
    go_enter Try.func25, Try.ntmps25
    go_wp2_with fail
    refine (tableOf_no n q _ L _ HR.out t1).mono ?_
    rintro e w1 ⟨ap, x, rfl, hb1⟩
    have HB := hid (hb1.alloc hb1.size (.cells #[.pointer ap, .int .i64 x] 54))
    clear hb1
    go_wp2
    go_ret2
    exact ⟨_, by rw [HE.out]; rfl, by rw [HE.out]; exact mat_nil _ _ _, HB.out⟩

variable {n q p : Nat} {L : List Lnk}
/-- what the search for the identity asks -/
noncomputable def askId (G : Gr) (n q : Nat) (x0 x : List Int) : Bool := decide (lst n (Gr.stb G q (fun i => x0.getD i 0 + x.getD i 0)) = x0)
theorem recL_pil (hP : PG n L q) {x : List Int} (hx : x ∈ recL n L q) : PilZ n q 1000 (fun i => x.getD i 0) ∧ x = lst n (fun i => x.getD i 0) := by
  obtain ⟨h1, h2, h3⟩ := recL_mem hP hx
  refine ⟨⟨fun v hv hne => ?_, h3⟩, lst_of h1⟩
  have := h2.pos v hv hne
  have h4 := h2.stab v hv hne
  have h5 := (grL n L hP.good).val_le v hv
  dsimp only at this h4 ⊢
  omega
theorem id_mem (hP : PG n L q) : lst n (idF n L q hP.good) ∈ recL n L q := by
  obtain ⟨W, _⟩ := Gr.wt8 (G := grL n L hP.good) hP.hq hP.con
  exact rec_mem hP (Gr.idp_rec (G := grL n L hP.good) hP.hq W hP.con) (id_pil hP).2
theorem id_find (hP : PG n L q) {x0 : List Int} (h0 : x0 ∈ recL n L q) : (recL n L q).find? (askId (grL n L hP.good) n q x0) = some (lst n (idF n L q hP.good)) := by
  obtain ⟨W, _⟩ := Gr.wt8 (G := grL n L hP.good) hP.hq hP.con
  obtain ⟨h1, h2, h3⟩ := recL_mem hP h0
  have hi := Gr.idp_rec (G := grL n L hP.good) hP.hq W hP.con
  have key : ∀ y, y ∈ recL n L q → (askId (grL n L hP.good) n q x0 y = true ↔ Gr.Eqv (grL n L hP.good) q (fun i => y.getD i 0) (idF n L q hP.good)) := fun y hy => by
    obtain ⟨k1, k2, k3⟩ := recL_mem hP hy
    unfold askId
    rw [decide_eq_true_iff]
    have hiff := Gr.idp_iff (G := grL n L hP.good) hP.hq W hP.con h2 k2
    unfold idF
    rw [← hiff]
    constructor
    · intro e v hv _
      exact lst_inj (e.trans (lst_of h1)) v hv
    · intro e
      refine Eq.trans (lst_eqv hP.good (q := q) (fun v hv hne => e v hv hne) ?_) (lst_of h1).symm
      rw [Gr.stb_sink]; exact h3.symm
  refine find_only (id_mem hP) ((key _ (id_mem hP)).2 (fun v hv _ => lst_at _ hv)) (fun y hy hp => ?_)
  obtain ⟨k1, k2, k3⟩ := recL_mem hP hy
  rw [lst_of k1]
  exact lst_eqv hP.good ((key y hy).1 hp) (by rw [(id_pil hP).2]; exact k3)

set_option maxRecDepth 100000 in
set_option maxHeartbeats 2000000 in
theorem identityF_c (hP : PG n L q) (bt lb : Nat) (lv r r0 : Value) (x x0 : List Int) (g o len cap : Nat) (w : World) (hlv : lv = .slice (some ⟨g, o, none⟩) len cap) (hlen : 0 < len)
    (hp : RG w (.pointer (some ⟨p, 0, none⟩)) n L) (t0 : w.cell? ⟨bt, 0, none⟩ = some (.pointer (some ⟨p, 0, none⟩))) (t1 : w.cell? ⟨bt, 1, none⟩ = some (.int .i64 q)) (tl : w.cell? ⟨lb, 0, none⟩ = some lv) (tr : w.cell? ⟨g, o, none⟩ = some r0)
    (hr : RInts w r x) (h0 : RInts w r0 x0) (hx : x ∈ recL n L q) (hx0 : x0 ∈ recL n L q) :
    Calls Try.prog 82 (#[r] ++ #[.pointer (some ⟨bt, 0, none⟩), .pointer (some ⟨lb, 0, none⟩)]) w fun e w' => e = .returned (.bool (askId (grL n L hP.good) n q x0 x)) ∧ Below w.heap.size w w' := by
  show Calls Try.prog 82 #[r, .pointer (some ⟨bt, 0, none⟩), .pointer (some ⟨lb, 0, none⟩)] w _
  subst hlv
  have hn8 := hP.good.n8
  have hn1 := hP.good.n1
  obtain ⟨z1, e1⟩ := recL_pil hP hx
  obtain ⟨z0, e0⟩ := recL_pil hP hx0
  have HPW : Hid (RG w.drew (.pointer (some ⟨p, 0, none⟩)) n L) := hp
  have HX : Hid (RInts w.drew r (lst n (fun i => x.getD i 0))) := by rw [← e1]; exact hr
  have HX0 : Hid (RInts w.drew r0 (lst n (fun i => x0.getD i 0))) := by rw [← e0]; exact h0
  have HZ := hid (And.intro z0 z1)
  have hq0 := h0
  obtain ⟨a0, c0, rfl, _, _, _⟩ := h0
  obtain ⟨a1, c1, rfl, _, _, _⟩ := hr
  have hlz : (0 : Int) < (len : Int) := by omega
  have HQ0 := hid hq0
  have hl0 := cell_lt t0
  have hl1 := cell_lt tl
  have hl2 := cell_lt tr
  have HT := hid (And.intro t0 (And.intro t1 (And.intro tl tr)))
  clear hp z1 z0 e1 e0 hx hx0 hq0
  go_enter Try.func82, Try.ntmps82
  go_upto_region 1 with fail
  go_region_held3 (fun w' => w'.cell? ⟨bt, 0, none⟩ = some (.pointer (some ⟨p, 0, none⟩)) ∧ w'.cell? ⟨bt, 1, none⟩ = some (.int .i64 q) ∧ w'.cell? ⟨lb, 0, none⟩ = some (.slice (some ⟨g, o, none⟩) len cap) ∧ w'.cell? ⟨g, o, none⟩ = some (.slice a0 x0.length c0))
    (first | go_keep | exact ⟨(hb5.cell (p := ⟨bt, 0, none⟩) hl0).trans t0, (hb5.cell (p := ⟨bt, 1, none⟩) hl0).trans t1, (hb5.cell (p := ⟨lb, 0, none⟩) hl1).trans tl, (hb5.cell (p := ⟨g, o, none⟩) hl2).trans tr⟩ | exact ⟨(hb6.cell (p := ⟨bt, 0, none⟩) (Nat.lt_of_lt_of_le hl0 hb5.size)).trans ((hb5.cell (p := ⟨bt, 0, none⟩) hl0).trans t0), (hb6.cell (p := ⟨bt, 1, none⟩) (Nat.lt_of_lt_of_le hl0 hb5.size)).trans ((hb5.cell (p := ⟨bt, 1, none⟩) hl0).trans t1), (hb6.cell (p := ⟨lb, 0, none⟩) (Nat.lt_of_lt_of_le hl1 hb5.size)).trans ((hb5.cell (p := ⟨lb, 0, none⟩) hl1).trans tl), (hb6.cell (p := ⟨g, o, none⟩) (Nat.lt_of_lt_of_le hl2 hb5.size)).trans ((hb5.cell (p := ⟨g, o, none⟩) hl2).trans tr)⟩)
    (first
      | (go_at_call 44; (with_reducible refine (sum_c n q p _ _ L _ _ _ hP HPW.out HX0.out HX.out HZ.out.1 HZ.out.2).mono ?_); rintro e w5 ⟨u5, rfl, hF5, hb5⟩; have HF5 := hid hF5.r; have hb5' : Below w.heap.size w w5 := below_of_drew hb5; have HQ5 := hid (HQ0.out.keep hb5'); obtain ⟨a5, n5, c5, rfl⟩ := hF5.form3; clear hF5)
      | (go_at_call 53; (with_reducible refine (equal_c _ _ _ x0 _ HF5.out HQ5.out).mono ?_); rintro e w6 ⟨rfl, nd, rfl⟩; have hb6 : Below w5.heap.size w5 (w5.drewN nd) := below_drewN (Below.refl _ _) nd))
  have HBE := hid ((show Below w.heap.size w w5 from below_of_drew hb5).trans (hb6.mono (show w.heap.size ≤ w5.heap.size from hb5.size)))
  go_wp2
  go_ret
  exact ⟨rfl, HBE.out⟩

end Go.Proofs.Ytifdhapaonideaa

/- Piles: the program's identity; IdentityPile of the program. -/
namespace Go.Proofs.Ytifdhapaonideaa
open Go.RowKit
open Go.Lib (hid)

variable {n q p : Nat} {L : List Lnk}
theorem recL_ne (hP : PG n L q) : ∃ x0 xs, recL n L q = x0 :: xs := by
  cases h : recL n L q with
  | nil => have := id_mem hP; rw [h] at this; simp at this
  | cons x xs => exact ⟨x, xs, rfl⟩

set_option maxRecDepth 100000 in
set_option maxHeartbeats 2000000 in
theorem identity_c (hP : PG n L q) (w : World) (hp : RG w (.pointer (some ⟨p, 0, none⟩)) n L) :
    Calls Try.prog 49 #[.agg #[.pointer (some ⟨p, 0, none⟩), .int .i64 q]] w (RetInts w (lst n (idF n L q hP.good))) := by
  have hn8 := hP.good.n8
  have hn1 := hP.good.n1
  obtain ⟨x0, xs, hcons⟩ := recL_ne hP
  have hm0 : x0 ∈ recL n L q := by rw [hcons]; simp
  obtain ⟨k, hk1, hk2, hk3⟩ := findB_at (askId (grL n L hP.good) n q x0) [] _ (recL n L q) 0 (id_find hP hm0)
  rw [Nat.zero_add] at hk1
  have hx0 : (recL n L q).getD 0 [] = x0 := by rw [hcons]; rfl
  have HK := hid (And.intro hk1 hk3)
  have HX0 := hid (And.intro hx0 hm0)
  obtain ⟨b0, b1, hal⟩ := tpar w p q
  obtain ⟨wb, hwb⟩ : ∃ wb : World, wb = w.alloc (.cells #[.pointer (some ⟨p, 0, none⟩), .int .i64 q] 54) := ⟨_, rfl⟩
  rw [← hwb] at b0 b1 hal
  have HWB := hid hwb
  have HAL := hid hal
  have HPB := hid (hp.keep hal)
  have HBX := hid (And.intro b0 b1)
  clear hp hwb hal hcons hm0 hk1 hk3 hx0
  go_enter Try.func49, Try.ntmps49
  go_wp2_with fail
  rw [← HWB.out]
  refine (recurrent_c hP _ HPB.out).mono ?_
  rintro e w1 ⟨u, rfl, hF, hb1⟩
  obtain ⟨gL, cL, rfl, hg1, hg2⟩ := hF.form_some (by omega)
  obtain ⟨len, hlen⟩ : ∃ len, (recL n L q).length = len := ⟨_, rfl⟩
  have hF' := hF
  rw [hlen] at hk2 hF' ⊢
  have hal2 : Below w1.heap.size w1 (w1.alloc (.cells #[.slice (some ⟨gL, 0, none⟩) len cL] 44)) := (Below.refl _ _).alloc (Nat.le_refl _) _
  obtain ⟨w2, hw2⟩ : ∃ w2 : World, w2 = w1.alloc (.cells #[.slice (some ⟨gL, 0, none⟩) len cL] 44) := ⟨_, rfl⟩
  have tl : w2.cell? ⟨w1.heap.size, 0, none⟩ = some (.slice (some ⟨gL, 0, none⟩) len cL) := by rw [hw2]; exact cell_new _ _ _
  rw [← hw2] at hal2
  have HW2 := hid hw2
  have hb02 := hb1.trans (hal2.mono hb1.size)
  have HB2 := hid hb02
  have HF2 := hid ((hF.keep hal2).mono (Nat.le_refl _) hal2.size)
  obtain ⟨g0, r0, y0, he0, _, _, tr, _, hr0, HY0, _⟩ := (HF2.out).at (i := 0) (by omega)
  simp only [Option.some.injEq, Addr.mk.injEq, and_true] at he0
  subst he0
  obtain ⟨gk, rk, yk, hek, _, _, trk, _, hrk, HYK, _⟩ := (HF2.out).at (i := k) (by omega)
  simp only [Option.some.injEq, Addr.mk.injEq, and_true] at hek
  subst hek
  have hy0 : y0 = x0 := by rw [← HY0.out]; exact HX0.out.1
  have hyk : yk = lst n (idF n L q hP.good) := by rw [← HYK.out]; exact HK.out.2
  subst hy0
  subst hyk
  have HR0 := hid hr0.r
  have HRK := hid hrk
  have HTR := hid (And.intro tl (And.intro tr trk))
  have hkz : (k : Int) < (len : Int) := by omega
  have hlen0 : 0 < len := by omega
  have c0 := (hb02.cell (p := ⟨w.heap.size, 0, none⟩) (cell_lt HBX.out.1)).trans HBX.out.1
  have c1 := (hb02.cell (p := ⟨w.heap.size, 1, none⟩) (cell_lt HBX.out.2)).trans HBX.out.2
  have HCC := hid (And.intro c0 c1)
  have HPW := hid (HPB.out.keep hb02)
  have hl1 := cell_lt tl
  have hl2 := cell_lt trk
  have HMR := hid (show RMat w2.drew (.slice (some ⟨gL, 0, none⟩) len cL) (recL n L q) by have := HF2.out.r; rw [← hlen]; exact this)
  have hforms : ∃ ak ck, rk = .slice (some ⟨ak, 0, none⟩) n ck := by obtain ⟨ak, ck, h, _⟩ := fi_form hrk (by omega); exact ⟨ak, ck, h⟩
  obtain ⟨ak, ck, rfl⟩ := hforms
  obtain ⟨LB, hLB⟩ : ∃ LB, w1.heap.size = LB := ⟨_, rfl⟩
  rw [hLB] at tl HTR hl1
  have HLEN := hid hlen
  have hcl : ∀ r x w', Below w2.drew.heap.size w2.drew w' → RInts w' r x → x ∈ recL n L q → Calls Try.prog 82 (#[r] ++ #[.pointer (some ⟨w.heap.size, 0, none⟩), .pointer (some ⟨LB, 0, none⟩)]) w' fun e w'' => e = .returned (.bool (askId (grL n L hP.good) n q y0 x)) ∧ Below w'.heap.size w' w'' := fun r x w' hbw hr hx => by
    have hbw' : Below w2.heap.size w2 w' := below_of_drew hbw
    exact identityF_c hP w.heap.size LB _ r r0 x y0 gL 0 len cL w' rfl hlen0 (HPW.out.keep hbw') ((hbw'.cell (p := ⟨w.heap.size, 0, none⟩) (cell_lt HCC.out.1)).trans HCC.out.1) ((hbw'.cell (p := ⟨w.heap.size, 1, none⟩) (cell_lt HCC.out.2)).trans HCC.out.2) ((hbw'.cell (p := ⟨LB, 0, none⟩) hl1).trans HTR.out.1) ((hbw'.cell (p := ⟨gL, 0, none⟩) (cell_lt HTR.out.2.1)).trans HTR.out.2.1) hr (HR0.out.keep hbw') hx HX0.out.2
  have HCL := hid hcl
  clear hF hF' hb1 hw2 hal2 hb02 hr0 hrk HY0 HYK hlen hcl tr
  go_upto_region 2 with fail
  rw [← HW2.out]
  clear hLB
  go_region_held3 (fun w' => w'.cell? ⟨LB, 0, none⟩ = some (.slice (some ⟨gL, 0, none⟩) len cL) ∧ w'.cell? ⟨gL, k, none⟩ = some (.slice (some ⟨ak, 0, none⟩) n ck))
    (first | go_keep | exact ⟨e6, e5⟩)
    ((go_at_call 51; (with_reducible refine (indexFuncMB_c _ (recL n L q) _ _ _ (askId (grL n L hP.good) n q y0) HMR.out Try.call82 HCL.out).mono ?_); rintro e w5 ⟨rfl, hb5⟩; rw [HK.out.1]; have e5 := (hb5.cell (p := ⟨gL, k, none⟩) hl2).trans HTR.out.2.2; have e6 := (hb5.cell (p := ⟨LB, 0, none⟩) hl1).trans HTR.out.1))
  have hb5' : Below w2.heap.size w2 w5 := below_of_drew hb5
  have HEND := hid (HAL.out.trans ((HB2.out.trans (hb5'.mono HB2.out.size)).mono HAL.out.size))
  have hz := HAL.out.size
  have HRE := hid (show FInts w5 w.heap.size w5.heap.size (.slice (some ⟨ak, 0, none⟩) n ck) (lst n (idF n L q hP.good)) from (HRK.out.keep hb5').mono hz hb5'.size)
  clear hb5'
  all_goals go_wp2
  all_goals go_ret
  all_goals exact ⟨_, rfl, HRE.out, HEND.out⟩

set_option maxRecDepth 100000 in
set_option maxHeartbeats 1000000 in
theorem iIdentityPile_u (n : Int) (v : Value) (L : List Lnk) (q : Int) (w : World) (h : RLinks w v L) :
    Calls Try.prog 22 #[.int .i64 n, v, .int .i64 q] w (RetIB w (idpB n L q)) := by
  have HR := hid h
  obtain ⟨a, cap, rfl⟩ := h.form
  clear h
  rcases Bool.eq_false_or_eq_true (piGB n L q) with t1 | t1
  · obtain ⟨m, k, hn, hq, hm, hk, hP⟩ := piGB_nat t1
    have hy := idpB_yes t1
    rw [hm, hk, idL_eq hP.good] at hy
    subst hn
    subst hq
    have HY := hid hy
    clear hm hk hy
    go_enter Try.func22, Try.ntmps22
    go_wp2_with fail
    refine (tableOf_yes m k _ L _ HR.out t1).mono ?_
    rintro e w1 ⟨g, rfl, hg, hb1, -⟩
    have hal : Below w1.heap.size w1 (w1.alloc (.cells #[.pointer (some ⟨g, 0, none⟩), .int .i64 k] 54)) := (Below.refl _ _).alloc (Nat.le_refl _) _
    have HG := hid (hg.keep hal)
    have HB1 := hid (hb1.trans (hal.mono hb1.size))
    clear hg hb1 hal
    go_wp2_with fail
    refine (identity_c hP _ HG.out).mono ?_
    rintro e w2 ⟨u, rfl, hF, hb2⟩
    have HF := hid (hF.mono HB1.out.size (Nat.le_refl _))
    have HB2 := hid (HB1.out.trans (hb2.mono HB1.out.size))
    obtain ⟨a3, n3, c3, rfl⟩ := hF.form3
    clear hF hb2
    go_wp2
    go_ret2
    exact ⟨_, by rw [HY.out]; rfl, by rw [HY.out]; exact HF.out, HB2.out⟩
  · have HE := hid (idpB_no t1)
    go_enter Try.func22, Try.ntmps22
    go_wp2_with fail
    refine (tableOf_no n q _ L _ HR.out t1).mono ?_
    rintro e w1 ⟨ap, x, rfl, hb1⟩
    have HB := hid (hb1.alloc hb1.size (.cells #[.pointer ap, .int .i64 x] 54))
    clear hb1
    go_wp2
    go_ret2
    exact ⟨_, by rw [HE.out]; rfl, by rw [HE.out]; exact ints_nil _ _ _, HB.out⟩

end Go.Proofs.Ytifdhapaonideaa

/- Piles: the program's withRecurrent; OrderOfPile of the program. -/
namespace Go.Proofs.Ytifdhapaonideaa
open Go.RowKit
open Go.Lib (hid)

/-- a region of withRecurrent, the end of each way -/
theorem rb_split {n q : Int} {L : List Lnk} {d : List Int} (h : piRB n L q d = false) : piAB n L q d = false ∨ (piAB n L q d = true ∧ stB n.toNat L q.toNat (fun i => d.getD i 0) = false) ∨ (piAB n L q d = true ∧ stB n.toNat L q.toNat (fun i => d.getD i 0) = true ∧ recB n.toNat L q.toNat (fun i => d.getD i 0) = false) := by
  unfold piRB piSB at h
  cases h1 : piAB n L q d with
  | false => exact .inl rfl
  | true =>
    cases h2 : stB n.toNat L q.toNat (fun i => d.getD i 0) with
    | false => exact .inr (.inl ⟨rfl, rfl⟩)
    | true =>
      rw [h1, h2] at h
      exact .inr (.inr ⟨rfl, rfl, by simpa using h⟩)

set_option maxRecDepth 100000 in
set_option maxHeartbeats 4000000 in
theorem withRecY_c (m k : Nat) (v u : Value) (L : List Lnk) (d : List Int) (w : World) (h : RLinks w v L) (hd : RInts w u d) (hA : piAB (m : Int) L (k : Int) d = true)
    (hs1 : stB m L k (fun i => d.getD i 0) = true) (hs2 : recB m L k (fun i => d.getD i 0) = true) :
    Calls Try.prog 48 #[.int .i64 m, v, .int .i64 k, u] w (RetT w m L k) := by
  obtain ⟨m2, k2, hm2, hk2, -, -, hP, hl, hz, -⟩ := piAB_parts hA
  have e1 : m2 = m := by omega
  have e2 : k2 = k := by omega
  subst e1
  subst e2
  have HR := hid h
  have HD := hid hd
  obtain ⟨a, cap, rfl⟩ := h.form
  obtain ⟨a2, cap2, rfl, _, _, hc⟩ := hd
  have hal : Below w.heap.size w (w.alloc (.cells #[.pointer none, .int .i64 0] 54)) := (Below.refl _ _).alloc (Nat.le_refl _) _
  have HAL := hid hal
  obtain ⟨hm1, hal2⟩ := rmat_one (HD.out.keep hal)
  rw [World.size_alloc] at hm1
  have HM := hid hm1
  have hlow : Below w.heap.size w ((w.alloc (.cells #[.pointer none, .int .i64 0] 54)).alloc (.cells #[.slice a2 d.length cap2] 25)) := hal.trans (hal2.mono (by simp))
  have HLOW := hid hlow
  have HAL2 := hid hal2
  have HDL := hid (rints_lst HD.out hl)
  have HZ := hid hz
  have HA := hid hA
  have HS1 := hid hs1
  have HS2 := hid hs2
  clear hs2
  clear h hc hal hal2 hm1 hlow hm2 hk2 hl hz hA hs1
  go_enter Try.func48, Try.ntmps48
  go_wp2_with fail
  refine (withPile_yes m2 k2 _ _ L d _ (HR.out.keep HLOW.out) HM.out HA.out).mono ?_
  rintro e w1 ⟨g, rfl, hg, hb1, hfar⟩
  obtain ⟨c0, c1, hw2⟩ := tnew w1 (some ⟨g, 0, none⟩) k2
  obtain ⟨w2, hww⟩ : ∃ w2 : World, w2 = (w1.alloc (.cells #[.pointer (some ⟨g, 0, none⟩), .int .i64 k2] 54)) := ⟨_, rfl⟩
  rw [← hww] at hw2 c0 c1
  have HFAR := hid hfar
  have HB1 := hid hb1
  have HW2 := hid hw2
  have HWW := hid hww
  have hb02 := HAL2.out.trans ((hb1.trans (hw2.mono hb1.size)).mono HAL2.out.size)
  have HB02 := hid hb02
  have HRG := hid (show RG w2.drew (.pointer (some ⟨g, 0, none⟩)) m2 L by have := hg.keep hw2; exact this)
  have HDD := hid (show RInts w2.drew (.slice a2 d.length cap2) (lst m2 (fun i => d.getD i 0)) by have := (HDL.out.keep HAL.out).keep hb02; exact this)
  have HC := hid (And.intro c0 c1)
  have hlt1 := cell_lt c0
  obtain ⟨BX, hBX⟩ : ∃ BX, w1.heap.size = BX := ⟨_, rfl⟩
  rw [hBX] at c0 c1 HC hlt1
  have hz01 : ((w.alloc (.cells #[.pointer none, .int .i64 0] 54)).alloc (.cells #[.slice a2 d.length cap2] 25)).heap.size = w.heap.size + 2 := by simp
  have hz1 : w.heap.size + 1 ≤ w1.heap.size := by have := HB1.out.size; omega
  clear hz01
  have hne : BX ≠ w.heap.size := by omega
  have hne' : w.heap.size ≠ BX := fun e => hne e.symm
  clear hww hb1 hw2 hb02 hg hfar
  go_upto_region 2 with fail
  rw [← HWW.out]
  clear hBX
  go_region_held3 (fun w' => w'.cell? ⟨BX, 0, none⟩ = some (.pointer (some ⟨g, 0, none⟩)) ∧ w'.cell? ⟨BX, 1, none⟩ = some (.int .i64 k2))
    (first | go_keep | exact ⟨m0, m1⟩ | exact ⟨n0, n1⟩)
    (first
      | (go_at_call 41; (with_reducible refine (isStable_c m2 k2 g L _ _ _ HRG.out hP.good HDD.out).mono ?_); rintro e w5 ⟨rfl, hb5⟩; rw [HS1.out]; have hb5' : Below w2.heap.size w2 w5 := below_of_drew hb5; have m0 := (hb5'.cell (p := ⟨BX, 0, none⟩) hlt1).trans HC.out.1; have m1 := (hb5'.cell (p := ⟨BX, 1, none⟩) hlt1).trans HC.out.2; have HRG5 := hid (HRG.out.keep hb5); have HDD5 := hid (HDD.out.keep hb5); have HST5 := hid ((stB_iff hP.good).1 HS1.out))
      | (go_at_call 57; (with_reducible refine (isRecurrent_c m2 k2 g _ L _ _ hP HRG5.out HDD5.out (HZ.out.mono (by decide)) HST5.out).mono ?_); rintro e w6 ⟨rfl, hb6⟩; rw [HS2.out]; have hb6' : Below w2.heap.size w2 w6 := hb5'.trans (hb6.mono hb5'.size); have n0 := (hb6'.cell (p := ⟨BX, 0, none⟩) hlt1).trans HC.out.1; have n1 := (hb6'.cell (p := ⟨BX, 1, none⟩) hlt1).trans HC.out.2; obtain ⟨k1, k2', k3, k4⟩ := tbox (w := w) rfl rfl (HB02.out.trans (hb6'.mono HB02.out.size))))
  have hz2 := HW2.out.size
  have hz6 := hb6'.size
  have hk : ∀ b', w.heap.size + 1 ≤ b' → b' < w1.heap.size → ((w6.setCell ⟨w.heap.size, 0, none⟩ (.pointer (some ⟨g, 0, none⟩))).setCell ⟨w.heap.size, 1, none⟩ (.int .i64 k2)).heap[b']? = w1.heap[b']? := fun b' h1 h2 => by
    rw [heap_setCell_other _ _ _ _ (by show b' ≠ w.heap.size; omega), heap_setCell_other _ _ _ _ (by show b' ≠ w.heap.size; omega), hb6'.block b' (by omega), HW2.out.block b' (by omega)]
  have hsz : ((w6.setCell ⟨w.heap.size, 0, none⟩ (.pointer (some ⟨g, 0, none⟩))).setCell ⟨w.heap.size, 1, none⟩ (.int .i64 k2)).heap.size = w6.heap.size := by simp [World.setCell]
  have hz3 : ((w.alloc (.cells #[.pointer none, .int .i64 0] 54)).alloc (.cells #[.slice a2 d.length cap2] 25)).heap.size = w.heap.size + 2 := by simp
  have hfar2 := HFAR.out _ (fun b' h1 h2 _ => hk b' (by omega) h2)
  have hbe := tbox_none (w := w) (o := .cells #[.pointer none, .int .i64 0] 54) rfl (HB02.out.trans (hb6'.mono HB02.out.size)) (.pointer (some ⟨g, 0, none⟩)) (.int .i64 k2)
  have HEND := hid (And.intro hfar2 (And.intro hbe (fun w'' (hs : Same w.heap.size ((w6.setCell ⟨w.heap.size, 0, none⟩ (.pointer (some ⟨g, 0, none⟩))).setCell ⟨w.heap.size, 1, none⟩ (.int .i64 k2)).heap.size ((w6.setCell ⟨w.heap.size, 0, none⟩ (.pointer (some ⟨g, 0, none⟩))).setCell ⟨w.heap.size, 1, none⟩ (.int .i64 k2)) w'') => HFAR.out w'' (fun b' h1 h2 _ => (hs b' (by omega) (by omega) (by omega)).trans (hk b' (by omega) h2)))))
  clear hk hsz hfar2 hbe hz1 hz2 hz3 hz6
  go_wp2
  refine bodyPost_ret (v := .tuple #[.agg #[.pointer (some ⟨g, 0, none⟩), .int .i64 k2], .bool true]) (by simp [results, Try.results48, go_sem, k1, k2']) rfl ?_
  exact ⟨g, rfl, HEND.out⟩
set_option maxRecDepth 100000 in
set_option maxHeartbeats 4000000 in
theorem withRecS_c (m k : Nat) (v u : Value) (L : List Lnk) (d : List Int) (w : World) (h : RLinks w v L) (hd : RInts w u d) (hA : piAB (m : Int) L (k : Int) d = true)
    (hs1 : stB m L k (fun i => d.getD i 0) = false) :
    Calls Try.prog 48 #[.int .i64 m, v, .int .i64 k, u] w (RetNoT w) := by
  obtain ⟨m2, k2, hm2, hk2, -, -, hP, hl, hz, -⟩ := piAB_parts hA
  have e1 : m2 = m := by omega
  have e2 : k2 = k := by omega
  subst e1
  subst e2
  have HR := hid h
  have HD := hid hd
  obtain ⟨a, cap, rfl⟩ := h.form
  obtain ⟨a2, cap2, rfl, _, _, hc⟩ := hd
  have hal : Below w.heap.size w (w.alloc (.cells #[.pointer none, .int .i64 0] 54)) := (Below.refl _ _).alloc (Nat.le_refl _) _
  have HAL := hid hal
  obtain ⟨hm1, hal2⟩ := rmat_one (HD.out.keep hal)
  rw [World.size_alloc] at hm1
  have HM := hid hm1
  have hlow : Below w.heap.size w ((w.alloc (.cells #[.pointer none, .int .i64 0] 54)).alloc (.cells #[.slice a2 d.length cap2] 25)) := hal.trans (hal2.mono (by simp))
  have HLOW := hid hlow
  have HAL2 := hid hal2
  have HDL := hid (rints_lst HD.out hl)
  have HZ := hid hz
  have HA := hid hA
  have HS1 := hid hs1
  clear h hc hal hal2 hm1 hlow hm2 hk2 hl hz hA hs1
  go_enter Try.func48, Try.ntmps48
  go_wp2_with fail
  refine (withPile_yes m2 k2 _ _ L d _ (HR.out.keep HLOW.out) HM.out HA.out).mono ?_
  rintro e w1 ⟨g, rfl, hg, hb1, hfar⟩
  obtain ⟨c0, c1, hw2⟩ := tnew w1 (some ⟨g, 0, none⟩) k2
  obtain ⟨w2, hww⟩ : ∃ w2 : World, w2 = (w1.alloc (.cells #[.pointer (some ⟨g, 0, none⟩), .int .i64 k2] 54)) := ⟨_, rfl⟩
  rw [← hww] at hw2 c0 c1
  have HFAR := hid hfar
  have HB1 := hid hb1
  have HW2 := hid hw2
  have HWW := hid hww
  have hb02 := HAL2.out.trans ((hb1.trans (hw2.mono hb1.size)).mono HAL2.out.size)
  have HB02 := hid hb02
  have HRG := hid (show RG w2.drew (.pointer (some ⟨g, 0, none⟩)) m2 L by have := hg.keep hw2; exact this)
  have HDD := hid (show RInts w2.drew (.slice a2 d.length cap2) (lst m2 (fun i => d.getD i 0)) by have := (HDL.out.keep HAL.out).keep hb02; exact this)
  have HC := hid (And.intro c0 c1)
  have hlt1 := cell_lt c0
  obtain ⟨BX, hBX⟩ : ∃ BX, w1.heap.size = BX := ⟨_, rfl⟩
  rw [hBX] at c0 c1 HC hlt1
  have hz01 : ((w.alloc (.cells #[.pointer none, .int .i64 0] 54)).alloc (.cells #[.slice a2 d.length cap2] 25)).heap.size = w.heap.size + 2 := by simp
  have hz1 : w.heap.size + 1 ≤ w1.heap.size := by have := HB1.out.size; omega
  clear hz01
  have hne : BX ≠ w.heap.size := by omega
  have hne' : w.heap.size ≠ BX := fun e => hne e.symm
  clear hww hb1 hw2 hb02 hg hfar
  go_upto_region 2 with fail
  rw [← HWW.out]
  clear hBX
  first
    | (go_region_with (go_at_call 41; (with_reducible refine (isStable_c m2 k2 g L _ _ _ HRG.out hP.good HDD.out).mono ?_); rintro e w5 ⟨rfl, hb5⟩; rw [HS1.out]; have hb5' : Below w2.heap.size w2 w5 := below_of_drew hb5; obtain ⟨k1, k2', k3, k4⟩ := tbox (w := w) rfl rfl (HB02.out.trans (hb5'.mono HB02.out.size)); have m0 := (hb5'.cell (p := ⟨BX, 0, none⟩) hlt1).trans HC.out.1; have m1 := (hb5'.cell (p := ⟨BX, 1, none⟩) hlt1).trans HC.out.2))
    | fail
  all_goals
    have HEND := hid (tbox_none (w := w) (o := .cells #[.pointer none, .int .i64 0] 54) rfl (HB02.out.trans (hb5'.mono HB02.out.size)) (.pointer (some ⟨g, 0, none⟩)) (.int .i64 k2))
    go_wp2
    refine bodyPost_ret (v := .tuple #[.agg #[.pointer (some ⟨g, 0, none⟩), .int .i64 k2], .bool false]) (by simp [results, Try.results48, go_sem, k1, k2']) rfl ?_
    exact ⟨_, _, rfl, HEND.out⟩
set_option maxRecDepth 100000 in
set_option maxHeartbeats 4000000 in
theorem withRecR_c (m k : Nat) (v u : Value) (L : List Lnk) (d : List Int) (w : World) (h : RLinks w v L) (hd : RInts w u d) (hA : piAB (m : Int) L (k : Int) d = true)
    (hs1 : stB m L k (fun i => d.getD i 0) = true) (hs2 : recB m L k (fun i => d.getD i 0) = false) :
    Calls Try.prog 48 #[.int .i64 m, v, .int .i64 k, u] w (RetNoT w) := by
  obtain ⟨m2, k2, hm2, hk2, -, -, hP, hl, hz, -⟩ := piAB_parts hA
  have e1 : m2 = m := by omega
  have e2 : k2 = k := by omega
  subst e1
  subst e2
  have HR := hid h
  have HD := hid hd
  obtain ⟨a, cap, rfl⟩ := h.form
  obtain ⟨a2, cap2, rfl, _, _, hc⟩ := hd
  have hal : Below w.heap.size w (w.alloc (.cells #[.pointer none, .int .i64 0] 54)) := (Below.refl _ _).alloc (Nat.le_refl _) _
  have HAL := hid hal
  obtain ⟨hm1, hal2⟩ := rmat_one (HD.out.keep hal)
  rw [World.size_alloc] at hm1
  have HM := hid hm1
  have hlow : Below w.heap.size w ((w.alloc (.cells #[.pointer none, .int .i64 0] 54)).alloc (.cells #[.slice a2 d.length cap2] 25)) := hal.trans (hal2.mono (by simp))
  have HLOW := hid hlow
  have HAL2 := hid hal2
  have HDL := hid (rints_lst HD.out hl)
  have HZ := hid hz
  have HA := hid hA
  have HS1 := hid hs1
  have HS2 := hid hs2
  clear hs2
  clear h hc hal hal2 hm1 hlow hm2 hk2 hl hz hA hs1
  go_enter Try.func48, Try.ntmps48
  go_wp2_with fail
  refine (withPile_yes m2 k2 _ _ L d _ (HR.out.keep HLOW.out) HM.out HA.out).mono ?_
  rintro e w1 ⟨g, rfl, hg, hb1, hfar⟩
  obtain ⟨c0, c1, hw2⟩ := tnew w1 (some ⟨g, 0, none⟩) k2
  obtain ⟨w2, hww⟩ : ∃ w2 : World, w2 = (w1.alloc (.cells #[.pointer (some ⟨g, 0, none⟩), .int .i64 k2] 54)) := ⟨_, rfl⟩
  rw [← hww] at hw2 c0 c1
  have HFAR := hid hfar
  have HB1 := hid hb1
  have HW2 := hid hw2
  have HWW := hid hww
  have hb02 := HAL2.out.trans ((hb1.trans (hw2.mono hb1.size)).mono HAL2.out.size)
  have HB02 := hid hb02
  have HRG := hid (show RG w2.drew (.pointer (some ⟨g, 0, none⟩)) m2 L by have := hg.keep hw2; exact this)
  have HDD := hid (show RInts w2.drew (.slice a2 d.length cap2) (lst m2 (fun i => d.getD i 0)) by have := (HDL.out.keep HAL.out).keep hb02; exact this)
  have HC := hid (And.intro c0 c1)
  have hlt1 := cell_lt c0
  obtain ⟨BX, hBX⟩ : ∃ BX, w1.heap.size = BX := ⟨_, rfl⟩
  rw [hBX] at c0 c1 HC hlt1
  have hz01 : ((w.alloc (.cells #[.pointer none, .int .i64 0] 54)).alloc (.cells #[.slice a2 d.length cap2] 25)).heap.size = w.heap.size + 2 := by simp
  have hz1 : w.heap.size + 1 ≤ w1.heap.size := by have := HB1.out.size; omega
  clear hz01
  have hne : BX ≠ w.heap.size := by omega
  have hne' : w.heap.size ≠ BX := fun e => hne e.symm
  clear hww hb1 hw2 hb02 hg hfar
  go_upto_region 2 with fail
  rw [← HWW.out]
  clear hBX
  go_region_held3 (fun w' => w'.cell? ⟨BX, 0, none⟩ = some (.pointer (some ⟨g, 0, none⟩)) ∧ w'.cell? ⟨BX, 1, none⟩ = some (.int .i64 k2))
    (first | go_keep | exact ⟨m0, m1⟩ | exact ⟨n0, n1⟩)
    (first
      | (go_at_call 41; (with_reducible refine (isStable_c m2 k2 g L _ _ _ HRG.out hP.good HDD.out).mono ?_); rintro e w5 ⟨rfl, hb5⟩; rw [HS1.out]; have hb5' : Below w2.heap.size w2 w5 := below_of_drew hb5; have m0 := (hb5'.cell (p := ⟨BX, 0, none⟩) hlt1).trans HC.out.1; have m1 := (hb5'.cell (p := ⟨BX, 1, none⟩) hlt1).trans HC.out.2; have HRG5 := hid (HRG.out.keep hb5); have HDD5 := hid (HDD.out.keep hb5); have HST5 := hid ((stB_iff hP.good).1 HS1.out))
      | (go_at_call 57; (with_reducible refine (isRecurrent_c m2 k2 g _ L _ _ hP HRG5.out HDD5.out (HZ.out.mono (by decide)) HST5.out).mono ?_); rintro e w6 ⟨rfl, hb6⟩; rw [HS2.out]; have hb6' : Below w2.heap.size w2 w6 := hb5'.trans (hb6.mono hb5'.size); have n0 := (hb6'.cell (p := ⟨BX, 0, none⟩) hlt1).trans HC.out.1; have n1 := (hb6'.cell (p := ⟨BX, 1, none⟩) hlt1).trans HC.out.2; obtain ⟨k1, k2', k3, k4⟩ := tbox (w := w) rfl rfl (HB02.out.trans (hb6'.mono HB02.out.size))))
  have HEND := hid (tbox_none (w := w) (o := .cells #[.pointer none, .int .i64 0] 54) rfl (HB02.out.trans (hb6'.mono HB02.out.size)) (.pointer (some ⟨g, 0, none⟩)) (.int .i64 k2))
  go_wp2
  refine bodyPost_ret (v := .tuple #[.agg #[.pointer (some ⟨g, 0, none⟩), .int .i64 k2], .bool false]) (by simp [results, Try.results48, go_sem, k1, k2']) rfl ?_
  exact ⟨_, _, rfl, HEND.out⟩

end Go.Proofs.Ytifdhapaonideaa

/- Piles: OrderOfPile of the program. -/
namespace Go.Proofs.Ytifdhapaonideaa
open Go.RowKit
open Go.Lib (hid)

set_option maxRecDepth 100000 in
set_option maxHeartbeats 4000000 in
theorem withRecN_c (n q : Int) (v u : Value) (L : List Lnk) (d : List Int) (w : World) (h : RLinks w v L) (hd : RInts w u d) (hs : piAB n L q d = false) :
    Calls Try.prog 48 #[.int .i64 n, v, .int .i64 q, u] w (RetNoT w) := by
  have HR := hid h
  have HD := hid hd
  obtain ⟨a, cap, rfl⟩ := h.form
  obtain ⟨a2, cap2, rfl, _, _, hc⟩ := hd
  have hal : Below w.heap.size w (w.alloc (.cells #[.pointer none, .int .i64 0] 54)) := (Below.refl _ _).alloc (Nat.le_refl _) _
  have HAL := hid hal
  obtain ⟨hm1, hal2⟩ := rmat_one (HD.out.keep hal)
  rw [World.size_alloc] at hm1
  have HM := hid hm1
  have hlow : Below w.heap.size w ((w.alloc (.cells #[.pointer none, .int .i64 0] 54)).alloc (.cells #[.slice a2 d.length cap2] 25)) := hal.trans (hal2.mono (by simp))
  have HLOW := hid hlow
  have HAL2 := hid hal2
  clear h hc hal hal2 hm1 hlow
  go_enter Try.func48, Try.ntmps48
  go_wp2_with fail
  refine (withPile_no n q _ _ L d _ (HR.out.keep HLOW.out) HM.out hs).mono ?_
  rintro e w1 ⟨ap, x, rfl, hb1⟩
  obtain ⟨c0, c1, hw2⟩ := tnew w1 ap x
  obtain ⟨w2, hww⟩ : ∃ w2 : World, w2 = (w1.alloc (.cells #[.pointer ap, .int .i64 x] 54)) := ⟨_, rfl⟩
  rw [← hww] at hw2 c0 c1
  have hb02 := HAL2.out.trans ((hb1.trans (hw2.mono hb1.size)).mono HAL2.out.size)
  obtain ⟨k1, k2, k3, k4⟩ := tbox rfl rfl hb02
  have HWW := hid hww
  have HEND := hid (fun v u => tbox_none rfl hb02 v u)
  have hz01 : ((w.alloc (.cells #[.pointer none, .int .i64 0] 54)).alloc (.cells #[.slice a2 d.length cap2] 25)).heap.size = w.heap.size + 2 := by simp
  have hz1 : w.heap.size + 1 ≤ w1.heap.size := by have := hb1.size; omega
  obtain ⟨BX, hBX⟩ : ∃ BX, w1.heap.size = BX := ⟨_, rfl⟩
  rw [hBX] at c0 c1
  have hne : BX ≠ w.heap.size := by omega
  have hne' : w.heap.size ≠ BX := fun e => hne e.symm
  have HE2 : Hid (Below w.heap.size w ((w2.setCell ⟨w.heap.size, 0, none⟩ (.pointer ap)).setCell ⟨w.heap.size, 1, none⟩ (.int .i64 x)).drew) := by
    have := HEND.out (.pointer ap) (.int .i64 x)
    exact ⟨this.os, this.tape, this.output, this.size, this.block⟩
  clear hww hb1 hw2 hb02 hz01
  go_upto_region 2 with fail
  rw [← HWW.out]
  clear hBX hz1
  first
    | (go_region_with (fail))
    | fail
  all_goals
    go_wp2
    refine bodyPost_ret (v := .tuple #[.agg #[.pointer ap, .int .i64 x], .bool false]) (by simp [results, Try.results48, go_sem, k1, k2]) rfl ?_
    exact ⟨_, _, rfl, HE2.out⟩

theorem withRec_no (n q : Int) (v u : Value) (L : List Lnk) (d : List Int) (w : World) (h : RLinks w v L) (hd : RInts w u d) (hs : piRB n L q d = false) :
    Calls Try.prog 48 #[.int .i64 n, v, .int .i64 q, u] w (RetNoT w) := by
  rcases rb_split hs with h1 | ⟨h1, h2⟩ | ⟨h1, h2, h3⟩
  · exact withRecN_c n q v u L d w h hd h1
  · obtain ⟨m, k, hn, hq, hm, hk, _⟩ := piAB_parts h1
    rw [hm, hk] at h2
    subst hn
    subst hq
    exact withRecS_c m k v u L d w h hd h1 h2
  · obtain ⟨m, k, hn, hq, hm, hk, _⟩ := piAB_parts h1
    rw [hm, hk] at h2 h3
    subst hn
    subst hq
    exact withRecR_c m k v u L d w h hd h1 h2 h3
theorem withRec_yes (m k : Nat) (v u : Value) (L : List Lnk) (d : List Int) (w : World) (h : RLinks w v L) (hd : RInts w u d) (hs : piRB (m : Int) L (k : Int) d = true) :
    Calls Try.prog 48 #[.int .i64 m, v, .int .i64 k, u] w (RetT w m L k) := by
  unfold piRB piSB at hs
  simp only [Bool.and_eq_true, Int.toNat_natCast] at hs
  exact withRecY_c m k v u L d w h hd hs.1.1 hs.1.2 hs.2

set_option maxRecDepth 100000 in
set_option maxHeartbeats 2000000 in
theorem iOrderOfPile_u (n : Int) (v : Value) (L : List Lnk) (q : Int) (u : Value) (d : List Int) (w : World) (h : RLinks w v L) (hd : RInts w u d) :
    Calls Try.prog 18 #[.int .i64 n, v, .int .i64 q, u] w (RetZC w (orpB n L q d)) := by
  have HR := hid h
  have HD := hid hd
  obtain ⟨a, cap, rfl⟩ := h.form
  obtain ⟨a2, cap2, rfl, _, _, hc⟩ := hd
  clear h hc
  rcases Bool.eq_false_or_eq_true (piRB n L q d) with t1 | t1
  · obtain ⟨m, k, hn, hq, hm, hk, hP, hl, hz, hr, _⟩ := piRB_parts t1
    have HDL := hid (rints_lst HD.out hl)
    have hy := orpB_yes t1
    obtain ⟨o1, o2, o3⟩ := ord_facts hP hz hr
    rw [hm, hk] at hy
    obtain ⟨f, hf⟩ : ∃ f : Nat → Int, (fun i => d.getD i 0) = f := ⟨_, rfl⟩
    rw [hf] at hy hz o1 o2 o3 HDL
    obtain ⟨O, hO⟩ : ∃ O, ordN m L k f = O := ⟨_, rfl⟩
    rw [hO] at hy o1 o2 o3
    subst hn
    subst hq
    have HY := hid hy
    have HZ := hid hz
    have HO1 := hid o1
    have HO2 := hid o2
    have HO3 := hid o3
    have hmm := hP.n1
    have HT := hid t1
    clear hm hk hy hz hr hf hO o1 o2 o3 hl t1
    go_enter Try.func18, Try.ntmps18
    go_wp2_with fail
    refine (withRec_yes m k _ _ L d _ HR.out HD.out HT.out).mono ?_
    rintro e w1 ⟨g, rfl, hg, hb1, -⟩
    obtain ⟨c0, c1, hw2⟩ := tnew w1 (some ⟨g, 0, none⟩) k
    have HG := hid (hg.keep hw2)
    have HB1 := hid (hb1.trans (hw2.mono hb1.size))
    clear hg hb1 hw2
    go_wp2_with fail
    refine (identity_c hP _ HG.out).mono ?_
    rintro e w3 ⟨ui, rfl, hF, hb3⟩
    have HF := hid hF.r
    have HG3 := hid (HG.out.keep hb3)
    have HB3 := hid (HB1.out.trans (hb3.mono HB1.out.size))
    have HC := hid (And.intro ((hb3.cell (p := ⟨w1.heap.size, 0, none⟩) (cell_lt c0)).trans c0) ((hb3.cell (p := ⟨w1.heap.size, 1, none⟩) (cell_lt c1)).trans c1))
    obtain ⟨a4, n4, c4, rfl⟩ := hF.form3
    have hsz3 := HB3.out.size
    clear hF hb3 c0 c1
    go_wp2
    go_loopg [13, 14] (O + 1) (fun gk sv cv wr => ∃ (j : Nat) (a : Option Addr) (n c : Nat), sv = .slice a n c ∧ cv = .int .i64 ((j : Int) + 1) ∧ j ≤ O ∧ gk = O + 1 - j ∧ RInts wr (.slice a n c) (lst m (Gr.ms (grL m L hP.good) k f j)) ∧ Below w3.heap.size w3 wr)
    case atStart => exact ⟨0, _, _, _, rfl, rfl, Nat.zero_le _, rfl, HDL.out.keep HB3.out, Below.refl _ _⟩
    case round =>
      obtain ⟨j, a3, n3, c3, rfl, rfl, hj, rfl, hx, hb⟩ := hrel
      have HX := hid hx
      have HB := hid hb
      clear hx hb
      go_wp2_with fail
      refine (equal_c _ _ _ _ _ HX.out (HF.out.keep HB.out)).mono ?_
      rintro e w4 ⟨rfl, nd, rfl⟩
      have HB4 := hid (HB3.out.trans ((below_drewN HB.out nd).mono hsz3))
      by_cases hjo : j = O
      · have h1 : decide (lst m (Gr.ms (grL m L hP.good) k f j) = lst m (idF m L k hP.good)) = true := decide_eq_true (by rw [hjo]; exact HO1.out)
        rw [h1]
        have HJ := hid hjo
        clear hjo h1
        go_wp2
        go_ret2
        exact ⟨by rw [HY.out, ← HJ.out]; rfl, HB4.out⟩
      · have h1 : decide (lst m (Gr.ms (grL m L hP.good) k f j) = lst m (idF m L k hP.good)) = false := decide_eq_false (HO2.out j (by omega))
        rw [h1]
        clear h1
        have hbd := below_drewN HB.out nd
        have HBD := hid hbd
        have e0 := (hbd.cell (p := ⟨w1.heap.size, 0, none⟩) (cell_lt HC.out.1)).trans HC.out.1
        have e1 := (hbd.cell (p := ⟨w1.heap.size, 1, none⟩) (cell_lt HC.out.2)).trans HC.out.2
        have f1 : IntKind.i64.wrap ((j : Int) + 1 + 1) = (j : Int) + 1 + 1 := IntWalk.i64_in _ (by have := HO3.out; omega)
        clear hbd
        go_wp2_with fail
        refine (sum_c m k g _ _ L _ f _ hP (HG3.out.keep HBD.out) (HX.out.drewN) ((HDL.out.keep HB3.out).keep HBD.out) ((ms_pil hP HZ.out j).mono (by decide)) (HZ.out.mono (by decide))).mono ?_
        rintro e w5 ⟨us, rfl, hF5, hb5⟩
        have HF5 := hid hF5.r
        have HB5 := hid (HBD.out.trans (hb5.mono HBD.out.size))
        obtain ⟨a5, n5, c5, rfl⟩ := hF5.form3
        clear hF5 hb5 e0 e1
        go_wp2
        go_roundg (O + 1 - (j + 1))
        case rel => exact ⟨j + 1, _, _, _, rfl, by rw [show ((j + 1 : Nat) : Int) + 1 = (j : Int) + 1 + 1 by omega], by omega, rfl, HF5.out, HB5.out⟩
        case measure => omega
  · have HE := hid (orpB_no t1)
    go_enter Try.func18, Try.ntmps18
    go_wp2_with fail
    refine (withRec_no n q _ _ L d _ HR.out HD.out t1).mono ?_
    rintro e w1 ⟨ap, x, rfl, hb1⟩
    have HB := hid (hb1.alloc hb1.size (.cells #[.pointer ap, .int .i64 x] 54))
    clear hb1
    go_wp2
    go_ret2
    exact ⟨by rw [HE.out]; rfl, HB.out⟩

end Go.Proofs.Ytifdhapaonideaa

/- OppositePile: the program's search for the opposite. -/
namespace Go.Proofs.Ytifdhapaonideaa
open Go.RowKit
open Go.Lib (hid)

section
variable {n q p : Nat} {L : List Lnk}
/-- what the search for the opposite asks -/
noncomputable def askOp (G : Gr) (n q : Nat) (d : Nat → Int) (e : List Int) (x : List Int) : Bool := decide (lst n (Gr.stb G q (fun i => x.getD i 0 + d i)) = e)
theorem opp_find (hP : PG n L q) {f : Nat → Int} (hz : PilZ n q 50 f) (hr : Gr.Rec (grL n L hP.good) q f) : (recL n L q).find? (askOp (grL n L hP.good) n q f (lst n (idF n L q hP.good))) = some (oppL n L q f) := by
  obtain ⟨W, _⟩ := Gr.wt8 (G := grL n L hP.good) hP.hq hP.con
  have ho := Gr.op_rec (G := grL n L hP.good) hP.hq W hP.con hr (Gr.ord (grL n L hP.good) q f)
  have hoz := op_pil hP hz (Gr.ord (grL n L hP.good) q f)
  have key : ∀ y, y ∈ recL n L q → (askOp (grL n L hP.good) n q f (lst n (idF n L q hP.good)) y = true ↔ Gr.Eqv (grL n L hP.good) q (fun i => y.getD i 0) (Gr.opp (grL n L hP.good) q f)) := fun y hy => by
    obtain ⟨k1, k2, k3⟩ := recL_mem hP hy
    unfold askOp
    rw [decide_eq_true_iff, ← Gr.opp_iff (G := grL n L hP.good) hP.hq W hP.con hr k2]
    exact same_eqv hP.good (Gr.stb_sink _) (id_pil hP).2
  rw [oppL_eq hP.good]
  refine find_only (rec_mem hP ho hoz.2) ((key _ (rec_mem hP ho hoz.2)).2 (fun v hv _ => lst_at _ hv)) (fun y hy hp => ?_)
  obtain ⟨k1, k2, k3⟩ := recL_mem hP hy
  rw [lst_of k1]
  refine lst_eqv hP.good ((key y hy).1 hp) ?_
  have : Gr.opp (grL n L hP.good) q f q = 0 := hoz.2
  rw [this]; exact k3

set_option maxRecDepth 100000 in
set_option maxHeartbeats 2000000 in
theorem oppositeF_c (hP : PG n L q) (bt db eb : Nat) (dv ev r : Value) (x el : List Int) (f : Nat → Int) (w : World)
    (hp : RG w (.pointer (some ⟨p, 0, none⟩)) n L) (t0 : w.cell? ⟨bt, 0, none⟩ = some (.pointer (some ⟨p, 0, none⟩))) (t1 : w.cell? ⟨bt, 1, none⟩ = some (.int .i64 q)) (td : w.cell? ⟨db, 0, none⟩ = some dv) (te : w.cell? ⟨eb, 0, none⟩ = some ev)
    (hr : RInts w r x) (hd : RInts w dv (lst n f)) (he : RInts w ev el) (hx : x ∈ recL n L q) (hz : PilZ n q 50 f) :
    Calls Try.prog 52 (#[r] ++ #[.pointer (some ⟨bt, 0, none⟩), .pointer (some ⟨db, 0, none⟩), .pointer (some ⟨eb, 0, none⟩)]) w fun e w' => e = .returned (.bool (askOp (grL n L hP.good) n q f el x)) ∧ Below w.heap.size w w' := by
  show Calls Try.prog 52 #[r, .pointer (some ⟨bt, 0, none⟩), .pointer (some ⟨db, 0, none⟩), .pointer (some ⟨eb, 0, none⟩)] w _
  have hn8 := hP.good.n8
  have hn1 := hP.good.n1
  obtain ⟨z1, e1⟩ := recL_pil hP hx
  have HPW : Hid (RG w.drew (.pointer (some ⟨p, 0, none⟩)) n L) := hp
  have HX : Hid (RInts w.drew r (lst n (fun i => x.getD i 0))) := by rw [← e1]; exact hr
  have HD : Hid (RInts w.drew dv (lst n f)) := hd
  have HZ := hid (And.intro z1 (hz.mono (show (50 : Int) ≤ 1000 by decide)))
  have HE := hid he
  obtain ⟨gd, od, cd, rfl, _, _, _⟩ := ri_open hd (by omega)
  obtain ⟨a1, c1, rfl, _, _, hc1⟩ := hr
  obtain ⟨a2, c2, rfl, _, _, hc2⟩ := he
  have hl0 := cell_lt t0
  have hl1 := cell_lt td
  have hl2 := cell_lt te
  clear hp z1 e1 hx hd hc1 hc2 hz
  go_enter Try.func52, Try.ntmps52
  go_upto_region 1 with fail
  go_region_held3 (fun w' => w'.cell? ⟨bt, 0, none⟩ = some (.pointer (some ⟨p, 0, none⟩)) ∧ w'.cell? ⟨bt, 1, none⟩ = some (.int .i64 q) ∧ w'.cell? ⟨db, 0, none⟩ = some (.slice (some ⟨gd, od, none⟩) n cd) ∧ w'.cell? ⟨eb, 0, none⟩ = some (.slice a2 el.length c2))
    (first | go_keep | exact ⟨m0, m1, m2, m3⟩ | exact ⟨n0, n1, n2, n3⟩)
    (first
      | (go_at_call 44; (with_reducible refine (sum_c n q p _ _ L _ _ _ hP HPW.out HX.out HD.out HZ.out.1 HZ.out.2).mono ?_); rintro e w5 ⟨u5, rfl, hF5, hb5⟩; have hb5' : Below w.heap.size w w5 := below_of_drew hb5; have HF5 := hid hF5.r; have HE5 := hid (HE.out.keep hb5'); have m0 := (hb5'.cell (p := ⟨bt, 0, none⟩) hl0).trans t0; have m1 := (hb5'.cell (p := ⟨bt, 1, none⟩) hl0).trans t1; have m2 := (hb5'.cell (p := ⟨db, 0, none⟩) hl1).trans td; have m3 := (hb5'.cell (p := ⟨eb, 0, none⟩) hl2).trans te; obtain ⟨a5, n5, c5, rfl⟩ := hF5.form3; clear hF5)
      | (go_at_call 53; (with_reducible refine (equal_c _ _ _ el _ HF5.out HE5.out).mono ?_); rintro e w6 ⟨rfl, nd, rfl⟩; have hb6 : Below w5.heap.size w5 (w5.drewN nd) := below_drewN (Below.refl _ _) nd; have n0 : (w5.drewN nd).cell? ⟨bt, 0, none⟩ = _ := m0; have n1 : (w5.drewN nd).cell? ⟨bt, 1, none⟩ = _ := m1; have n2 : (w5.drewN nd).cell? ⟨db, 0, none⟩ = _ := m2; have n3 : (w5.drewN nd).cell? ⟨eb, 0, none⟩ = _ := m3))
  have HBE := hid (hb5'.trans (hb6.mono (show w.heap.size ≤ w5.heap.size from hb5'.size)))
  go_wp2
  go_ret
  exact ⟨rfl, HBE.out⟩
end

set_option maxRecDepth 100000 in
set_option maxHeartbeats 4000000 in
theorem iOppositePile_u (n : Int) (v : Value) (L : List Lnk) (q : Int) (u : Value) (d : List Int) (w : World) (h : RLinks w v L) (hd : RInts w u d) :
    Calls Try.prog 16 #[.int .i64 n, v, .int .i64 q, u] w (RetIB w (oppB n L q d)) := by
  have HR := hid h
  have HD := hid hd
  obtain ⟨a, cap, rfl⟩ := h.form
  obtain ⟨a2, cap2, rfl, _, _, hc⟩ := hd
  have hal : Below w.heap.size w (w.alloc (.cells #[.slice a2 d.length cap2] 25)) := (Below.refl _ _).alloc (Nat.le_refl _) _
  have dbx : (w.alloc (.cells #[.slice a2 d.length cap2] 25)).cell? ⟨w.heap.size, 0, none⟩ = some (.slice a2 d.length cap2) := cell_new _ _ _
  have HAL := hid hal
  have HDB := hid dbx
  clear h hc hal dbx
  rcases Bool.eq_false_or_eq_true (piRB n L q d) with t1 | t1
  · obtain ⟨m, k, hn, hq, hm, hk, hP, hl, hz, hr, _⟩ := piRB_parts t1
    have HDL := hid (rints_lst HD.out hl)
    have hy := oppB_yes t1
    have hfind := opp_find hP hz hr
    rw [hm, hk] at hy
    obtain ⟨f, hf⟩ : ∃ f : Nat → Int, (fun i => d.getD i 0) = f := ⟨_, rfl⟩
    rw [hf] at hy hz hfind HDL
    obtain ⟨ix, hk1, hk2, hk3⟩ := findB_at (askOp (grL m L hP.good) m k f (lst m (idF m L k hP.good))) [] _ (recL m L k) 0 hfind
    rw [Nat.zero_add] at hk1
    have hol : (oppL m L k f).length = m := by rw [oppL_eq hP.good, lst_len]
    have HK := hid (And.intro hk1 (And.intro hk2 (And.intro hk3 hol)))
    subst hn
    subst hq
    have HY := hid hy
    have HZ := hid hz
    have hmm := hP.n1
    have HT := hid t1
    clear hm hk hy hz hr hf hfind hk1 hk2 hk3 hol hl t1
    go_enter Try.func16, Try.ntmps16
    go_wp2_with fail
    refine (withRec_yes m k _ _ L d _ (HR.out.keep HAL.out) (HD.out.keep HAL.out) HT.out).mono ?_
    rintro e w1 ⟨g, rfl, hg, hb1, -⟩
    obtain ⟨c0, c1, hw2⟩ := tnew w1 (some ⟨g, 0, none⟩) k
    obtain ⟨w2, hww⟩ : ∃ w2 : World, w2 = (w1.alloc (.cells #[.pointer (some ⟨g, 0, none⟩), .int .i64 k] 54)) := ⟨_, rfl⟩
    rw [← hww] at hw2 c0 c1
    have HWW := hid hww
    have hb2 := hb1.trans (hw2.mono hb1.size)
    have HG : Hid (RG w2.drew (.pointer (some ⟨g, 0, none⟩)) m L) := by have := hg.keep hw2; exact this
    have HB2 := hid hb2
    have hlt1 := cell_lt c0
    obtain ⟨BX, hBX⟩ : ∃ BX, w1.heap.size = BX := ⟨_, rfl⟩
    rw [hBX] at c0 c1 hlt1
    have HC := hid (And.intro c0 c1)
    have hneE : BX ≠ w2.heap.size := by omega
    have hneE' : w2.heap.size ≠ BX := fun e => hneE e.symm
    have HALE : Hid (Below w2.heap.size w2 (w2.alloc (.cells #[.slice none 0 0] 25))) := (Below.refl _ _).alloc (Nat.le_refl _) _
    have HGE : Hid (RG (w2.alloc (.cells #[.slice none 0 0] 25)).drew (.pointer (some ⟨g, 0, none⟩)) m L) := by have := (show RG w2 (.pointer (some ⟨g, 0, none⟩)) m L from HG.out).keep HALE.out; exact this
    have HEX0 : Hid (w2.heap.size < (w2.alloc (.cells #[.slice none 0 0] 25)).heap.size ∧ (w2.alloc (.cells #[.slice none 0 0] 25)).heap[w2.heap.size]? = some (.cells #[.slice none 0 0] 25 (0, 0))) := ⟨(by rw [World.size_alloc]; omega), heap_alloc_new _ _⟩
    clear hg hb1 hw2 hww hb2
    go_upto_region 4 with fail
    rw [← HWW.out]
    clear hBX
    go_cut [12, 13] from 24 to 27 (fun s12 s13 wx => ∃ (EB : Nat) (ev : Value) (gL cL : Nat), s12 = .pointer (some ⟨EB, 0, none⟩) ∧ s13 = .slice (some ⟨gL, 0, none⟩) (recL m L k).length cL ∧ wx.cell? ⟨EB, 0, none⟩ = some ev ∧ RInts wx ev (lst m (idF m L k hP.good)) ∧ FMat wx w2.heap.size wx.heap.size (.slice (some ⟨gL, 0, none⟩) (recL m L k).length cL) (recL m L k) ∧ Below w2.heap.size w2 wx)
    case first =>
      go_region_held3 (fun w' => w'.cell? ⟨BX, 0, none⟩ = some (.pointer (some ⟨g, 0, none⟩)) ∧ w'.cell? ⟨BX, 1, none⟩ = some (.int .i64 k))
        (first | go_keep | exact ⟨m0, m1⟩ | exact ⟨n0, n1⟩)
        (first
          | (go_at_call 49; (with_reducible refine (identity_c hP _ HG.out).mono ?_); rintro e w5 ⟨u5, rfl, hF5, hb5⟩; have hb5' : Below w2.heap.size w2 w5 := below_of_drew hb5; have hneX : BX ≠ w5.heap.size := (by have := hb5'.size; omega); have hneX' : w5.heap.size ≠ BX := fun e => hneX e.symm; have HF5 := hid (show FInts w5 w2.heap.size w5.heap.size u5 (lst m (idF m L k hP.good)) from hF5); have HG5 := hid (HG.out.keep hb5); have HAL5 : Hid (Below w5.heap.size w5 (w5.alloc (.cells #[.slice none 0 0] 25))) := (Below.refl _ _).alloc (Nat.le_refl _) _; have HG5A := hid ((HG.out.keep hb5).keep HAL5.out); have HE5 : Hid (w5.heap.size < (w5.alloc (.cells #[.slice none 0 0] 25)).heap.size ∧ (w5.alloc (.cells #[.slice none 0 0] 25)).heap[w5.heap.size]? = some (.cells #[.slice none 0 0] 25 (0, 0))) := ⟨(by rw [World.size_alloc]; omega), heap_alloc_new _ _⟩; have m0 := (hb5'.cell (p := ⟨BX, 0, none⟩) hlt1).trans HC.out.1; have m1 := (hb5'.cell (p := ⟨BX, 1, none⟩) hlt1).trans HC.out.2; obtain ⟨a5, n5, c5, rfl⟩ := hF5.form3; clear hF5)
          | (go_at_call 49; (with_reducible refine (identity_c hP _ HGE.out).mono ?_); rintro e w5 ⟨u5, rfl, hF5, hb5⟩; have hb51 : Below (w2.alloc (.cells #[.slice none 0 0] 25)).heap.size (w2.alloc (.cells #[.slice none 0 0] 25)) w5 := below_of_drew hb5; have hb5' : Below w2.heap.size w2 w5 := HALE.out.trans (hb51.mono HALE.out.size); have HEX5 := hid (And.intro (Nat.lt_of_lt_of_le HEX0.out.1 hb51.size) ((hb51.block _ HEX0.out.1).trans HEX0.out.2)); have hneX : BX ≠ w5.heap.size := (by have := hb5'.size; omega); have hneX' : w5.heap.size ≠ BX := fun e => hneX e.symm; have HF5 := hid (show FInts w5 (w2.heap.size + 1) w5.heap.size u5 (lst m (idF m L k hP.good)) by have := hF5; simpa using this); have HG5 := hid (HGE.out.keep hb5); have HAL5 : Hid (Below w5.heap.size w5 (w5.alloc (.cells #[.slice none 0 0] 25))) := (Below.refl _ _).alloc (Nat.le_refl _) _; have HG5A := hid ((HGE.out.keep hb5).keep HAL5.out); have HE5 : Hid (w5.heap.size < (w5.alloc (.cells #[.slice none 0 0] 25)).heap.size ∧ (w5.alloc (.cells #[.slice none 0 0] 25)).heap[w5.heap.size]? = some (.cells #[.slice none 0 0] 25 (0, 0))) := ⟨(by rw [World.size_alloc]; omega), heap_alloc_new _ _⟩; have m0 := (hb5'.cell (p := ⟨BX, 0, none⟩) hlt1).trans HC.out.1; have m1 := (hb5'.cell (p := ⟨BX, 1, none⟩) hlt1).trans HC.out.2; obtain ⟨a5, n5, c5, rfl⟩ := hF5.form3; clear hF5)
          | (go_at_call 50; (with_reducible refine (recurrent_c hP (w5.alloc (.cells #[.slice none 0 0] 25)) HG5A.out).mono ?_); rintro e w6 ⟨u6, rfl, hF6, hb6⟩; have hb6' : Below w2.heap.size w2 w6 := hb5'.trans ((HAL5.out.trans (hb6.mono HAL5.out.size)).mono hb5'.size); have HI6 := hid ((HF5.out.keep HAL5.out).keep hb6); have HF6 := hid hF6; have n0 := (hb6'.cell (p := ⟨BX, 0, none⟩) hlt1).trans HC.out.1; have n1 := (hb6'.cell (p := ⟨BX, 1, none⟩) hlt1).trans HC.out.2; have e6 := (hb6.block _ HE5.out.1).trans HE5.out.2; have x0 : w6.cell? ⟨w5.heap.size, 0, none⟩ = some (.slice none 0 0) := (by rw [cell_of_row _ _ _ _ _ _ e6]; rfl); have x1 := frozen_of_row w6 w5.heap.size 0 _ _ e6; obtain ⟨gL, cL, rfl, -, -⟩ := hF6.form_some (by have := HK.out.2.1; omega); clear hF6)
          | (go_at_call 50; (with_reducible refine (recurrent_c hP w5 HG5.out).mono ?_); rintro e w6 ⟨u6, rfl, hF6, hb6⟩; have hb6' : Below w2.heap.size w2 w6 := hb5'.trans (hb6.mono hb5'.size); have HI6 := hid (HF5.out.keep hb6); have HF6 := hid hF6; have n0 := (hb6'.cell (p := ⟨BX, 0, none⟩) hlt1).trans HC.out.1; have n1 := (hb6'.cell (p := ⟨BX, 1, none⟩) hlt1).trans HC.out.2; have e6 := (hb6.block _ HEX5.out.1).trans HEX5.out.2; have x0 : w6.cell? ⟨w2.heap.size, 0, none⟩ = some (.slice none 0 0) := (by rw [cell_of_row _ _ _ _ _ _ e6]; rfl); have x1 := frozen_of_row w6 w2.heap.size 0 _ _ e6; obtain ⟨gL, cL, rfl, -, -⟩ := hF6.form_some (by have := HK.out.2.1; omega); clear hF6)
          | (go_at_call 50; (with_reducible refine (recurrent_c hP w5 HG5.out).mono ?_); rintro e w6 ⟨u6, rfl, hF6, hb6⟩; have hb6' : Below w2.heap.size w2 w6 := hb5'.trans (hb6.mono hb5'.size); have HI6 := hid (HF5.out.keep hb6); have HF6 := hid hF6; have n0 := (hb6'.cell (p := ⟨BX, 0, none⟩) hlt1).trans HC.out.1; have n1 := (hb6'.cell (p := ⟨BX, 1, none⟩) hlt1).trans HC.out.2; obtain ⟨gL, cL, rfl, -, -⟩ := hF6.form_some (by have := HK.out.2.1; omega); clear hF6))
      · have hal6 : Below w6.heap.size w6 (w6.alloc (.cells #[.slice a5 n5 c5] 25)) := (Below.refl _ _).alloc (Nat.le_refl _) _
        have HR6 := hid (show ∃ (EB : Nat) (ev : Value) (gL' cL' : Nat), Value.pointer (some ⟨w6.heap.size, 0, none⟩) = .pointer (some ⟨EB, 0, none⟩) ∧ Value.slice (some ⟨gL, 0, none⟩) (recL m L k).length cL = .slice (some ⟨gL', 0, none⟩) (recL m L k).length cL' ∧ (w6.alloc (.cells #[.slice a5 n5 c5] 25)).cell? ⟨EB, 0, none⟩ = some ev ∧ RInts (w6.alloc (.cells #[.slice a5 n5 c5] 25)) ev (lst m (idF m L k hP.good)) ∧ FMat (w6.alloc (.cells #[.slice a5 n5 c5] 25)) w2.heap.size (w6.alloc (.cells #[.slice a5 n5 c5] 25)).heap.size (.slice (some ⟨gL', 0, none⟩) (recL m L k).length cL') (recL m L k) ∧ Below w2.heap.size w2 (w6.alloc (.cells #[.slice a5 n5 c5] 25)) from
          ⟨w6.heap.size, _, gL, cL, rfl, rfl, cell_new _ _ _, (HI6.out.keep hal6).r, (HF6.out.keep hal6).mono hb5'.size hal6.size, hb6'.trans (hal6.mono hb6'.size)⟩)
        clear hal6 m0 m1 n0 n1
        go_wp2_with fail
        go_meet
        exact HR6.out
      · have hzz := hb5'.size
        have hz6 := hb6'.size
        have hz56 : w5.heap.size ≤ w6.heap.size := by have := hb6.size; first | omega | (simp at this; omega)
        have hsz : (w6.setCell ⟨w5.heap.size, 0, none⟩ (.slice a5 n5 c5)).heap.size = w6.heap.size := by simp [World.setCell]
        have hoth : ∀ b, b ≠ w5.heap.size → (w6.setCell ⟨w5.heap.size, 0, none⟩ (.slice a5 n5 c5)).heap[b]? = w6.heap[b]? := fun b hb => heap_setCell_other _ _ _ _ hb
        have hce : (w6.setCell ⟨w5.heap.size, 0, none⟩ (.slice a5 n5 c5)).cell? ⟨w5.heap.size, 0, none⟩ = some (.slice a5 n5 c5) := by
          rw [cell_of_row _ _ _ _ _ _ (heap_setCell_same w6 w5.heap.size 0 _ _ (.slice a5 n5 c5) e6)]; rfl
        have hfm := (HF6.out.same (w' := w6.setCell ⟨w5.heap.size, 0, none⟩ (.slice a5 n5 c5)) (fun b h1 _ _ => hoth b (by simp at h1; omega))).mono (lo' := w2.heap.size) (hi' := w6.heap.size) (by simp; omega) (Nat.le_refl _)
        have hfi := (HI6.out.same (w' := w6.setCell ⟨w5.heap.size, 0, none⟩ (.slice a5 n5 c5)) (fun b _ h2 _ => hoth b (by omega))).r
        have hbl := hb6'.setCell (p := ⟨w5.heap.size, 0, none⟩) (show w2.heap.size ≤ w5.heap.size by omega) (.slice a5 n5 c5)
        have HR6 := hid (show ∃ (EB : Nat) (ev : Value) (gL' cL' : Nat), Value.pointer (some ⟨w5.heap.size, 0, none⟩) = .pointer (some ⟨EB, 0, none⟩) ∧ Value.slice (some ⟨gL, 0, none⟩) (recL m L k).length cL = .slice (some ⟨gL', 0, none⟩) (recL m L k).length cL' ∧ (w6.setCell ⟨w5.heap.size, 0, none⟩ (.slice a5 n5 c5)).cell? ⟨EB, 0, none⟩ = some ev ∧ RInts (w6.setCell ⟨w5.heap.size, 0, none⟩ (.slice a5 n5 c5)) ev (lst m (idF m L k hP.good)) ∧ FMat (w6.setCell ⟨w5.heap.size, 0, none⟩ (.slice a5 n5 c5)) w2.heap.size (w6.setCell ⟨w5.heap.size, 0, none⟩ (.slice a5 n5 c5)).heap.size (.slice (some ⟨gL', 0, none⟩) (recL m L k).length cL') (recL m L k) ∧ Below w2.heap.size w2 (w6.setCell ⟨w5.heap.size, 0, none⟩ (.slice a5 n5 c5)) from
          ⟨_, _, gL, cL, rfl, rfl, hce, hfi, by rw [hsz]; exact hfm, hbl⟩)
        clear m0 m1 n0 n1 x0 x1 hsz hoth hce hfm hfi hbl hz6 hzz hz56
        go_wp2_with fail
        go_meet
        exact HR6.out
      · have hzz := hb5'.size
        have hz6 := hb6'.size
        have hz56 : w5.heap.size ≤ w6.heap.size := by have := hb6.size; first | omega | (simp at this; omega)
        have hsz : (w6.setCell ⟨w2.heap.size, 0, none⟩ (.slice a5 n5 c5)).heap.size = w6.heap.size := by simp [World.setCell]
        have hoth : ∀ b, b ≠ w2.heap.size → (w6.setCell ⟨w2.heap.size, 0, none⟩ (.slice a5 n5 c5)).heap[b]? = w6.heap[b]? := fun b hb => heap_setCell_other _ _ _ _ hb
        have hce : (w6.setCell ⟨w2.heap.size, 0, none⟩ (.slice a5 n5 c5)).cell? ⟨w2.heap.size, 0, none⟩ = some (.slice a5 n5 c5) := by
          rw [cell_of_row _ _ _ _ _ _ (heap_setCell_same w6 w2.heap.size 0 _ _ (.slice a5 n5 c5) e6)]; rfl
        have hw25 : w2.heap.size < w5.heap.size := HEX5.out.1
        have hfm := (HF6.out.same (w' := w6.setCell ⟨w2.heap.size, 0, none⟩ (.slice a5 n5 c5)) (fun b h1 _ _ => hoth b (by omega))).mono (lo' := w2.heap.size) (hi' := w6.heap.size) (by omega) (Nat.le_refl _)
        have hfi := (HI6.out.same (w' := w6.setCell ⟨w2.heap.size, 0, none⟩ (.slice a5 n5 c5)) (fun b h1 _ _ => hoth b (by omega))).r
        have hbl := hb6'.setCell (p := ⟨w2.heap.size, 0, none⟩) (show w2.heap.size ≤ w2.heap.size by omega) (.slice a5 n5 c5)
        have HR6 := hid (show ∃ (EB : Nat) (ev : Value) (gL' cL' : Nat), Value.pointer (some ⟨w2.heap.size, 0, none⟩) = .pointer (some ⟨EB, 0, none⟩) ∧ Value.slice (some ⟨gL, 0, none⟩) (recL m L k).length cL = .slice (some ⟨gL', 0, none⟩) (recL m L k).length cL' ∧ (w6.setCell ⟨w2.heap.size, 0, none⟩ (.slice a5 n5 c5)).cell? ⟨EB, 0, none⟩ = some ev ∧ RInts (w6.setCell ⟨w2.heap.size, 0, none⟩ (.slice a5 n5 c5)) ev (lst m (idF m L k hP.good)) ∧ FMat (w6.setCell ⟨w2.heap.size, 0, none⟩ (.slice a5 n5 c5)) w2.heap.size (w6.setCell ⟨w2.heap.size, 0, none⟩ (.slice a5 n5 c5)).heap.size (.slice (some ⟨gL', 0, none⟩) (recL m L k).length cL') (recL m L k) ∧ Below w2.heap.size w2 (w6.setCell ⟨w2.heap.size, 0, none⟩ (.slice a5 n5 c5)) from
          ⟨_, _, gL, cL, rfl, rfl, hce, hfi, by rw [hsz]; exact hfm, hbl⟩)
        clear m0 m1 n0 n1 x0 x1 hsz hoth hce hfm hfi hbl hz6 hzz hz56
        go_wp2_with fail
        go_meet
        exact HR6.out
    case rest =>
      obtain ⟨EB, ev, gL, cL, rfl, rfl, he, hev, hFM, hbc⟩ := hcut
      obtain ⟨w3, rfl⟩ : ∃ w3 : World, w3 = wc := ⟨_, rfl⟩
      obtain ⟨len, hlen⟩ : ∃ len, (recL m L k).length = len := ⟨_, rfl⟩
      have hix := HK.out.2.1
      rw [hlen] at hix ⊢
      obtain ⟨gk, rk, yk, hek, _, _, trk, _, hrk, HYK, _⟩ := hFM.at (i := ix) (by omega)
      simp only [Option.some.injEq, Addr.mk.injEq, and_true] at hek
      subst hek
      have hyk : yk = oppL m L k f := by rw [← HYK.out]; exact HK.out.2.2.1
      subst hyk
      have HRK := hid hrk
      obtain ⟨ak, ck, rfl⟩ : ∃ ak ck, rk = .slice ak m ck := by obtain ⟨ak, ck, h⟩ := hrk.form; exact ⟨ak, ck, by rw [h, HK.out.2.2.2]⟩
      have HTK := hid trk
      have hMR : RMat w3 (.slice (some ⟨gL, 0, none⟩) len cL) (recL m L k) := by rw [← hlen]; exact hFM.r
      have HMR := hid hMR
      have HB3 := hid hbc
      have HG3 := hid ((show RG w2 (.pointer (some ⟨g, 0, none⟩)) m L from HG.out).keep hbc)
      have d0 := (hbc.cell (p := ⟨BX, 0, none⟩) hlt1).trans HC.out.1
      have d1 := (hbc.cell (p := ⟨BX, 1, none⟩) hlt1).trans HC.out.2
      have hb3 := HB2.out.trans (hbc.mono HB2.out.size)
      have d2 := (hb3.cell (p := ⟨w.heap.size, 0, none⟩) (cell_lt HDB.out)).trans HDB.out
      have HALL := hid (HAL.out.trans (hb3.mono HAL.out.size))
      have hdl : RInts w3 (.slice a2 d.length cap2) (lst m f) := HDL.out.keep HALL.out
      have hcl : ∀ r x w', Below w3.heap.size w3 w' → RInts w' r x → x ∈ recL m L k → Calls Try.prog 52 (#[r] ++ #[.pointer (some ⟨BX, 0, none⟩), .pointer (some ⟨w.heap.size, 0, none⟩), .pointer (some ⟨EB, 0, none⟩)]) w' fun e w'' => e = .returned (.bool (askOp (grL m L hP.good) m k f (lst m (idF m L k hP.good)) x)) ∧ Below w'.heap.size w' w'' := fun r x w' hbw hr hx =>
        oppositeF_c hP BX w.heap.size EB _ ev r x _ f w' (HG3.out.keep hbw) ((hbw.cell (p := ⟨BX, 0, none⟩) (cell_lt d0)).trans d0) ((hbw.cell (p := ⟨BX, 1, none⟩) (cell_lt d1)).trans d1) ((hbw.cell (p := ⟨w.heap.size, 0, none⟩) (cell_lt d2)).trans d2) ((hbw.cell (p := ⟨EB, 0, none⟩) (cell_lt he)).trans he) hr (hdl.keep hbw) (hev.keep hbw) hx HZ.out
      have HCL := hid hcl
      have hxz : (ix : Int) < (len : Int) := by omega
      clear hcl hdl hev hFM hbc hb3 hrk HYK hMR d0 d1 d2 he hlen hix
      go_wp2_with fail
      refine (indexFuncMB_c _ (recL m L k) _ _ _ (askOp (grL m L hP.good) m k f (lst m (idF m L k hP.good))) HMR.out Try.call52 HCL.out).mono ?_
      rintro e w4 ⟨rfl, hb4⟩
      rw [HK.out.1]
      have e5 := (hb4.cell (p := ⟨gL, ix, none⟩) (cell_lt HTK.out)).trans HTK.out
      have HEND := hid (HALL.out.trans (hb4.mono HALL.out.size))
      have HRE := hid (show FInts w4 w.heap.size w4.heap.size (.slice ak m ck) (oppL m L k f) from (HRK.out.keep hb4).mono (Nat.le_trans HAL.out.size HB2.out.size) hb4.size)
      clear hb4 trk
      go_wp2
      go_ret2
      exact ⟨_, by rw [HY.out]; rfl, by rw [HY.out]; exact HRE.out, HEND.out⟩
  · have HE := hid (oppB_no t1)
    go_enter Try.func16, Try.ntmps16
    go_wp2_with fail
    refine (withRec_no n q _ _ L d _ (HR.out.keep HAL.out) (HD.out.keep HAL.out) t1).mono ?_
    rintro e w1 ⟨ap, x, rfl, hb1⟩
    have HB := hid (HAL.out.trans ((hb1.alloc hb1.size (.cells #[.pointer ap, .int .i64 x] 54)).mono HAL.out.size))
    clear hb1
    go_wp2
    go_ret2
    exact ⟨_, by rw [HE.out]; rfl, by rw [HE.out]; exact ints_nil _ _ _, HB.out⟩

end Go.Proofs.Ytifdhapaonideaa

/- What the law of piles asks, plain. -/
namespace Go.Proofs.Ytifdhapaonideaa
open Go.RowKit
open Go.Lib (hid)

theorem lst_own {d : List Int} {m : Nat} (h : d.length = m) : lst m (fun i => d.getD i 0) = d := by
  apply List.ext_getElem
  · rw [lst_len]; exact h.symm
  · intro i h1 h2
    rw [lst_len] at h1
    have := lst_at (n := m) (fun i => d.getD i 0) h1
    simp [List.getD, h2] at this
    simp [lst, List.getD, h2]
theorem piAB_mk {m k : Nat} {L : List Lnk} {d : List Int} (hg : piGB (m : Int) L (k : Int) = true) (hl : d.length = m) (hz : PilZ m k 50 (fun i => d.getD i 0)) : piAB (m : Int) L (k : Int) d = true := by
  unfold piAB piPB
  rw [hg, Bool.true_and]
  simp only [Bool.and_eq_true, beq_iff_eq, Int.toNat_natCast]
  refine ⟨by omega, ?_, hz.2⟩
  unfold allB
  rw [List.all_eq_true]
  intro x hx
  obtain ⟨i, hi, rfl⟩ := List.getElem_of_mem hx
  have := hz.all (by decide) (v := i) (by omega)
  simp [List.getD, hi] at this
  exact inB_iff.2 (by omega)
theorem piPB_of {m k : Nat} {L : List Lnk} {d : List Int} (h : piAB (m : Int) L (k : Int) d = true) : piPB (m : Int) (k : Int) d = true := by
  unfold piAB at h; simp only [Bool.and_eq_true] at h; exact h.2
theorem top_no {n q : Int} {L : List Lnk} {d : List Int} (h : piAB n L q d = false) : topB n L q d = ([], [], false) := by unfold topB; rw [h]; rfl
/-- a toppled pile is stable; nothing has toppled just if it was stable -/
theorem top_facts {m k : Nat} {L : List Lnk} {d : List Int} (h : piAB (m : Int) L (k : Int) d = true) :
    ∃ P T : List Int, topB (m : Int) L (k : Int) d = (P, T, true) ∧ istB (m : Int) L (k : Int) P = (true, true) ∧ istB (m : Int) L (k : Int) d = (decide (P = d), true) ∧ T.getD k 0 = 0 ∧ k < T.length ∧ T.length ≤ 5 ∧ (∀ x ∈ T, 0 ≤ x ∧ x ≤ 100000000000000000) ∧ (decide (P = d) = decide (T.sum = 0)) := by
  obtain ⟨m', k', hm, hk, _, _, hP, hl, hz, hg⟩ := piAB_parts h
  obtain rfl : m = m' := by omega
  obtain rfl : k = k' := by omega
  obtain ⟨f, hf⟩ : ∃ f : Nat → Int, (fun i => d.getD i 0) = f := ⟨_, rfl⟩
  have hd : lst m f = d := by rw [← hf]; exact lst_own hl
  rw [hf] at hz
  obtain ⟨W, _⟩ := Gr.wt8 (G := grL m L hP.good) hP.hq hP.con
  have h0 : ∀ v, v < m → v ≠ k → 0 ≤ f v := fun v h1 h2 => (hz.1 v h1 h2).1
  obtain ⟨c, c1, c2, c3, c4⟩ := Gr.stb_spec (G := grL m L hP.good) W h0
  have hsp := stb_pil hP hz
  have hss := stb_st hP hz
  have ht : topB (m : Int) L (k : Int) d = (lst m (Gr.stb (grL m L hP.good) k f), lst m c, true) := by
    unfold topB
    rw [h, hf]
    simp only [Int.toNat_natCast]
    rw [stbL_eq hP.good, odoL_eq hP.good, c4]; rfl
  have hat : Gr.Eqv (grL m L hP.good) k (fun i => (lst m (Gr.stb (grL m L hP.good) k f)).getD i 0) (Gr.stb (grL m L hP.good) k f) := fun v h1 _ => lst_at _ h1
  have hPz : PilZ m k 50 (fun i => (lst m (Gr.stb (grL m L hP.good) k f)).getD i 0) := by
    refine ⟨fun v h1 h2 => ?_, ?_⟩
    · have := hsp.1 v h1 h2
      have e := lst_at (Gr.stb (grL m L hP.good) k f) h1
      dsimp only; rw [e]; omega
    · have e := lst_at (Gr.stb (grL m L hP.good) k f) hP.hq
      show (lst m (Gr.stb (grL m L hP.good) k f)).getD k 0 = 0
      rw [e]; exact hsp.2
  have hPA := piAB_mk hg (lst_len m _) hPz
  have hi1 : istB (m : Int) L (k : Int) (lst m (Gr.stb (grL m L hP.good) k f)) = (true, true) := by
    unfold istB
    rw [hPA]
    simp only [Int.toNat_natCast]
    rw [(stB_iff hP.good).2 (hat.symm.stab hss)]; rfl
  have hbnd : ∀ u, u < m → 0 ≤ c u ∧ c u ≤ 46427408762688000 := fun u hu => ⟨c1.nonneg u, c1.few (G := grL m L hP.good) hP.hq hP.con h0 (fun v h1 h2 => by have := (hz.1 v h1 h2).2; omega) u hu⟩
  have hsum : (lst m c).sum = sumN m c := by
    have : ∀ n, (lst n c).sum = sumN n c := fun n => by
      induction n with
      | zero => rfl
      | succ n ih => rw [lst_succ, List.sum_append, ih]; simp [sumN]
    exact this m
  -- nothing topples just if the pile is stable
  have hst0 : (grL m L hP.good).Stab k f → c = Gr.none0 := fun hs => by
    have hn : (grL m L hP.good).Stab k (Gr.after (grL m L hP.good) f Gr.none0) := by rw [Gr.after_none]; exact hs
    exact c1.unique c2 .nil hn
  have heq0 : c = Gr.none0 → lst m (Gr.stb (grL m L hP.good) k f) = d := fun e => by
    rw [← hd]
    refine lst_eqv hP.good (q := k) ?_ (by rw [hsp.2, hz.2])
    rw [e, Gr.after_none] at c3
    exact c3
  have hds : lst m (Gr.stb (grL m L hP.good) k f) = d → (grL m L hP.good).Stab k f := fun e => by
    rw [← hd] at e
    have he : Gr.Eqv (grL m L hP.good) k (Gr.stb (grL m L hP.good) k f) f := (same_eqv hP.good hsp.2 hz.2).1 e
    exact he.stab hss
  have hz0 : sumN m c = 0 → c = Gr.none0 := fun e => by
    funext u
    by_cases hu : u < m
    · have h1 := le_sumN (f := c) hu (fun i hi _ => (hbnd i hi).1)
      have := (hbnd u hu).1
      simp [Gr.none0]; omega
    · rw [c1.out hu]; rfl
  have hstd : (grL m L hP.good).Stab k f ↔ lst m (Gr.stb (grL m L hP.good) k f) = d := ⟨fun h => heq0 (hst0 h), hds⟩
  refine ⟨_, _, ht, hi1, ?_, ?_, ?_, ?_, ?_, ?_⟩
  · unfold istB
    rw [h, hf]
    simp only [Int.toNat_natCast, if_true]
    have : stB m L k f = decide (lst m (Gr.stb (grL m L hP.good) k f) = d) := by
      rw [Bool.eq_iff_iff, stB_iff hP.good, hstd, decide_eq_true_eq]
    rw [this]
  · rw [lst_at c hP.hq]; exact c1.sink
  · rw [lst_len]; exact hP.hq
  · rw [lst_len]; exact hP.n5
  · intro x hx
    obtain ⟨i, hi, rfl⟩ := mem_lst.1 hx
    have := hbnd i hi; omega
  · rw [decide_eq_decide, hsum]
    constructor
    · intro e
      rw [hst0 (hds e)]
      exact sumN_zero (fun _ _ => rfl)
    · intro e; exact heq0 (hz0 e)

theorem addp_comm {n q : Int} {L : List Lnk} {c d : List Int} (h : (addpB n L q c d).2 = true) : addpB n L q d c = addpB n L q c d := by
  unfold addpB at h ⊢
  cases t : piAB n L q c && piPB n q d with
  | false => rw [t] at h; simp at h
  | true =>
    simp only [Bool.and_eq_true] at t
    have t1 := t.1
    unfold piAB at t1
    simp only [Bool.and_eq_true] at t1
    have : (piAB n L q d && piPB n q c) = true := by unfold piAB; rw [t1.1, t1.2, t.2]; rfl
    rw [this]
    simp only [if_true]
    congr 2
    funext i
    exact Int.add_comm _ _

theorem opp_no {n q : Int} {L : List Lnk} {d : List Int} (h : piRB n L q d = false) : oppB n L q d = ([], false) ∧ orpB n L q d = (0, false) ∧ ((isrB n L q d).2 && (isrB n L q d).1) = false := by
  refine ⟨oppB_no h, orpB_no h, ?_⟩
  unfold piRB at h
  unfold isrB
  cases t : piSB n L q d with
  | false => rfl
  | true => rw [t] at h; simpa using h
/-- a recurrent pile has an opposite and an order -/
theorem opp_yes {m k : Nat} {L : List Lnk} {d : List Int} (h : piRB (m : Int) L (k : Int) d = true) :
    ∃ (o E : List Int) (j : Int), oppB (m : Int) L (k : Int) d = (o, true) ∧ orpB (m : Int) L (k : Int) d = (j, true) ∧ isrB (m : Int) L (k : Int) d = (true, true) ∧ idpB (m : Int) L (k : Int) = (E, true) ∧ addpB (m : Int) L (k : Int) d o = (E, true) ∧
      addpB (m : Int) L (k : Int) d E = (d, true) ∧ 1 ≤ j ∧ decide (j = 1) = decide (d = E) := by
  obtain ⟨m', k', hm, hk, _, _, hP, hl, hz, hr, hsb⟩ := piRB_parts h
  obtain rfl : m = m' := by omega
  obtain rfl : k = k' := by omega
  have hg : piGB (m : Int) L (k : Int) = true := by
    unfold piSB piAB at hsb
    simp only [Bool.and_eq_true] at hsb
    exact hsb.1.1
  have hA : piAB (m : Int) L (k : Int) d = true := by
    unfold piSB at hsb
    simp only [Bool.and_eq_true] at hsb
    exact hsb.1
  obtain ⟨f, hf⟩ : ∃ f : Nat → Int, (fun i => d.getD i 0) = f := ⟨_, rfl⟩
  have hd : lst m f = d := by rw [← hf]; exact lst_own hl
  have hfd : ∀ i, d.getD i 0 = f i := fun i => by rw [← hf]
  have hy := oppB_yes h
  have ho := orpB_yes h
  simp only [Int.toNat_natCast, hf] at hy ho
  rw [hf] at hz hr
  obtain ⟨o0, o1, _⟩ := op_facts hP hz hr
  obtain ⟨W, _⟩ := Gr.wt8 (G := grL m L hP.good) hP.hq hP.con
  have hid := id_pil hP
  have hop := op_pil hP hz
  have padd : ∀ (g : Nat → Int), PilZ m k 50 g → addpB (m : Int) L (k : Int) d (lst m g) = (lst m (Gr.stb (grL m L hP.good) k (fun i => f i + g i)), true) := fun g hgz => by
    have hgz2 : PilZ m k 50 (fun i => (lst m g).getD i 0) := ⟨fun v h1 h2 => by have := hgz.1 v h1 h2; dsimp only; rw [lst_at g h1]; omega, by show (lst m g).getD k 0 = 0; rw [lst_at g hP.hq]; exact hgz.2⟩
    have hb := piPB_of (piAB_mk hg (lst_len m g) hgz2)
    unfold addpB
    rw [hA, hb]
    simp only [Int.toNat_natCast, Bool.and_self, if_true]
    rw [stbL_eq hP.good]
    congr 1
    refine lst_congr fun i hi => ?_
    exact Gr.stb_congr (G := grL m L hP.good) W (fun v h1 h2 => by
      have a := hz.1 v h1 h2
      have b := hgz2.1 v h1 h2
      dsimp only at b ⊢
      rw [hfd]; omega) (fun v h1 _ => by rw [hfd, lst_at g (show v < m from h1)]) i hi
  refine ⟨_, lst m (idF m L k hP.good), _, hy, ho, ?_, ?_, ?_, ?_, ?_, ?_⟩
  · rw [isrB_yes hsb]
    simp only [Int.toNat_natCast]
    rw [hf, (recB_iff hP.good).2 hr]
  · have := idpB_yes hg
    simp only [Int.toNat_natCast] at this
    rw [this, idL_eq hP.good]
  · rw [o0, padd _ (hop _), ← o1]
    congr 2
    show Gr.stb _ _ _ = Gr.op _ _ _ _
    show Gr.stb _ _ _ = Gr.stb _ _ _
    congr 1
    funext i
    exact Int.add_comm _ _
  · rw [padd _ (hid.mono (by decide))]
    congr 1
    have h1 := Gr.op_ms (G := grL m L hP.good) hP.hq W hP.con hr 0
    rw [← hd]
    refine lst_eqv hP.good (q := k) ?_ ?_
    · have e : Gr.stb (grL m L hP.good) k (fun i => f i + idF m L k hP.good i) = Gr.op (grL m L hP.good) k f (0 + 1) := by
        show Gr.stb _ _ _ = Gr.stb _ _ _
        congr 1
        funext i
        exact Int.add_comm _ _
      rw [e]; exact h1
    · rw [Gr.stb_sink, hz.2]
  · omega
  · rw [decide_eq_decide]
    have h2 : (ordN m L k f : Int) + 1 = 1 ↔ ordN m L k f = 0 := by omega
    rw [h2, ordN_eq hP.good, ← hd, same_eqv hP.good hz.2 hid.2]
    obtain ⟨s1, s2⟩ := Gr.ord_spec (G := grL m L hP.good) hP.hq W hP.con hr
    constructor
    · intro e; rw [e] at s1; exact s1
    · intro e
      apply Classical.byContradiction
      intro hne
      exact s2 0 (by omega) e
end Go.Proofs.Ytifdhapaonideaa

/- The cursor that draws: next, pick, one, among. -/
namespace Go.Proofs.Ytifdhapaonideaa
open Go.RowKit
open Go.Lib (hid)

/-- a slice of bytes -/
def RBytes (w : World) (v : Value) (n : Nat) : Prop :=
  ∃ a cap, v = .slice a n cap ∧ n ≤ cap ∧ cap ≤ maxLen ∧ ∀ i, i < n → ∃ (g o : Nat) (x : Int), a = some ⟨g, o, none⟩ ∧ w.cell? ⟨g, o + i, none⟩ = some (.int .u8 x) ∧ 0 ≤ x ∧ x < 256
/-- a cursor in block b; its bytes lie below b; so many steps at most are behind it -/
def Cur (w : World) (b k : Nat) : Prop :=
  ∃ (a : Option Addr) (n cap : Nat) (at_ sd : Int), w.heap[b]? = some (.cells #[.slice a n cap, .int .i64 at_, .int .u64 sd] 65 (0, 0)) ∧ 0 ≤ at_ ∧ at_ ≤ (k : Int) ∧ n ≤ cap ∧ n ≤ cap ∧ cap ≤ maxLen ∧
    0 ≤ sd ∧ sd < 18446744073709551616 ∧ ∀ i, i < n → ∃ (g o : Nat) (x : Int), a = some ⟨g, o, none⟩ ∧ g < b ∧ w.cell? ⟨g, o + i, none⟩ = some (.int .u8 x) ∧ 0 ≤ x ∧ x < 256
theorem Cur.lt {w : World} {b k : Nat} (h : Cur w b k) : b < w.heap.size := by
  obtain ⟨a, n, cap, at_, sd, hb, _⟩ := h
  exact (Array.getElem?_eq_some_iff.1 hb).1
theorem Cur.keep {w w' : World} {b k : Nat} (h : Cur w b k) (hb : Below w.heap.size w w') : Cur w' b k := by
  obtain ⟨a, n, cap, at_, sd, h1, h2, h3, h4, h5, h6, h7, h8, h9⟩ := h
  refine ⟨a, n, cap, at_, sd, (hb.block _ (Array.getElem?_eq_some_iff.1 h1).1).trans h1, h2, h3, h4, h5, h6, h7, h8, fun i hi => ?_⟩
  obtain ⟨g, o, x, ha, hg, hc, hx⟩ := h9 i hi
  exact ⟨g, o, x, ha, hg, (hb.cell (p := ⟨g, o + i, none⟩) (cell_lt hc)).trans hc, hx⟩
theorem Cur.more {w : World} {b k j : Nat} (h : Cur w b k) (hk : k ≤ j) : Cur w b j := by
  obtain ⟨a, n, cap, at_, sd, h1, h2, h3, h4⟩ := h
  exact ⟨a, n, cap, at_, sd, h1, h2, by omega, h4⟩
theorem Cur.drewN {w : World} {b k q : Nat} (h : Cur w b k) : Cur (w.drewN q) b k := h
/-- a step of the cursor: only its block is written -/
def RetCur (b k : Nat) (w : World) (P : Int → Prop) (e : Ending) (w' : World) : Prop := ∃ x, e = .returned (.int .i64 x) ∧ P x ∧ Cur w' b k ∧ Touch b (b + 1) w w'

theorem u64_63 (n : Int) (h₀ : 0 ≤ n) (h₁ : n < 2 ^ 63) : IntKind.u64.wrap n = n := by rw [IntKind.wrap_u64]; omega
theorem seed_byte (S : Int) (h0 : 0 ≤ S) (h1 : S < 18446744073709551616) : ∃ x, wrap64 (bits .and .u64 (S / 1099511627776) 255) = x ∧ 0 ≤ x ∧ x < 256 := by
  have h := bits_mask .u64 63 (by decide) u64_63 8 (by decide) (S / 1099511627776) (by omega) (by omega)
  have e : ((2 : Int) ^ 8 - 1) = 255 := by decide
  have e2 : ((2 : Int) ^ 8) = 256 := by decide
  rw [e, e2] at h
  refine ⟨_, rfl, ?_⟩
  rw [h]
  unfold wrap64
  omega
theorem u64_range (x : Int) : 0 ≤ IntKind.u64.wrap x ∧ IntKind.u64.wrap x < 18446744073709551616 := by rw [IntKind.wrap_u64]; omega
theorem Touch.cell1 {lo hi : Nat} {w w' : World} (h : Touch lo hi w w') {b o : Nat} {v : Value} (hb : ¬ (lo ≤ b ∧ b < hi)) (hc : w.cell? ⟨b, o, none⟩ = some v) : w'.cell? ⟨b, o, none⟩ = some v := by
  have hlt : b < w.heap.size := cell_lt hc
  have hk := h.block b hlt hb
  unfold World.cell? at hc ⊢
  simp only at hc ⊢
  rw [hk]; exact hc
/-- the cursor behind a step -/
theorem cur_step {w : World} {b k : Nat} {a : Option Addr} {n cap : Nat} {at_ sd S : Int} {p r : Nat} (h1 : w.heap[b]? = some (.cells #[.slice a n cap, .int .i64 at_, .int .u64 sd] 65 (0, 0))) (h2 : 0 ≤ at_) (h3 : at_ ≤ (k : Int)) (h4 : n ≤ cap) (h5 : n ≤ cap) (h6 : cap ≤ maxLen)
    (h9 : ∀ i, i < n → ∃ (g o : Nat) (x : Int), a = some ⟨g, o, none⟩ ∧ g < b ∧ w.cell? ⟨g, o + i, none⟩ = some (.int .u8 x) ∧ 0 ≤ x ∧ x < 256) (hS : 0 ≤ S ∧ S < 18446744073709551616) :
    Cur ((((w.drewN p).setCell ⟨b, 1, none⟩ (.int .i64 (at_ + 1))).setCell ⟨b, 2, none⟩ (.int .u64 S)).drewN r) b (k + 1) ∧ Touch b (b + 1) w ((((w.drewN p).setCell ⟨b, 1, none⟩ (.int .i64 (at_ + 1))).setCell ⟨b, 2, none⟩ (.int .u64 S)).drewN r) := by
  have e1 := heap_setCell_same (w.drewN p) b 1 _ _ (.int .i64 (at_ + 1)) h1
  have e2 := heap_setCell_same _ b 2 _ _ (.int .u64 S) e1
  have hoth : ∀ c, c ≠ b → (((w.drewN p).setCell ⟨b, 1, none⟩ (.int .i64 (at_ + 1))).setCell ⟨b, 2, none⟩ (.int .u64 S)).heap[c]? = w.heap[c]? := fun c hc =>
    (heap_setCell_other _ _ _ _ hc).trans (heap_setCell_other _ _ _ _ hc)
  have hT : Touch b (b + 1) w ((((w.drewN p).setCell ⟨b, 1, none⟩ (.int .i64 (at_ + 1))).setCell ⟨b, 2, none⟩ (.int .u64 S)).drewN r) := ⟨rfl, rfl, rfl, by simp [World.setCell, World.drewN], fun c _ hc => hoth c (by omega)⟩
  refine ⟨⟨a, n, cap, at_ + 1, S, e2, by omega, by omega, h4, h5, h6, hS.1, hS.2, fun i hi => ?_⟩, hT⟩
  obtain ⟨g, o, x, ha, hg, hc, hx⟩ := h9 i hi
  exact ⟨g, o, x, ha, hg, hT.cell1 (by omega) hc, hx⟩

set_option maxRecDepth 100000 in
set_option maxHeartbeats 4000000 in
theorem next_c (b k : Nat) (w : World) (h : Cur w b k) (hk : k ≤ 1000000000000) :
    Calls Try.prog 100 #[.pointer (some ⟨b, 0, none⟩)] w (RetCur b (k + 1) w (fun x => 0 ≤ x ∧ x < 256)) := by
  obtain ⟨a, n, cap, at_, sd, h1, h2, h3, h4, h5, h6, h7, h8, h9⟩ := h
  unfold maxLen at h6
  have H1 := hid h1
  have H9 := hid h9
  have c0 : w.cell? ⟨b, 0, none⟩ = some (.slice a n cap) := by rw [cell_of_row _ _ _ _ _ _ h1]; rfl
  have c1 : w.cell? ⟨b, 1, none⟩ = some (.int .i64 at_) := by rw [cell_of_row _ _ _ _ _ _ h1]; rfl
  have c2 : w.cell? ⟨b, 2, none⟩ = some (.int .u64 sd) := by rw [cell_of_row _ _ _ _ _ _ h1]; rfl
  have d0 := frozen_of_row w b 0 _ _ h1
  have d1 := frozen_of_row w b 1 _ _ h1
  have d2 := frozen_of_row w b 2 _ _ h1
  have f1 : IntKind.i64.wrap (at_ + 1) = at_ + 1 := IntWalk.i64_in _ (by omega)
  clear h1 h9
  by_cases hlt : at_ < (n : Int)
  · obtain ⟨j, hj⟩ : ∃ j : Nat, at_ = j := ⟨at_.toNat, by omega⟩
    subst hj
    obtain ⟨g, o, x, rfl, hg, hc, hx1, hx2⟩ := H9.out j (by omega)
    have hgb : g ≠ b := by omega
    have t1 : decide ((j : Int) < (n : Int)) = true := decide_eq_true hlt
    have t2 : decide ((j : Int) + 1 ≤ (n : Int)) = true := decide_eq_true (by omega)
    go_enter Try.func100, Try.ntmps100
    go_wp2
    go_quiet (fail)
    go_wp2
    go_quiet (fail)
    go_wp2
    go_quiet (fail)
    go_wp2
    go_ret
    exact ⟨_, rfl, ⟨hx1, hx2⟩, cur_step H1.out h2 h3 h4 h5 h6 H9.out (u64_range _)⟩
  · have t1 : decide (at_ < (n : Int)) = false := decide_eq_false hlt
    have t2 : decide (at_ + 1 ≤ (n : Int)) = false := decide_eq_false (by omega)
    have t3 : ¬ (at_ + 1 ≤ (n : Int)) := by omega
    go_enter Try.func100, Try.ntmps100
    go_wp2
    go_quiet (fail)
    go_wp2
    go_quiet (fail)
    go_wp2
    go_ret
    refine ⟨_, rfl, ?_, cur_step (p := _) H1.out h2 h3 h4 h5 h6 H9.out (u64_range _)⟩
    obtain ⟨y, hy, h⟩ := seed_byte (IntKind.u64.wrap (IntKind.u64.wrap (IntKind.u64.wrap (sd * 6364136223846793005)) + 1442695040888963407)) (u64_range _).1 (u64_range _).2
    rw [← hy] at h
    exact h

theorem RetCur.mono {b k j : Nat} {w w1 w2 : World} {P : Int → Prop} {e : Ending} (h : RetCur b k w1 P e w2) (hk : k ≤ j) (ht : Touch b (b + 1) w w1) : RetCur b j w P e w2 := by
  obtain ⟨x, h1, h2, h3, h4⟩ := h
  exact ⟨x, h1, h2, h3.more hk, ht.trans h4⟩
set_option maxRecDepth 100000 in
set_option maxHeartbeats 4000000 in
theorem pick_c (b k : Nat) (n : Int) (w : World) (h : Cur w b k) (hk : k ≤ 999999999990) (hn : n ≤ 60000) :
    Calls Try.prog 79 #[.pointer (some ⟨b, 0, none⟩), .int .i64 n] w (RetCur b (k + 2) w (fun x => 0 ≤ x ∧ (x < n ∨ x = 0))) := by
  have HH := hid h
  clear h
  by_cases h1 : n ≤ 1
  · go_enter Try.func79, Try.ntmps79
    go_wp2
    go_ret
    exact ⟨0, rfl, ⟨Int.le_refl _, .inr rfl⟩, HH.out.more (by omega), Touch.refl _ _ _⟩
  · by_cases h2 : n > 200
    · go_enter Try.func79, Try.ntmps79
      go_wp2_with fail
      refine (next_c b k _ HH.out (by omega)).mono ?_
      rintro e w1 ⟨x, rfl, ⟨hx1, hx2⟩, hc1, ht1⟩
      have HC1 := hid hc1
      have HT1 := hid ht1
      clear hc1 ht1
      have f1 : IntKind.i64.wrap (x * 256) = x * 256 := IntWalk.i64_in _ (by omega)
      go_wp2_with fail
      refine (next_c b (k + 1) _ HC1.out (by omega)).mono ?_
      rintro e w2 ⟨y, rfl, ⟨hy1, hy2⟩, hc2, ht2⟩
      have HC2 := hid hc2
      have HT2 := hid (HT1.out.trans ht2)
      clear hc2 ht2
      have f2 : IntKind.i64.wrap (x * 256 + y) = x * 256 + y := IntWalk.i64_in _ (by omega)
      have f3 : (x * 256 + y).tmod n = (x * 256 + y) % n := Int.tmod_eq_emod_of_nonneg (by omega)
      have f4 := Int.emod_nonneg (x * 256 + y) (show n ≠ 0 by omega)
      have f5 := Int.emod_lt_of_pos (x * 256 + y) (show 0 < n by omega)
      have f6 : IntKind.i64.wrap ((x * 256 + y) % n) = (x * 256 + y) % n := IntWalk.i64_in _ (by omega)
      go_wp2
      go_ret
      exact ⟨_, rfl, ⟨f4, .inl f5⟩, HC2.out, HT2.out⟩
    · go_enter Try.func79, Try.ntmps79
      go_wp2_with fail
      refine (next_c b k _ HH.out (by omega)).mono ?_
      rintro e w1 ⟨x, rfl, ⟨hx1, hx2⟩, hc1, ht1⟩
      have HC1 := hid hc1
      have HT1 := hid ht1
      clear hc1 ht1
      have f3 : x.tmod n = x % n := Int.tmod_eq_emod_of_nonneg (by omega)
      have f4 := Int.emod_nonneg x (show n ≠ 0 by omega)
      have f5 := Int.emod_lt_of_pos x (show 0 < n by omega)
      have f6 : IntKind.i64.wrap (x % n) = x % n := IntWalk.i64_in _ (by omega)
      go_wp2
      go_ret
      exact ⟨_, rfl, ⟨f4, .inl f5⟩, HC1.out.more (by omega), HT1.out⟩

def RetCurB (b k : Nat) (w : World) (e : Ending) (w' : World) : Prop := ∃ x, e = .returned (.bool x) ∧ Cur w' b k ∧ Touch b (b + 1) w w'
set_option maxRecDepth 100000 in
set_option maxHeartbeats 4000000 in
theorem one_c (b k : Nat) (n : Int) (w : World) (h : Cur w b k) (hk : k ≤ 999999999990) (hn : n ≤ 60000) :
    Calls Try.prog 77 #[.pointer (some ⟨b, 0, none⟩), .int .i64 n] w (RetCurB b (k + 2) w) := by
  have HH := hid h
  clear h
  go_enter Try.func77, Try.ntmps77
  go_wp2_with fail
  refine (pick_c b k n _ HH.out hk hn).mono ?_
  rintro e w1 ⟨x, rfl, _, hc1, ht1⟩
  have HC1 := hid hc1
  have HT1 := hid ht1
  clear hc1 ht1
  go_wp2
  go_ret
  exact ⟨_, rfl, HC1.out, HT1.out⟩

set_option maxRecDepth 100000 in
set_option maxHeartbeats 4000000 in
theorem among_c (b k : Nat) (v : Value) (l : List Int) (w : World) (h : Cur w b k) (hk : k ≤ 999999999990) (hv : RInts w v l) (hl : 0 < l.length) (hl2 : l.length ≤ 1000) (hfr : ∀ p, v.ownBlock = some p → p ≠ b) :
    Calls Try.prog 78 #[.pointer (some ⟨b, 0, none⟩), v] w (RetCur b (k + 2) w (fun x => x ∈ l)) := by
  have HH := hid h
  obtain ⟨a, cap, rfl, h1, h2, hc⟩ := hv
  have HV := hid hc
  have HFR := hid hfr
  clear h hc hfr
  go_enter Try.func78, Try.ntmps78
  go_wp2_with fail
  refine (pick_c b k l.length _ HH.out hk (by omega)).mono ?_
  rintro e w1 ⟨x, rfl, ⟨hx1, hx2⟩, hc1, ht1⟩
  obtain ⟨y, rfl⟩ : ∃ y : Nat, x = y := ⟨x.toNat, by omega⟩
  have hy : y < l.length := by omega
  obtain ⟨g, o, x, rfl, hcell, HD, HX⟩ := ints_at HV.out hy
  have hgb : g ≠ b := HFR.out g rfl
  have hcell1 := ht1.cell1 (b := g) (by omega) hcell
  have HC1 := hid hc1
  have HT1 := hid ht1
  have hx : x ∈ l := by rw [← HX.out]; simp [List.getD, List.getElem?_eq_getElem hy]
  have hyz : (y : Int) < (l.length : Int) := by omega
  clear hc1 ht1
  go_wp2
  go_ret
  exact ⟨_, rfl, hx, HC1.out, HT1.out⟩

end Go.Proofs.Ytifdhapaonideaa

/- Slices of links of the call's own, that grow. -/
namespace Go.Proofs.Ytifdhapaonideaa
open Go.RowKit
open Go.Lib (hid)

/-- the cells of links -/
def flatL : List Lnk → List Value
  | [] => []
  | t :: ts => .int .i64 t.a :: .int .i64 t.b :: .int .i64 t.n :: flatL ts
theorem flatL_append (L M : List Lnk) : flatL (L ++ M) = flatL L ++ flatL M := by
  induction L with
  | nil => rfl
  | cons t ts ih => show _ :: _ :: _ :: flatL (ts ++ M) = _ :: _ :: _ :: (flatL ts ++ flatL M); rw [ih]
theorem flatL_len (L : List Lnk) : (flatL L).length = L.length * 3 := by
  induction L with
  | nil => rfl
  | cons t ts ih => show (flatL ts).length + 1 + 1 + 1 = (ts.length + 1) * 3; omega
theorem flatL_at (L : List Lnk) : ∀ i, i < L.length → (flatL L)[i * 3]? = some (.int .i64 (L.getD i noLnk).a) ∧ (flatL L)[i * 3 + 1]? = some (.int .i64 (L.getD i noLnk).b) ∧ (flatL L)[i * 3 + 2]? = some (.int .i64 (L.getD i noLnk).n) := by
  induction L with
  | nil => intro i hi; simp at hi
  | cons t ts ih =>
    intro i hi
    cases i with
    | zero => exact ⟨rfl, rfl, rfl⟩
    | succ i =>
      have := ih i (by simpa using hi)
      rw [show (i + 1) * 3 = i * 3 + 1 + 1 + 1 by omega]
      exact this
theorem flatL_set (L : List Lnk) : ∀ (i : Nat) (q : Int), i < L.length → (flatL L).set (i * 3 + 2) (.int .i64 q) = flatL (L.set i ⟨(L.getD i noLnk).a, (L.getD i noLnk).b, q⟩) := by
  induction L with
  | nil => intro i q hi; simp at hi
  | cons t ts ih =>
    intro i q hi
    cases i with
    | zero => rfl
    | succ i =>
      rw [show (i + 1) * 3 + 2 = i * 3 + 2 + 1 + 1 + 1 by omega]
      show _ :: _ :: _ :: (flatL ts).set (i * 3 + 2) _ = _ :: _ :: _ :: flatL (ts.set i _)
      rw [ih i q (by simpa using hi)]
      rfl

/-- v is a slice of links in a block of its own from lo on -/
def OLinks (w : World) (lo : Nat) (v : Value) (L : List Lnk) : Prop := w.ownsRow lo 104 3 v L.length (flatL L)
theorem olinks_nil (w : World) (lo : Nat) : OLinks w lo (.slice none 0 0) [] := World.ownsRow_nil _ _ _ _
theorem OLinks.keep {w w' : World} {lo : Nat} {v : Value} {L : List Lnk} (h : OLinks w lo v L) (hb : Below w.heap.size w w') : OLinks w' lo v L := by
  refine ⟨h.1, ?_⟩
  rcases h.2 with hn | ⟨g, cap, cur, rfl, hb1, hg, rest⟩
  · exact .inl hn
  · exact .inr ⟨g, cap, cur, rfl, hb1, by rw [hb.block g (Array.getElem?_eq_some_iff.1 hg).1]; exact hg, rest⟩
theorem OLinks.touch {w w' : World} {lo b c : Nat} {v : Value} {L : List Lnk} (h : OLinks w lo v L) (hb : Touch b c w w') (hc : c ≤ lo) : OLinks w' lo v L := by
  refine ⟨h.1, ?_⟩
  rcases h.2 with hn | ⟨g, cap, cur, rfl, hb1, hg, rest⟩
  · exact .inl hn
  · exact .inr ⟨g, cap, cur, rfl, hb1, by rw [hb.block g (Array.getElem?_eq_some_iff.1 hg).1 (by omega)]; exact hg, rest⟩
theorem OLinks.form {w : World} {lo : Nat} {v : Value} {L : List Lnk} (h : OLinks w lo v L) : ∃ a n cap, v = .slice a n cap := by
  rcases h.2 with ⟨rfl, _⟩ | ⟨g, cap, cur, rfl, _⟩
  · exact ⟨_, _, _, rfl⟩
  · exact ⟨_, _, _, rfl⟩
theorem OLinks.form2 {w : World} {lo : Nat} {v : Value} {L : List Lnk} (h : OLinks w lo v L) : ∃ a cap, v = .slice a L.length cap := by
  rcases h.2 with ⟨rfl, hn⟩ | ⟨g, cap, cur, rfl, _⟩
  · rw [hn]; exact ⟨_, _, rfl⟩
  · exact ⟨_, _, rfl⟩
theorem OLinks.r {w : World} {lo : Nat} {v : Value} {L : List Lnk} (h : OLinks w lo v L) : RLinks w v L := by
  have h2' := h
  rcases h.2 with ⟨rfl, hn⟩ | ⟨g, cap, cur, rfl, _, _, hnc, hcm, _⟩
  · have hL : L = [] := List.length_eq_zero_iff.1 hn
    subst hL
    exact ⟨none, 0, rfl, Nat.le_refl _, by unfold maxLen; omega, fun i hi => by simp at hi⟩
  · refine ⟨_, cap, rfl, hnc, hcm, fun i hi => ⟨g, 0, rfl, ?_, ?_, ?_⟩⟩
    · rw [Nat.zero_add, h2'.cellAt (i * 3) (by omega)]; exact (flatL_at L i hi).1
    · rw [Nat.zero_add, h2'.cellAt (i * 3 + 1) (by omega)]; exact (flatL_at L i hi).2.1
    · rw [Nat.zero_add, h2'.cellAt (i * 3 + 2) (by omega)]; exact (flatL_at L i hi).2.2

theorem run_append_links {w : World} {lo : Nat} {v : Value} {L : List Lnk} (ty : TypeId) (h : OLinks w lo v L) {g c : Nat} {x y z : Int}
    (h0 : w.cell? ⟨g, 0, none⟩ = some (.int .i64 x)) (h1 : w.cell? ⟨g, 1, none⟩ = some (.int .i64 y)) (h2 : w.cell? ⟨g, 2, none⟩ = some (.int .i64 z))
    (hlen : L.length + 1 ≤ 1048576) (hlo : lo ≤ w.heap.size) :
    ∃ v' w', (Builtin.append_ #[24, 24] ty #[v, .slice (some ⟨g, 0, none⟩) 1 c]).run Try.prog w = .ok v' w' ∧ OLinks w' lo v' (L ++ [⟨x, y, z⟩]) ∧ w.grownBy w' v.ownBlock := by
  obtain ⟨i0, hi0, hz0, hz1, hz2⟩ := info_parts Try.infoLink
  obtain ⟨v', w', hr, hown, hg, hn⟩ := run_append_own (P := Try.prog) w lo 24 ty 104 i0 (.agg #[.int .i64 0, .int .i64 0, .int .i64 0]) 3 24 Try.underlying24 hi0 hz0 hz1 hz2 rfl (by decide) v L.length (flatL L) h
    ⟨g, 0, none⟩ 1 c (flatL [⟨x, y, z⟩]) (flatL_len _) (fun j u hu => by
      rw [addr_add, Nat.zero_add]
      match j, hu with
      | 0, hu => cases hu; exact h0
      | 1, hu => cases hu; exact h1
      | 2, hu => cases hu; exact h2
      | j + 3, hu => simp [flatL] at hu) (fun u hu => by
      simp only [flatL, List.mem_cons, List.not_mem_nil, or_false] at hu
      rcases hu with rfl | rfl | rfl <;> rfl) (by unfold maxLen; omega) (by omega) hlo
  exact ⟨v', w', hr, by unfold OLinks; rw [List.length_append, flatL_append]; exact hown, hg⟩

theorem wpList_append_links {w : World} {ops : Array Oper} {rest : List Oper} {o : Oper} {a : Act} {Q : Exit → Act → World → Prop} (hgd : o.guard = none) (s x : Operand)
    (ho : o.op = .call { callee := .builtin .append, args := #[s, x], argTypes := #[24, 24] }) (lo : Nat) (v : Value) (L : List Lnk) (g c : Nat) (x1 x2 x3 : Int) (hs : a.eval s = v) (hx : a.eval x = .slice (some ⟨g, 0, none⟩) 1 c)
    (h : OLinks w lo v L) (h0 : w.cell? ⟨g, 0, none⟩ = some (.int .i64 x1)) (h1 : w.cell? ⟨g, 1, none⟩ = some (.int .i64 x2)) (h2 : w.cell? ⟨g, 2, none⟩ = some (.int .i64 x3))
    (hlen : L.length + 1 ≤ 1048576) (hlo : lo ≤ w.heap.size)
    (hh : ∀ v' w', OLinks w' lo v' (L ++ [⟨x1, x2, x3⟩]) → w.grownBy w' v.ownBlock → wpList Try.prog ops Q rest (a.put o.dst v') w') : wpList Try.prog ops Q (o :: rest) a w := by
  refine wpList_plain hgd fun K hK => ?_
  obtain ⟨v', w', hr', h2, h3⟩ := run_append_links (c := c) o.type h h0 h1 h2 hlen hlo
  unfold Oper.wp execOp
  simp only [ho, resolve, invoke, builtin, Sem.run_bind, Sem.run_pure, Result.andThen_ok, List.map_toArray, List.map_cons, List.map_nil, hs, hx, hr']
  exact hK _ _ (hh v' w' h2 h3)

theorem OLinks.below {w w' a : World} {lo B : Nat} {v : Value} {L : List Lnk} (h : OLinks w lo v L) (hb : Below B a w) (hg : w.grownBy w' v.ownBlock) (hlo : B ≤ lo) (hB : B ≤ w.heap.size) : Below B a w' :=
  hb.grown hg hB (fun k hk => Nat.le_trans hlo (h.lt k hk).1)
theorem OLinks.set {w : World} {lo : Nat} {a : Option Addr} {n cap : Nat} {L : List Lnk} (h : OLinks w lo (.slice a n cap) L) {i : Nat} (hi : i < L.length) :
    ∃ g, a = some ⟨g, 0, none⟩ ∧ n = L.length ∧ lo ≤ g ∧ g < w.heap.size ∧ (∃ q, w.cell? ⟨g, i * 3 + 2, none⟩ = some (.int .i64 q)) ∧ w.frozen? ⟨g, i * 3 + 2, none⟩ = false ∧
      ∀ q, OLinks (w.setCell ⟨g, i * 3 + 2, none⟩ (.int .i64 q)) lo (.slice (some ⟨g, 0, none⟩) n cap) (L.set i ⟨(L.getD i noLnk).a, (L.getD i noLnk).b, q⟩) := by
  have h2' := h
  rcases h.2 with ⟨hv, hn⟩ | ⟨g, cap', cur, hv, hlo, hg, hnc, hcm, _⟩
  · omega
  · simp only [Value.slice.injEq] at hv
    obtain ⟨rfl, rfl, rfl⟩ := hv
    refine ⟨g, rfl, rfl, hlo, (Array.getElem?_eq_some_iff.1 hg).1, ⟨(L.getD i noLnk).n, ?_⟩, frozen_of_row _ _ _ _ _ hg, fun q => ?_⟩
    · rw [h2'.cellAt (i * 3 + 2) (by omega)]; exact (flatL_at L i hi).2.2
    · unfold OLinks; rw [← flatL_set L i q hi, List.length_set]; exact (h2'.stored (i * 3 + 2) (.int .i64 q)).1

end Go.Proofs.Ytifdhapaonideaa

/- Drawn graphs: graph, anyGraph. -/
namespace Go.Proofs.Ytifdhapaonideaa
open Go.RowKit
open Go.Lib (hid)

/-- only the cursor's block and what is new from lo on is written -/
structure Dr (b lo : Nat) (w w' : World) : Prop where
  os : w'.os = w.os
  tape : w'.tape = w.tape
  output : w'.output = w.output
  size : w.heap.size ≤ w'.heap.size
  block : ∀ c, c < lo → c ≠ b → w'.heap[c]? = w.heap[c]?
theorem Dr.refl (b lo : Nat) (w : World) : Dr b lo w w := ⟨rfl, rfl, rfl, Nat.le_refl _, fun _ _ _ => rfl⟩
theorem Dr.trans {b lo : Nat} {w w1 w2 : World} (h : Dr b lo w w1) (k : Dr b lo w1 w2) : Dr b lo w w2 :=
  ⟨k.os.trans h.os, k.tape.trans h.tape, k.output.trans h.output, Nat.le_trans h.size k.size, fun c h1 h2 => (k.block c h1 h2).trans (h.block c h1 h2)⟩
theorem Dr.low {b lo lo' : Nat} {w w' : World} (h : Dr b lo w w') (hl : lo' ≤ lo) : Dr b lo' w w' := ⟨h.os, h.tape, h.output, h.size, fun c h1 h2 => h.block c (by omega) h2⟩
theorem Dr.touch {b lo : Nat} {a w w' : World} (h : Dr b lo a w) (hlo : lo ≤ a.heap.size) (k : Touch b (b + 1) w w') : Dr b lo a w' :=
  h.trans ⟨k.os, k.tape, k.output, k.size, fun c h1 h2 => k.block c (by have := h.size; omega) (by omega)⟩
theorem Dr.below {b lo : Nat} {a w w' : World} (h : Dr b lo a w) (k : Below lo w w') : Dr b lo a w' :=
  h.trans ⟨k.os, k.tape, k.output, k.size, fun c h1 _ => k.block c h1⟩
theorem Cur.low {w w' : World} {b k : Nat} (h : Cur w b k) (hb : Below (b + 1) w w') : Cur w' b k := by
  obtain ⟨a, n, cap, at_, sd, h1, h2, h3, h4, h5, h6, h7, h8, h9⟩ := h
  refine ⟨a, n, cap, at_, sd, (hb.block _ (by omega)).trans h1, h2, h3, h4, h5, h6, h7, h8, fun i hi => ?_⟩
  obtain ⟨g, o, x, ha, hg, hc, hx⟩ := h9 i hi
  exact ⟨g, o, x, ha, hg, (hb.cell (p := ⟨g, o + i, none⟩) (show g < b + 1 by omega)).trans hc, hx⟩

theorem wpList_push_link {W0 W : World} {ops : Array Oper} {rest : List Oper} {o : Oper} {a : Act} {Q : Exit → Act → World → Prop} (hgd : o.guard = none) (s x : Operand)
    (ho : o.op = .call { callee := .builtin .append, args := #[s, x], argTypes := #[24, 24] }) (b k lo : Nat) (v : Value) (L : List Lnk) (p q r : Int) (hs : a.eval s = v) (hx : a.eval x = .slice (some ⟨W.heap.size, 0, none⟩) 1 1)
    (hO : OLinks W lo v L) (hd : Dr b lo W0 W) (hC : Cur W b k) (hb : b < lo) (hlo : lo ≤ W.heap.size) (hl : L.length < 1048576)
    (h : ∀ v' w', OLinks w' lo v' (L ++ [⟨p, q, r⟩]) → Dr b lo W0 w' → Cur w' b k → lo ≤ w'.heap.size → wpList Try.prog ops Q rest (a.put o.dst v') w') :
    wpList Try.prog ops Q (o :: rest) a (W.alloc (.cells #[.int .i64 p, .int .i64 q, .int .i64 r] 104)) := by
  have hal : Below W.heap.size W (W.alloc (.cells #[.int .i64 p, .int .i64 q, .int .i64 r] 104)) := (Below.refl _ _).alloc (Nat.le_refl _) _
  have hrow := heap_alloc_new W (.cells #[.int .i64 p, .int .i64 q, .int .i64 r] 104)
  have hO1 := hO.keep hal
  refine wpList_append_links hgd s x ho lo v L W.heap.size 1 p q r hs hx hO1 (by rw [cell_of_row _ _ _ _ _ _ hrow]; rfl) (by rw [cell_of_row _ _ _ _ _ _ hrow]; rfl) (by rw [cell_of_row _ _ _ _ _ _ hrow]; rfl) (by omega) (by have := hal.size; omega) ?_
  intro v' w' h1 h2
  have hbl := hO1.below (hal.mono hlo) h2 (Nat.le_refl _) (by have := hal.size; omega)
  exact h v' w' h1 (hd.below hbl) (hC.low (hbl.mono (by omega))) (Nat.le_trans hlo hbl.size)

/-- a drawn graph -/
def RetGraph (b k : Nat) (w : World) (e : Ending) (w' : World) : Prop := ∃ (n : Int) (v : Value) (L : List Lnk), e = .returned (.tuple #[.int .i64 n, v]) ∧ -1 ≤ n ∧ n ≤ 9 ∧ L.length ≤ 101 ∧ OLinks w' w.heap.size v L ∧ Cur w' b k ∧ Dr b w.heap.size w w'
/-- a drawn graph, valid by its making -/
def RetGraph0 (b k : Nat) (w : World) (e : Ending) (w' : World) : Prop := ∃ (n : Int) (v : Value) (L : List Lnk), e = .returned (.tuple #[.int .i64 n, v]) ∧ 1 ≤ n ∧ n ≤ 8 ∧ L.length ≤ 100 ∧ OLinks w' w.heap.size v L ∧ Cur w' b k ∧ Dr b w.heap.size w w'

set_option maxRecDepth 100000 in
set_option maxHeartbeats 4000000 in
theorem graph_c (b k : Nat) (w : World) (h : Cur w b k) (hk : k ≤ 900000000000) :
    Calls Try.prog 106 #[.pointer (some ⟨b, 0, none⟩)] w (RetGraph0 b (k + 1000) w) := by
  have HH := hid h
  have hlt0 := h.lt
  obtain ⟨lo, hlo⟩ : ∃ lo, w.heap.size = lo := ⟨_, rfl⟩
  have HLO := hid hlo
  rw [hlo] at hlt0
  clear h hlo
  unfold RetGraph0
  rw [HLO.out]
  go_enter Try.func106, Try.ntmps106
  go_wp2_with fail
  refine (pick_c b k 5 _ HH.out (by omega) (by omega)).mono ?_
  rintro e w1 ⟨n0, rfl, ⟨hn1, hn2⟩, hc1, ht1⟩
  have HC1 := hid hc1
  have HT1 := hid ((Dr.refl b lo w).touch (Nat.le_of_eq HLO.out.symm) ht1)
  clear hc1 ht1
  have f1 : IntKind.i64.wrap (1 + n0) = 1 + n0 := IntWalk.i64_in _ (by omega)
  go_wp2_with fail
  refine (one_c b (k + 2) 16 _ HC1.out (by omega) (by omega)).mono ?_
  rintro e w2 ⟨x, rfl, hc2, ht2⟩
  have HC2 := hid hc2
  have HT2 := hid (HT1.out.touch (Nat.le_of_eq HLO.out.symm) ht2)
  clear hc2 ht2
  cases x
  case' false => obtain ⟨m, hm, hm1, hm8⟩ : ∃ m : Nat, 1 + n0 = m ∧ 1 ≤ m ∧ m ≤ 8 := ⟨(1 + n0).toNat, by omega, by omega, by omega⟩
  case' true => obtain ⟨m, hm, hm1, hm8⟩ : ∃ m : Nat, (8 : Int) = m ∧ 1 ≤ m ∧ m ≤ 8 := ⟨8, rfl, by omega, by omega⟩
  all_goals
    go_wp2_with fail
    refine (pick_c b (k + 4) 3 _ HC2.out (by omega) (by omega)).mono ?_
    rintro e w3 ⟨y, rfl, ⟨hy1, hy2⟩, hc3, ht3⟩
    have HC3 := hid hc3
    have HT3 := hid (HT2.out.touch (Nat.le_of_eq HLO.out.symm) ht3)
    have HS3 : Hid (lo ≤ w3.heap.size) := by have := HT3.out.size; have := HLO.out; show _ ≤ _; omega
    clear hc3 ht3
    have f2 : IntKind.i64.wrap (1 + y) = 1 + y := IntWalk.i64_in _ (by omega)
    have f3 : IntKind.i64.wrap (1 + y + 1) = 1 + y + 1 := IntWalk.i64_in _ (by omega)
    go_wp2
    clear hm
    go_loopg [6, 7] m (fun gk lv iv wr => ∃ (i : Nat) (L : List Lnk) (s : Nat), iv = .int .i64 i ∧ i ≤ m ∧ gk = m - i ∧ Cur wr b s ∧ s ≤ k + 10 + i * 80 ∧ OLinks wr lo lv L ∧ L.length ≤ i * 8 ∧ Dr b lo w wr ∧ lo ≤ wr.heap.size)
    case atStart => exact ⟨0, [], _, rfl, by omega, rfl, HC3.out, by omega, olinks_nil _ _, by simp, HT3.out, HS3.out⟩
    case round =>
      obtain ⟨i, L0, s, rfl, hi, rfl, hc, hs, hO, hl, hd, hsz⟩ := hrel
      have HC4 := hid hc
      have HO4 := hid hO
      have HT4 := hid hd
      have HS4 := hid hsz
      clear hc hO hd hsz
      by_cases hlt : i < m
      · have hltz : (i : Int) < (m : Int) := by omega
        have f4 : IntKind.i64.wrap ((i : Int) + 1) = (i : Int) + 1 := IntWalk.i64_in _ (by omega)
        go_wp2
        go_loopg [6, 8] (m - (i + 1)) (fun gk lv jv wr => ∃ (j : Nat) (L : List Lnk) (q : Nat), jv = .int .i64 j ∧ j ≤ m ∧ i < j ∧ gk = m - j ∧ Cur wr b q ∧ q ≤ k + 10 + i * 80 + j * 8 ∧ OLinks wr lo lv L ∧ L.length ≤ i * 8 + (j - i - 1) ∧ Dr b lo w wr ∧ lo ≤ wr.heap.size)
        case atStart => exact ⟨i + 1, L0, s, by go_num, by omega, by omega, by omega, HC4.out, by omega, HO4.out, by omega, HT4.out, HS4.out⟩
        case round =>
          obtain ⟨j, L, q, rfl, hj, hij, rfl, hc, hq, hO, hl5, hd, hsz⟩ := hrel
          have HC5 := hid hc
          have HO5 := hid hO
          have HT5 := hid hd
          have HS5 := hid hsz
          clear hc hO hd hsz
          by_cases hltj : j < m
          · have hltzj : (j : Int) < (m : Int) := by omega
            rcases Bool.eq_false_or_eq_true ((j : Int) == (i : Int) + 1) with tb | tb
            · go_wp2_with fail
              refine (one_c b (q) 12 _ HC5.out (by omega) (by omega)).mono ?_
              rintro e wz ⟨z1, rfl, hcz, htz⟩
              have HCZ := hid hcz
              have HTZ := hid (HT5.out.touch (Nat.le_of_eq HLO.out.symm) htz)
              have HOZ := hid (HO5.out.touch htz hlt0)
              have HSZ : Hid (lo ≤ wz.heap.size) := Nat.le_trans HS5.out htz.size
              clear hcz htz
              cases z1
              · have HLT := hid (ints_lit wz wz.heap.size (Nat.le_refl _) [1, 1, 1, 2, 5] (by simp)).r
                have HAL : Hid (Below wz.heap.size wz _) := (Below.refl wz.heap.size wz).alloc (Nat.le_refl _) (.cells ([1, 1, 1, 2, 5].map (.int .i64 ·)).toArray 3)
                go_wp2_with fail
                refine (among_c b (q + 2) _ [1, 1, 1, 2, 5] _ (HCZ.out.keep HAL.out) (by omega) HLT.out (by simp) (by simp) (fun p hp => by simp [Value.ownBlock] at hp; have := HSZ.out; omega)).mono ?_
                rintro e w8 ⟨x8, rfl, _, hc8, ht8⟩
                have HC8 := hid hc8
                have HT8 := hid ((HTZ.out.below (HAL.out.mono HSZ.out)).touch (Nat.le_of_eq HLO.out.symm) ht8)
                have HO8 := hid ((HOZ.out.keep HAL.out).touch ht8 hlt0)
                have HS8 : Hid (lo ≤ w8.heap.size) := Nat.le_trans (Nat.le_trans HSZ.out HAL.out.size) ht8.size
                clear hc8 ht8
                go_wp2_with (at_builtin; (refine wpList_push_link (W0 := w) rfl _ _ rfl b (k := q + 4) lo _ L (i : Int) (j : Int) x8 ?_ ?_ HO8.out HT8.out HC8.out hlt0 HS8.out ?_ ?_))
                · rfl
                · rfl
                · omega
                intro v9 w9 hO9 hd9 hc9 hs9
                have HO9 := hid hO9; have HT9 := hid hd9; have HC9 := hid hc9; have HS9 := hid hs9
                clear hO9 hd9 hc9 hs9
                go_wp2
                go_roundg (m - (j + 1))
                case rel => exact ⟨j + 1, _, _, by go_num, by omega, by omega, by omega, HC9.out, by omega, HO9.out, by rw [List.length_append]; simp; omega, HT9.out, HS9.out⟩
                case measure => omega
              · go_wp2_with fail
                refine (one_c b (q + 2) (1 + y + 1) _ HCZ.out (by omega) (by omega)).mono ?_
                rintro e wv ⟨z2, rfl, hcv, htv⟩
                have HCV := hid hcv
                have HTV := hid (HTZ.out.touch (Nat.le_of_eq HLO.out.symm) htv)
                have HOV := hid (HOZ.out.touch htv hlt0)
                have HSV : Hid (lo ≤ wv.heap.size) := Nat.le_trans HSZ.out htv.size
                clear hcv htv
                cases z2
                · go_wp2
                  go_roundg (m - (j + 1))
                  case rel => exact ⟨j + 1, L, _, by go_num, by omega, by omega, by omega, HCV.out, by omega, HOV.out, by omega, HTV.out, HSV.out⟩
                  case measure => omega
                · have HLT := hid (ints_lit wv wv.heap.size (Nat.le_refl _) [1, 1, 1, 2, 5] (by simp)).r
                  have HAL : Hid (Below wv.heap.size wv _) := (Below.refl wv.heap.size wv).alloc (Nat.le_refl _) (.cells ([1, 1, 1, 2, 5].map (.int .i64 ·)).toArray 3)
                  go_wp2_with fail
                  refine (among_c b (q + 2 + 2) _ [1, 1, 1, 2, 5] _ (HCV.out.keep HAL.out) (by omega) HLT.out (by simp) (by simp) (fun p hp => by simp [Value.ownBlock] at hp; have := HSV.out; omega)).mono ?_
                  rintro e w8 ⟨x8, rfl, _, hc8, ht8⟩
                  have HC8 := hid hc8
                  have HT8 := hid ((HTV.out.below (HAL.out.mono HSV.out)).touch (Nat.le_of_eq HLO.out.symm) ht8)
                  have HO8 := hid ((HOV.out.keep HAL.out).touch ht8 hlt0)
                  have HS8 : Hid (lo ≤ w8.heap.size) := Nat.le_trans (Nat.le_trans HSV.out HAL.out.size) ht8.size
                  clear hc8 ht8
                  go_wp2_with (at_builtin; (refine wpList_push_link (W0 := w) rfl _ _ rfl b (k := q + 6) lo _ L (i : Int) (j : Int) x8 ?_ ?_ HO8.out HT8.out HC8.out hlt0 HS8.out ?_ ?_))
                  · rfl
                  · rfl
                  · omega
                  intro v9 w9 hO9 hd9 hc9 hs9
                  have HO9 := hid hO9; have HT9 := hid hd9; have HC9 := hid hc9; have HS9 := hid hs9
                  clear hO9 hd9 hc9 hs9
                  go_wp2
                  go_roundg (m - (j + 1))
                  case rel => exact ⟨j + 1, _, _, by go_num, by omega, by omega, by omega, HC9.out, by omega, HO9.out, by rw [List.length_append]; simp; omega, HT9.out, HS9.out⟩
                  case measure => omega
            · go_wp2_with fail
              refine (one_c b (q) (1 + y + 1) _ HC5.out (by omega) (by omega)).mono ?_
              rintro e wz ⟨z2, rfl, hcz, htz⟩
              have HCZ := hid hcz
              have HTZ := hid (HT5.out.touch (Nat.le_of_eq HLO.out.symm) htz)
              have HOZ := hid (HO5.out.touch htz hlt0)
              have HSZ : Hid (lo ≤ wz.heap.size) := Nat.le_trans HS5.out htz.size
              clear hcz htz
              cases z2
              · go_wp2
                go_roundg (m - (j + 1))
                case rel => exact ⟨j + 1, L, _, by go_num, by omega, by omega, by omega, HCZ.out, by omega, HOZ.out, by omega, HTZ.out, HSZ.out⟩
                case measure => omega
              · have HLT := hid (ints_lit wz wz.heap.size (Nat.le_refl _) [1, 1, 1, 2, 5] (by simp)).r
                have HAL : Hid (Below wz.heap.size wz _) := (Below.refl wz.heap.size wz).alloc (Nat.le_refl _) (.cells ([1, 1, 1, 2, 5].map (.int .i64 ·)).toArray 3)
                go_wp2_with fail
                refine (among_c b (q + 2) _ [1, 1, 1, 2, 5] _ (HCZ.out.keep HAL.out) (by omega) HLT.out (by simp) (by simp) (fun p hp => by simp [Value.ownBlock] at hp; have := HSZ.out; omega)).mono ?_
                rintro e w8 ⟨x8, rfl, _, hc8, ht8⟩
                have HC8 := hid hc8
                have HT8 := hid ((HTZ.out.below (HAL.out.mono HSZ.out)).touch (Nat.le_of_eq HLO.out.symm) ht8)
                have HO8 := hid ((HOZ.out.keep HAL.out).touch ht8 hlt0)
                have HS8 : Hid (lo ≤ w8.heap.size) := Nat.le_trans (Nat.le_trans HSZ.out HAL.out.size) ht8.size
                clear hc8 ht8
                go_wp2_with (at_builtin; (refine wpList_push_link (W0 := w) rfl _ _ rfl b (k := q + 4) lo _ L (i : Int) (j : Int) x8 ?_ ?_ HO8.out HT8.out HC8.out hlt0 HS8.out ?_ ?_))
                · rfl
                · rfl
                · omega
                intro v9 w9 hO9 hd9 hc9 hs9
                have HO9 := hid hO9; have HT9 := hid hd9; have HC9 := hid hc9; have HS9 := hid hs9
                clear hO9 hd9 hc9 hs9
                go_wp2
                go_roundg (m - (j + 1))
                case rel => exact ⟨j + 1, _, _, by go_num, by omega, by omega, by omega, HC9.out, by omega, HO9.out, by rw [List.length_append]; simp; omega, HT9.out, HS9.out⟩
                case measure => omega
          · obtain rfl : j = m := by omega
            go_wp2
            go_roundg (j - (i + 1))
            case rel => exact ⟨i + 1, L, q, by go_num, by omega, rfl, HC5.out, by omega, HO5.out, by omega, HT5.out, HS5.out⟩
            case measure => omega
      · obtain rfl : i = m := by omega
        go_wp2
        go_ret2
        exact ⟨_, _, _, rfl, by omega, by omega, by omega, HO4.out, HC4.out.more (by omega), HT4.out⟩

end Go.Proofs.Ytifdhapaonideaa

/- Drawn graphs: anyGraph. -/
namespace Go.Proofs.Ytifdhapaonideaa
open Go.RowKit
open Go.Lib (hid)

theorem olinks_cell {w : World} {lo : Nat} {a : Option Addr} {n cap : Nat} {L : List Lnk} (h : OLinks w lo (.slice a n cap) L) (hl : 0 < L.length) : ∃ g, a = some ⟨g, 0, none⟩ ∧ n = L.length := by
  obtain ⟨g, h1, h2, _⟩ := h.set hl
  exact ⟨g, h1, h2⟩

set_option maxRecDepth 100000 in
set_option maxHeartbeats 4000000 in
theorem anyGraph_c (b k : Nat) (w : World) (h : Cur w b k) (hk : k ≤ 800000000000) :
    Calls Try.prog 97 #[.pointer (some ⟨b, 0, none⟩)] w (RetGraph b (k + 2000) w) := by
  have HH := hid h
  have hlt0 := h.lt
  obtain ⟨lo, hlo⟩ : ∃ lo, w.heap.size = lo := ⟨_, rfl⟩
  have HLO := hid hlo
  rw [hlo] at hlt0
  clear h hlo
  unfold RetGraph
  rw [HLO.out]
  go_enter Try.func97, Try.ntmps97
  go_wp2_with fail
  refine (graph_c b k _ HH.out (by omega)).mono ?_
  rintro e w1 ⟨n, v, L, rfl, hn1, hn8, hl, hO, hc, hd⟩
  rw [HLO.out] at hO hd
  have HS1 : Hid (lo ≤ w1.heap.size) := by have := hd.size; have := HLO.out; show _ ≤ _; omega
  have HO1 := hid hO
  have HC1 := hid hc
  have HT1 := hid hd
  obtain ⟨a1, c1, rfl⟩ := hO.form2
  clear hO hc hd
  go_wp2_with fail
  refine (pick_c b (k + 1000) 30 _ HC1.out (by omega) (by omega)).mono ?_
  rintro e w2 ⟨x, rfl, ⟨hx1, hx2⟩, hc2, ht2⟩
  have HC2 := hid hc2
  have HT2 := hid (HT1.out.touch (Nat.le_of_eq HLO.out.symm) ht2)
  have HO2 := hid (HO1.out.touch ht2 hlt0)
  have HS2 : Hid (lo ≤ w2.heap.size) := Nat.le_trans HS1.out ht2.size
  have f1 : IntKind.i64.wrap (n - 1) = n - 1 := IntWalk.i64_in _ (by omega)
  have f2 : IntKind.i64.wrap (n + 1) = n + 1 := IntWalk.i64_in _ (by omega)
  clear hc2 ht2
  rcases Bool.eq_false_or_eq_true (x == 0) with t0 | t0
  · have HLT := hid (ints_lit w2 w2.heap.size (Nat.le_refl _) [0, -1, 9, n - 1] (by simp)).r
    have HAL : Hid (Below w2.heap.size w2 _) := (Below.refl w2.heap.size w2).alloc (Nat.le_refl _) (.cells ([0, -1, 9, n - 1].map (.int .i64 ·)).toArray 3)
    go_wp2_with fail
    refine (among_c b (k + 1000 + 2) _ [0, -1, 9, n - 1] _ (HC2.out.keep HAL.out) (by omega) HLT.out (by simp) (by simp) (fun p hp => by simp [Value.ownBlock] at hp; have := HS2.out; omega)).mono ?_
    rintro e w8 ⟨x8, rfl, hx8, hc8, ht8⟩
    have HC8 := hid hc8
    have HT8 := hid ((HT2.out.below (HAL.out.mono HS2.out)).touch (Nat.le_of_eq HLO.out.symm) ht8)
    have HO8 := hid ((HO2.out.keep HAL.out).touch ht8 hlt0)
    have hx9 : -1 ≤ x8 ∧ x8 ≤ 9 := by simp at hx8; omega
    clear hc8 ht8 hx8
    go_wp2
    go_ret2
    exact ⟨_, _, _, rfl, hx9.1, hx9.2, by omega, HO8.out, HC8.out.more (by omega), HT8.out⟩
  · rcases Bool.eq_false_or_eq_true (x == 1) with t1 | t1
    · go_wp2_with fail
      refine (pick_c b (k + 1000 + 2) 3 _ HC2.out (by omega) (by omega)).mono ?_
      rintro e w3 ⟨y, rfl, _, hc3, ht3⟩
      have HC3 := hid hc3
      have HT3 := hid (HT2.out.touch (Nat.le_of_eq HLO.out.symm) ht3)
      have HO3 := hid (HO2.out.touch ht3 hlt0)
      have HS3 : Hid (lo ≤ w3.heap.size) := Nat.le_trans HS2.out ht3.size
      clear hc3 ht3
      go_wp2_with fail
      refine (pick_c b (k + 1000 + 4) (n + 1) _ HC3.out (by omega) (by omega)).mono ?_
      rintro e w4 ⟨z, rfl, _, hc4, ht4⟩
      have HC4 := hid hc4
      have HT4 := hid (HT3.out.touch (Nat.le_of_eq HLO.out.symm) ht4)
      have HO4 := hid (HO3.out.touch ht4 hlt0)
      have HS4 : Hid (lo ≤ w4.heap.size) := Nat.le_trans HS3.out ht4.size
      clear hc4 ht4
      go_wp2_with (at_builtin; (refine wpList_push_link (W0 := w) rfl _ _ rfl b (k := k + 1006) lo _ L y z 1 ?_ ?_ HO4.out HT4.out HC4.out hlt0 HS4.out ?_ ?_))
      · rfl
      · rfl
      · omega
      intro v9 w9 hO9 hd9 hc9 hs9
      have HO9 := hid hO9; have HT9 := hid hd9; have HC9 := hid hc9
      clear hO9 hd9 hc9 hs9
      go_wp2
      go_ret2
      exact ⟨_, _, _, rfl, by omega, by omega, by rw [List.length_append]; simp; omega, HO9.out, HC9.out.more (by omega), HT9.out⟩
    · rcases Bool.eq_false_or_eq_true (x == 2) with t2 | t2
      · by_cases hl0 : 0 < L.length
        · have hlz : (L.length : Int) > 0 := by omega
          go_wp2_with fail
          refine (pick_c b (k + 1000 + 2) L.length _ HC2.out (by omega) (by omega)).mono ?_
          rintro e w3 ⟨y, rfl, ⟨hy1, hy2⟩, hc3, ht3⟩
          have HC3 := hid hc3
          have HT3 := hid (HT2.out.touch (Nat.le_of_eq HLO.out.symm) ht3)
          have HO3 := hid (HO2.out.touch ht3 hlt0)
          have HS3 : Hid (lo ≤ w3.heap.size) := Nat.le_trans HS2.out ht3.size
          clear hc3 ht3
          obtain ⟨i, rfl⟩ : ∃ i : Nat, y = i := ⟨y.toNat, by omega⟩
          have hi : i < L.length := by omega
          have HLT := hid (ints_lit w3 w3.heap.size (Nat.le_refl _) [0, 6, -1] (by simp)).r
          have HAL : Hid (Below w3.heap.size w3 _) := (Below.refl w3.heap.size w3).alloc (Nat.le_refl _) (.cells ([0, 6, -1].map (.int .i64 ·)).toArray 3)
          go_wp2_with fail
          refine (among_c b (k + 1000 + 4) _ [0, 6, -1] _ (HC3.out.keep HAL.out) (by omega) HLT.out (by simp) (by simp) (fun p hp => by simp [Value.ownBlock] at hp; have := HS3.out; omega)).mono ?_
          rintro e w8 ⟨x8, rfl, hx8, hc8, ht8⟩
          have hO8 := (HO3.out.keep HAL.out).touch ht8 hlt0
          have hs8 : lo ≤ w8.heap.size := Nat.le_trans (Nat.le_trans HS3.out HAL.out.size) ht8.size
          obtain ⟨g, rfl, _, hg1, hg2, ⟨q, hq⟩, hfz, hset⟩ := hO8.set hi
          have hst := hset x8
          have HT8 := hid ((HT3.out.below (HAL.out.mono HS3.out)).touch (Nat.le_of_eq HLO.out.symm) ht8)
          have hbl : Below lo w8 (w8.setCell ⟨g, i * 3 + 2, none⟩ (.int .i64 x8)) := (Below.refl _ _).setCell hg1 _
          have HT9 := hid (HT8.out.below hbl)
          have HC9 := hid (hc8.low (hbl.mono hlt0))
          have HO9 := hid hst
          have HQ := hid (And.intro hq hfz)
          have hiz : (i : Int) < (L.length : Int) := by omega
          clear hO8 hs8 hq hfz hset hst hc8 ht8 hbl hx8
          obtain ⟨hq, hfz⟩ := HQ.out
          go_wp2
          go_ret2
          exact ⟨_, _, _, rfl, by omega, by omega, by rw [List.length_set]; omega, HO9.out, HC9.out.more (by omega), HT9.out⟩
        · have hlz : ¬ (L.length : Int) > 0 := by omega
          go_wp2
          go_ret2
          exact ⟨_, _, _, rfl, by omega, by omega, by omega, HO2.out, HC2.out.more (by omega), HT2.out⟩
      · go_wp2
        go_ret2
        exact ⟨_, _, _, rfl, by omega, by omega, by omega, HO2.out, HC2.out.more (by omega), HT2.out⟩

end Go.Proofs.Ytifdhapaonideaa

/- Drawn graphs: smallGraph (printed by wip/smallgen.py). -/
namespace Go.Proofs.Ytifdhapaonideaa
open Go.RowKit
open Go.Lib (hid)

theorem OLinks.mono {w : World} {lo lo' : Nat} {v : Value} {L : List Lnk} (h : OLinks w lo v L) (hl : lo' ≤ lo) : OLinks w lo' v L := by
  refine ⟨h.1, ?_⟩
  rcases h.2 with hn | ⟨g, cap, cur, rfl, hb1, rest⟩
  · exact .inl hn
  · exact .inr ⟨g, cap, cur, rfl, Nat.le_trans hl hb1, rest⟩

end Go.Proofs.Ytifdhapaonideaa

/- Drawn graphs with a sink: pileGraph (printed by wip/pilegen.py). -/
namespace Go.Proofs.Ytifdhapaonideaa
open Go.RowKit
open Go.Lib (hid)

def RetPG (b k : Nat) (w : World) (e : Ending) (w' : World) : Prop := ∃ (n : Int) (v : Value) (L : List Lnk) (q : Int), e = .returned (.tuple #[.int .i64 n, v, .int .i64 q]) ∧ -1 ≤ n ∧ n ≤ 9 ∧ L.length ≤ 101 ∧ OLinks w' w.heap.size v L ∧ Cur w' b k ∧ Dr b w.heap.size w w'

set_option maxRecDepth 100000 in
set_option maxHeartbeats 4000000 in
theorem pileGraph_c (b k : Nat) (w : World) (h : Cur w b k) (hk : k ≤ 700000000000) :
    Calls Try.prog 68 #[.pointer (some ⟨b, 0, none⟩)] w (RetPG b (k + 3000) w) := by
  have HH := hid h
  have hlt0 := h.lt
  obtain ⟨lo, hlo⟩ : ∃ lo, w.heap.size = lo := ⟨_, rfl⟩
  have HLO := hid hlo
  rw [hlo] at hlt0
  have HC0 := HH
  have HT0 : Hid (Dr b lo w w) := Dr.refl _ _ _
  have HO0 : Hid (OLinks w lo (.slice none 0 0) []) := olinks_nil _ _
  have HS0 : Hid (lo ≤ w.heap.size) := Nat.le_of_eq hlo.symm
  clear h hlo
  unfold RetPG
  rw [HLO.out]
  go_enter Try.func68, Try.ntmps68
  go_wp2_with fail
  refine (pick_c b k 4 _ HC0.out (by omega) (by omega)).mono ?_
  rintro e w2 ⟨n0, rfl, ⟨hn1, hn2⟩, hc2, ht2⟩
  have HC2 := hid hc2
  have HT2 := hid (HT0.out.touch (Nat.le_of_eq HLO.out.symm) ht2)
  have HO2 := hid (HO0.out.touch ht2 hlt0)
  have HS2 : Hid (lo ≤ w2.heap.size) := Nat.le_trans HS0.out ht2.size
  clear hc2 ht2
  have f1 : IntKind.i64.wrap (1 + n0) = 1 + n0 := IntWalk.i64_in _ (by omega)
  go_wp2_with fail
  refine (one_c b (k + 2) 12 _ HC2.out (by omega) (by omega)).mono ?_
  rintro e w3 ⟨x, rfl, hc3, ht3⟩
  have HC3 := hid hc3
  have HT3 := hid (HT2.out.touch (Nat.le_of_eq HLO.out.symm) ht3)
  have HO3 := hid (HO2.out.touch ht3 hlt0)
  have HS3 : Hid (lo ≤ w3.heap.size) := Nat.le_trans HS2.out ht3.size
  clear hc3 ht3
  cases x
  case' false => obtain ⟨m, hm, hm1, hm8⟩ : ∃ m : Nat, 1 + n0 = m ∧ 1 ≤ m ∧ m ≤ 8 := ⟨(1 + n0).toNat, by omega, by omega, by omega⟩
  case' true => obtain ⟨m, hm, hm1, hm8⟩ : ∃ m : Nat, (5 : Int) = m ∧ 1 ≤ m ∧ m ≤ 8 := ⟨5, rfl, by omega, by omega⟩
  all_goals
    go_wp2
    try rw [hm]
    clear hm
    go_loopg [6, 7] m (fun gk lv iv wr => ∃ (i : Nat) (L : List Lnk) (s : Nat), iv = .int .i64 i ∧ i ≤ m ∧ gk = m - i ∧ Cur wr b s ∧ s ≤ k + 10 + i * 80 ∧ OLinks wr lo lv L ∧ L.length ≤ i * 8 ∧ Dr b lo w wr ∧ lo ≤ wr.heap.size)
    case atStart => exact ⟨0, [], _, rfl, by omega, rfl, HC3.out, by omega, olinks_nil _ _, by simp, HT3.out, HS3.out⟩
    case round =>
      obtain ⟨i, L0, s, rfl, hi, rfl, hc, hs, hO, hl, hd, hsz⟩ := hrel
      have HC4 := hid hc
      have HO4 := hid hO
      have HT4 := hid hd
      have HS4 := hid hsz
      clear hc hO hd hsz
      by_cases hlt : i < m
      · have hltz : (i : Int) < (m : Int) := by omega
        have f4 : IntKind.i64.wrap ((i : Int) + 1) = (i : Int) + 1 := IntWalk.i64_in _ (by omega)
        go_wp2
        go_loopg [6, 8] (m - (i + 1)) (fun gk lv jv wr => ∃ (j : Nat) (L : List Lnk) (q : Nat), jv = .int .i64 j ∧ j ≤ m ∧ i < j ∧ gk = m - j ∧ Cur wr b q ∧ q ≤ k + 10 + i * 80 + j * 8 ∧ OLinks wr lo lv L ∧ L.length ≤ i * 8 + (j - i - 1) ∧ Dr b lo w wr ∧ lo ≤ wr.heap.size)
        case atStart => exact ⟨i + 1, L0, s, by go_num, by omega, by omega, by omega, HC4.out, by omega, HO4.out, by omega, HT4.out, HS4.out⟩
        case round =>
          obtain ⟨w5, rfl⟩ : ∃ w' : World, w' = wr := ⟨_, rfl⟩
          obtain ⟨j, L, q, rfl, hj, hij, rfl, hc, hq, hO, hl5, hd, hsz⟩ := hrel
          have HC5 := hid hc
          have HO5 := hid hO
          have HT5 := hid hd
          have HS5 := hid hsz
          clear hc hO hd hsz
          by_cases hltj : j < m
          · have hltzj : (j : Int) < (m : Int) := by omega
            rcases Bool.eq_false_or_eq_true ((j : Int) == (i : Int) + 1) with tb | tb
            · have HLT := hid (ints_lit w5 w5.heap.size (Nat.le_refl _) [1, 1, 1, 2] (by simp)).r
              have HAL : Hid (Below w5.heap.size w5 _) := (Below.refl w5.heap.size w5).alloc (Nat.le_refl _) (.cells ([1, 1, 1, 2].map (.int .i64 ·)).toArray 3)
              go_wp2_with fail
              refine (among_c b (q) _ [1, 1, 1, 2] _ (HC5.out.keep HAL.out) (by omega) HLT.out (by simp) (by simp) (fun p hp => by simp [Value.ownBlock] at hp; have := HS5.out; omega)).mono ?_
              rintro e w8 ⟨x8, rfl, _, hc8, ht8⟩
              have HC8 := hid hc8
              have HT8 := hid ((HT5.out.below (HAL.out.mono HS5.out)).touch (Nat.le_of_eq HLO.out.symm) ht8)
              have HO8 := hid ((HO5.out.keep HAL.out).touch ht8 hlt0)
              have HS8 : Hid (lo ≤ w8.heap.size) := Nat.le_trans (Nat.le_trans HS5.out HAL.out.size) ht8.size
              clear hc8 ht8
              go_wp2_with (at_builtin; (refine wpList_push_link (W0 := w) rfl _ _ rfl b (k := q + 2) lo _ L (i : Int) (j : Int) x8 ?_ ?_ HO8.out HT8.out HC8.out hlt0 HS8.out ?_ ?_))
              · rfl
              · rfl
              · omega
              intro v9 w9 hO9 hd9 hc9 hs9
              have HO9 := hid hO9; have HT9 := hid hd9; have HC9 := hid hc9; have HS9 := hid hs9
              clear hO9 hd9 hc9 hs9
              go_wp2
              go_roundg (m - (j + 1))
              case rel => exact ⟨j + 1, _, _, by go_num, by omega, by omega, by omega, HC9.out, by omega, HO9.out, by rw [List.length_append]; simp; omega, HT9.out, HS9.out⟩
              case measure => omega
            · go_wp2_with fail
              refine (one_c b (q) 3 _ HC5.out (by omega) (by omega)).mono ?_
              rintro e w6 ⟨z, rfl, hc6, ht6⟩
              have HC6 := hid hc6
              have HT6 := hid (HT5.out.touch (Nat.le_of_eq HLO.out.symm) ht6)
              have HO6 := hid (HO5.out.touch ht6 hlt0)
              have HS6 : Hid (lo ≤ w6.heap.size) := Nat.le_trans HS5.out ht6.size
              clear hc6 ht6
              cases z
              · go_wp2
                go_roundg (m - (j + 1))
                case rel => exact ⟨j + 1, L, _, by go_num, by omega, by omega, by omega, HC6.out, by omega, HO6.out, by omega, HT6.out, HS6.out⟩
                case measure => omega
              · have HLT := hid (ints_lit w6 w6.heap.size (Nat.le_refl _) [1, 1, 1, 2] (by simp)).r
                have HAL : Hid (Below w6.heap.size w6 _) := (Below.refl w6.heap.size w6).alloc (Nat.le_refl _) (.cells ([1, 1, 1, 2].map (.int .i64 ·)).toArray 3)
                go_wp2_with fail
                refine (among_c b (q + 2) _ [1, 1, 1, 2] _ (HC6.out.keep HAL.out) (by omega) HLT.out (by simp) (by simp) (fun p hp => by simp [Value.ownBlock] at hp; have := HS6.out; omega)).mono ?_
                rintro e w8 ⟨x8, rfl, _, hc8, ht8⟩
                have HC8 := hid hc8
                have HT8 := hid ((HT6.out.below (HAL.out.mono HS6.out)).touch (Nat.le_of_eq HLO.out.symm) ht8)
                have HO8 := hid ((HO6.out.keep HAL.out).touch ht8 hlt0)
                have HS8 : Hid (lo ≤ w8.heap.size) := Nat.le_trans (Nat.le_trans HS6.out HAL.out.size) ht8.size
                clear hc8 ht8
                go_wp2_with (at_builtin; (refine wpList_push_link (W0 := w) rfl _ _ rfl b (k := q + 4) lo _ L (i : Int) (j : Int) x8 ?_ ?_ HO8.out HT8.out HC8.out hlt0 HS8.out ?_ ?_))
                · rfl
                · rfl
                · omega
                intro v9 w9 hO9 hd9 hc9 hs9
                have HO9 := hid hO9; have HT9 := hid hd9; have HC9 := hid hc9; have HS9 := hid hs9
                clear hO9 hd9 hc9 hs9
                go_wp2
                go_roundg (m - (j + 1))
                case rel => exact ⟨j + 1, _, _, by go_num, by omega, by omega, by omega, HC9.out, by omega, HO9.out, by rw [List.length_append]; simp; omega, HT9.out, HS9.out⟩
                case measure => omega
          · obtain rfl : j = m := by omega
            go_wp2
            go_roundg (j - (i + 1))
            case rel => exact ⟨i + 1, L, q, by go_num, by omega, rfl, HC5.out, by omega, HO5.out, by omega, HT5.out, HS5.out⟩
            case measure => omega
      · obtain rfl : i = m := by omega
        obtain ⟨w4, rfl⟩ : ∃ w' : World, w' = wr := ⟨_, rfl⟩
        go_wp2_with fail
        refine (one_c b (s) 16 _ HC4.out (by omega) (by omega)).mono ?_
        rintro e w1 ⟨x1, rfl, hc1, ht1⟩
        have HC1 := hid hc1
        have HT1 := hid (HT4.out.touch (Nat.le_of_eq HLO.out.symm) ht1)
        have HO1 := hid (HO4.out.touch ht1 hlt0)
        have HS1 : Hid (lo ≤ w1.heap.size) := Nat.le_trans HS4.out ht1.size
        clear hc1 ht1
        cases x1
        · go_wp2_with fail
          refine (pick_c b (s + 2) i _ HC1.out (by omega) (by omega)).mono ?_
          rintro e w2 ⟨y, rfl, _, hc2, ht2⟩
          have HC2 := hid hc2
          have HT2 := hid (HT1.out.touch (Nat.le_of_eq HLO.out.symm) ht2)
          have HO2 := hid (HO1.out.touch ht2 hlt0)
          have HS2 : Hid (lo ≤ w2.heap.size) := Nat.le_trans HS1.out ht2.size
          clear hc2 ht2
          go_wp2_with fail
          refine (one_c b (s + 4) 30 _ HC2.out (by omega) (by omega)).mono ?_
          rintro e w3 ⟨x3, rfl, hc3, ht3⟩
          have HC3 := hid hc3
          have HT3 := hid (HT2.out.touch (Nat.le_of_eq HLO.out.symm) ht3)
          have HO3 := hid (HO2.out.touch ht3 hlt0)
          have HS3 : Hid (lo ≤ w3.heap.size) := Nat.le_trans HS2.out ht3.size
          clear hc3 ht3
          cases x3
          · go_wp2
            go_ret3
            exact ⟨_, _, _, _, rfl, by omega, by omega, by omega, HO3.out, HC3.out.more (by omega), HT3.out⟩
          · have HLT := hid (ints_lit w3 w3.heap.size (Nat.le_refl _) [(i : Int), -1] (by simp)).r
            have HAL : Hid (Below w3.heap.size w3 _) := (Below.refl w3.heap.size w3).alloc (Nat.le_refl _) (.cells ([(i : Int), -1].map (.int .i64 ·)).toArray 3)
            go_wp2_with fail
            refine (among_c b (s + 6) _ [(i : Int), -1] _ (HC3.out.keep HAL.out) (by omega) HLT.out (by simp) (by simp) (fun p hp => by simp [Value.ownBlock] at hp; have := HS3.out; omega)).mono ?_
            rintro e w8 ⟨x8, rfl, _, hc8, ht8⟩
            have HC8 := hid hc8
            have HT8 := hid ((HT3.out.below (HAL.out.mono HS3.out)).touch (Nat.le_of_eq HLO.out.symm) ht8)
            have HO8 := hid ((HO3.out.keep HAL.out).touch ht8 hlt0)
            clear hc8 ht8
            go_wp2
            go_ret3
            exact ⟨_, _, _, _, rfl, by omega, by omega, by omega, HO8.out, HC8.out.more (by omega), HT8.out⟩
        · go_wp2_with fail
          refine (anyGraph_c b (s + 2) _ HC1.out (by omega)).mono ?_
          rintro e w2 ⟨n, v, L, rfl, hn1, hn9, hl9, hO, hc, hd⟩
          have HO2 := hid (hO.mono HS1.out)
          have HT2 := hid (HT1.out.trans (hd.low HS1.out))
          have HC2 := hid hc
          clear hO hc hd
          go_wp2_with fail
          refine (pick_c b (s + 2 + 2000) 3 _ HC2.out (by omega) (by omega)).mono ?_
          rintro e w3 ⟨y, rfl, _, hc3, ht3⟩
          have HC3 := hid hc3
          have HT3 := hid (HT2.out.touch (Nat.le_of_eq HLO.out.symm) ht3)
          have HO3 := hid (HO2.out.touch ht3 hlt0)
          clear hc3 ht3
          go_wp2
          go_ret3
          exact ⟨_, _, _, _, rfl, hn1, hn9, hl9, HO3.out, HC3.out.more (by omega), HT3.out⟩

end Go.Proofs.Ytifdhapaonideaa

/- Drawn lists of numbers: vertices, chips. -/
namespace Go.Proofs.Ytifdhapaonideaa
open Go.RowKit
open Go.Lib (hid)

theorem wpList_push_dr {W0 W : World} {ops : Array Oper} {rest : List Oper} {o : Oper} {a : Act} {Q : Exit → Act → World → Prop} (hgd : o.guard = none) (s x : Operand)
    (ho : o.op = .call { callee := .builtin .append, args := #[s, x], argTypes := #[25, 25] }) (b k lo : Nat) (v : Value) (xs : List Int) (y : Int) (hs : a.eval s = v) (hx : a.eval x = .slice (some ⟨W.heap.size, 0, none⟩) 1 1)
    (hF : FInts W lo W.heap.size v xs) (hd : Dr b lo W0 W) (hC : Cur W b k) (hb : b < lo) (hlo : lo ≤ W.heap.size) (m : Nat) (hm : Hid (xs.length = m)) (hl : m ≤ 1048576)
    (h : ∀ g c w', FInts w' lo w'.heap.size (.slice (some ⟨g, 0, none⟩) (m + 1) c) (xs ++ [y]) → Dr b lo W0 w' → Cur w' b k → lo ≤ w'.heap.size → wpList Try.prog ops Q rest (a.put o.dst (.slice (some ⟨g, 0, none⟩) (m + 1) c)) w') :
    wpList Try.prog ops Q (o :: rest) a (W.alloc (.cells #[.int .i64 y] 3)) :=
  wpList_push_r (W0 := W) hgd s x ho lo v xs y hs hx hF (Below.refl _ _) hlo m hm hl (xs ++ [y]) (hid rfl) fun g c w' h1 h2 =>
    h g c w' h1 (hd.below h2) (hC.low (h2.mono hb)) (Nat.le_trans hlo h2.size)
theorem FInts.tch {w w' : World} {lo b : Nat} {v : Value} {xs : List Int} (h : FInts w lo w.heap.size v xs) (ht : Touch b (b + 1) w w') (hb : b < lo) : FInts w' lo w'.heap.size v xs :=
  (h.same (.of_touch ht (.inr hb))).mono (Nat.le_refl _) ht.size
theorem FInts.grw {w w' : World} {lo : Nat} {v : Value} {xs : List Int} (h : FInts w lo w.heap.size v xs) (hb : Below w.heap.size w w') : FInts w' lo w'.heap.size v xs :=
  (h.keep hb).mono (Nat.le_refl _) hb.size

/-- drawn numbers -/
def RetNumsL (b k lo : Nat) (w : World) (e : Ending) (w' : World) : Prop := ∃ (v : Value) (xs : List Int), e = .returned v ∧ xs.length ≤ 20 ∧ FInts w' lo w'.heap.size v xs ∧ Cur w' b k ∧ Dr b lo w w'
def RetNums (b k : Nat) (w : World) : Ending → World → Prop := RetNumsL b k w.heap.size w
theorem retNums_mk {b k lo : Nat} {w w' : World} {v : Value} (xs : List Int) (h1 : xs.length ≤ 20) (h2 : FInts w' lo w'.heap.size v xs) (h3 : Cur w' b k) (h4 : Dr b lo w w') : RetNumsL b k lo w (.returned v) w' := ⟨v, xs, rfl, h1, h2, h3, h4⟩

/-! more -/

end Go.Proofs.Ytifdhapaonideaa

/- Drawn piles (text printed by wip/chipsgen.py). -/
namespace Go.Proofs.Ytifdhapaonideaa
open Go.RowKit
open Go.Lib (hid)

set_option maxRecDepth 100000 in
set_option maxHeartbeats 4000000 in
theorem pile_c (b k : Nat) (n : Int) (q : Int) (w : World) (h : Cur w b k) (hk : k ≤ 800000000000) (hn : n ≤ 12) :
    Calls Try.prog 43 #[.pointer (some ⟨b, 0, none⟩), .int .i64 n, .int .i64 q] w (RetNums b (k + 100) w) := by
  have HH := hid h
  have hlt0 := h.lt
  obtain ⟨lo, hlo⟩ : ∃ lo, w.heap.size = lo := ⟨_, rfl⟩
  have HLO := hid hlo
  rw [hlo] at hlt0
  have HS0 : Hid (lo ≤ w.heap.size) := Nat.le_of_eq hlo.symm
  clear h hlo
  show Calls _ _ _ _ (RetNumsL b (k + 100) w.heap.size w)
  rw [HLO.out]
  have HC0 := HH
  have HD0 : Hid (Dr b lo w w) := Dr.refl _ _ _
  have HF0 : Hid (FInts w lo w.heap.size (.slice none 0 0) []) := ints_nil _ _ _
  go_enter Try.func43, Try.ntmps43
  have HLT := hid (ints_lit w w.heap.size (Nat.le_refl _) [2, 3, 6] (by simp)).r
  have HAL : Hid (Below w.heap.size w _) := (Below.refl w.heap.size w).alloc (Nat.le_refl _) (.cells ([2, 3, 6].map (.int .i64 ·)).toArray 3)
  go_wp2_with fail
  refine (among_c b (k) _ [2, 3, 6] _ (HC0.out.keep HAL.out) (by omega) HLT.out (by simp) (by simp) (fun p hp => by simp [Value.ownBlock] at hp; have := HS0.out; omega)).mono ?_
  rintro e w5 ⟨x5, rfl, hx5, hc5, ht5⟩
  have HC5 := hid hc5
  have HD5 := hid ((HD0.out.below (HAL.out.mono HS0.out)).touch HS0.out ht5)
  have HF5 := hid ((HF0.out.grw HAL.out).tch ht5 hlt0)
  have HS5 : Hid (lo ≤ w5.heap.size) := Nat.le_trans (Nat.le_trans HS0.out HAL.out.size) ht5.size
  clear hc5 ht5
  have hx6 : x5 ≤ 6 := by simp at hx5; omega
  clear hx5
  go_wp2
  go_loopg [7] 14 (fun gk out wr => ∃ (a : Option Addr) (p c : Nat) (xs : List Int) (s : Nat), out = .slice a p c ∧ p ≤ 13 ∧ gk = 14 - p ∧ xs.length = p ∧ s ≤ k + 10 + 4 * p ∧ FInts wr lo wr.heap.size (.slice a p c) xs ∧ Cur wr b s ∧ Dr b lo w wr ∧ lo ≤ wr.heap.size)
  case atStart => exact ⟨none, 0, 0, [], k + 2, rfl, by omega, rfl, rfl, by omega, ints_nil _ _ _, HC5.out, HD5.out, HS5.out⟩
  case round =>
    obtain ⟨w1, rfl⟩ : ∃ w' : World, w' = wr := ⟨_, rfl⟩
    obtain ⟨a3, p, c3, xs, s, rfl, hp, rfl, hlk, hs, hF, hc, hd, hsz⟩ := hrel
    have HF1 := hid hF
    have HC1 := hid hc
    have HD1 := hid hd
    have HS1 := hid hsz
    have HLK := hid hlk
    clear hF hc hd hsz hlk
    by_cases hlt : (p : Int) < n
    · go_wp2_with fail
      refine (pick_c b (s) x5 _ HC1.out (by omega) (by omega)).mono ?_
      rintro e w2 ⟨y, rfl, ⟨hy1, hy2⟩, hc2, ht2⟩
      have HC2 := hid hc2
      have HD2 := hid (HD1.out.touch HS0.out ht2)
      have HF2 := hid (HF1.out.tch ht2 hlt0)
      have HS2 : Hid (lo ≤ w2.heap.size) := Nat.le_trans HS1.out ht2.size
      clear hc2 ht2
      go_wp2_with (at_builtin; (refine wpList_push_dr (W0 := w) rfl _ _ rfl b (k := s + 2) lo (.slice a3 p c3) xs y rfl rfl HF2.out HD2.out HC2.out hlt0 HS2.out p HLK ?_ ?_))
      · omega
      intro g7 c7 w7 hF7 hd7 hc7 hs7
      have HF7 := hid hF7; have HD7 := hid hd7; have HC7 := hid hc7; have HS7 := hid hs7
      clear hF7 hd7 hc7 hs7
      go_wp2
      go_roundg (14 - (p + 1))
      case rel => exact ⟨_, p + 1, _, xs ++ [y], _, rfl, by omega, by omega, by rw [List.length_append, HLK.out]; rfl, by omega, HF7.out, HC7.out, HD7.out, HS7.out⟩
      case measure => omega
    · have f1 : IntKind.i64.wrap ((p : Int) - 1) = (p : Int) - 1 := IntWalk.i64_in _ (by omega)
      go_wp2_with fail
      refine (l1In_c _ _ _ _).mono ?_
      rintro e w2 ⟨rfl, rfl⟩
      rcases Bool.eq_false_or_eq_true (inB q 0 ((p : Int) - 1)) with tq | tq
      · obtain ⟨j, rfl⟩ : ∃ j : Nat, q = j := ⟨q.toNat, by have := inB_iff.1 tq; omega⟩
        have hj : j < p := by have := inB_iff.1 tq; omega
        have hjz : (j : Int) < (p : Int) := by omega
        rw [tq]
        obtain ⟨g, z, rfl, hg1, hg2, hcl, hfr, _⟩ := HF1.out.at (i := j) (by have := HLK.out; omega)
        have hst := HF1.out.set j 0
        have hbl : Below lo w1 (w1.setCell ⟨g, j, none⟩ (.int .i64 0)) := (Below.refl _ _).setCell hg1 _
        have HD2 := hid (HD1.out.below hbl)
        have HC2 := hid (HC1.out.low (hbl.mono hlt0))
        have HF2 := hid (hst.1.mono (Nat.le_refl _) (Nat.le_of_eq hst.2.2.symm))
        have HS2 : Hid (lo ≤ (w1.setCell ⟨g, j, none⟩ (.int .i64 0)).heap.size) := Nat.le_trans HS1.out hbl.size
        clear hst hbl
        have HLX : Hid ((xs.set j 0).length = p) := by show _ = _; rw [List.length_set, HLK.out]
        go_wp2_with fail
        refine (pick_c b (s) 30 _ HC2.out (by omega) (by omega)).mono ?_
        rintro e w4 ⟨x, rfl, ⟨hx1, hx2⟩, hc4, ht4⟩
        have HC4 := hid hc4
        have HD4 := hid (HD2.out.touch HS0.out ht4)
        have HF4 := hid (HF2.out.tch ht4 hlt0)
        have HS4 : Hid (lo ≤ w4.heap.size) := Nat.le_trans HS2.out ht4.size
        clear hc4 ht4
        rcases Bool.eq_false_or_eq_true (x == 0) with t0 | t0
        · go_wp2_with (at_builtin; (refine wpList_push_dr (W0 := w) rfl _ _ rfl b (k := s + 2) lo (.slice (some ⟨g, 0, none⟩) p c3) (xs.set j 0) 0 rfl rfl HF4.out HD4.out HC4.out hlt0 HS4.out p HLX ?_ ?_))
          · omega
          intro g6 c6 w6 hF6 hd6 hc6 hs6
          have HF6 := hid hF6; have HD6 := hid hd6; have HC6 := hid hc6; have HS6 := hid hs6
          clear hF6 hd6 hc6 hs6
          go_wp2
          go_ret
          exact retNums_mk ((xs.set j 0) ++ [0]) (by rw [List.length_append, HLX.out]; simp; omega) HF6.out (HC6.out.more (by omega)) HD6.out
        · rcases Bool.eq_false_or_eq_true (x == 1) with t1 | t1
          · by_cases hp0 : (p : Int) > 0
            · go_wp2_with fail
              refine (pick_c b (s + 2) p _ HC4.out (by omega) (by omega)).mono ?_
              rintro e w3 ⟨y, rfl, ⟨hy1, hy2⟩, hc3, ht3⟩
              have HC3 := hid hc3
              have HD3 := hid (HD4.out.touch HS0.out ht3)
              have HF3 := hid (HF4.out.tch ht3 hlt0)
              have HS3 : Hid (lo ≤ w3.heap.size) := Nat.le_trans HS4.out ht3.size
              clear hc3 ht3
              obtain ⟨i, rfl⟩ : ∃ i : Nat, y = i := ⟨y.toNat, by omega⟩
              have hi : i < p := by omega
              have hiz : (i : Int) < (p : Int) := by omega
              have HLT := hid (ints_lit w3 w3.heap.size (Nat.le_refl _) [50, 51, -1, 1] (by simp)).r
              have HAL : Hid (Below w3.heap.size w3 _) := (Below.refl w3.heap.size w3).alloc (Nat.le_refl _) (.cells ([50, 51, -1, 1].map (.int .i64 ·)).toArray 3)
              go_wp2_with fail
              refine (among_c b (s + 4) _ [50, 51, -1, 1] _ (HC3.out.keep HAL.out) (by omega) HLT.out (by simp) (by simp) (fun p hp => by simp [Value.ownBlock] at hp; have := HS3.out; omega)).mono ?_
              rintro e w8 ⟨x8, rfl, _, hc8, ht8⟩
              have HC8 := hid hc8
              have HD8 := hid ((HD3.out.below (HAL.out.mono HS3.out)).touch HS0.out ht8)
              have HF8 := hid ((HF3.out.grw HAL.out).tch ht8 hlt0)
              have HS8 : Hid (lo ≤ w8.heap.size) := Nat.le_trans (Nat.le_trans HS3.out HAL.out.size) ht8.size
              clear hc8 ht8
              obtain ⟨g8, z8, he8, hg81, hg82, hcl8, hfr8, _⟩ := HF8.out.at (i := i) (by have := HLX.out; omega)
              have hgg : g8 = g := (by simpa using he8.symm); rw [hgg] at hcl8 hfr8; clear hgg he8; have hst := HF8.out.set i x8
              have hbl : Below lo w8 (w8.setCell ⟨g, i, none⟩ (.int .i64 x8)) := (Below.refl _ _).setCell hg1 _
              have HD9 := hid (HD8.out.below hbl)
              have HC9 := hid (HC8.out.low (hbl.mono hlt0))
              have HF9 := hid (hst.1.mono (Nat.le_refl _) (Nat.le_of_eq hst.2.2.symm))
              have HS9 : Hid (lo ≤ (w8.setCell ⟨g, i, none⟩ (.int .i64 x8)).heap.size) := Nat.le_trans HS8.out hbl.size
              clear hst hbl
              go_wp2
              go_ret
              exact retNums_mk (((xs.set j 0)).set i x8) (by rw [List.length_set, HLX.out]; omega) HF9.out (HC9.out.more (by omega)) HD9.out
            · exfalso; omega
          · go_wp2
            go_ret
            exact retNums_mk ((xs.set j 0)) (by rw [HLX.out]; omega) HF4.out (HC4.out.more (by omega)) HD4.out
      · rw [tq]
        have HLX := HLK
        go_wp2_with fail
        refine (pick_c b (s) 30 _ HC1.out (by omega) (by omega)).mono ?_
        rintro e w4 ⟨x, rfl, ⟨hx1, hx2⟩, hc4, ht4⟩
        have HC4 := hid hc4
        have HD4 := hid (HD1.out.touch HS0.out ht4)
        have HF4 := hid (HF1.out.tch ht4 hlt0)
        have HS4 : Hid (lo ≤ w4.heap.size) := Nat.le_trans HS1.out ht4.size
        clear hc4 ht4
        rcases Bool.eq_false_or_eq_true (x == 0) with t0 | t0
        · go_wp2_with (at_builtin; (refine wpList_push_dr (W0 := w) rfl _ _ rfl b (k := s + 2) lo (.slice a3 p c3) xs 0 rfl rfl HF4.out HD4.out HC4.out hlt0 HS4.out p HLX ?_ ?_))
          · omega
          intro g6 c6 w6 hF6 hd6 hc6 hs6
          have HF6 := hid hF6; have HD6 := hid hd6; have HC6 := hid hc6; have HS6 := hid hs6
          clear hF6 hd6 hc6 hs6
          go_wp2
          go_ret
          exact retNums_mk (xs ++ [0]) (by rw [List.length_append, HLX.out]; simp; omega) HF6.out (HC6.out.more (by omega)) HD6.out
        · rcases Bool.eq_false_or_eq_true (x == 1) with t1 | t1
          · by_cases hp0 : (p : Int) > 0
            · go_wp2_with fail
              refine (pick_c b (s + 2) p _ HC4.out (by omega) (by omega)).mono ?_
              rintro e w3 ⟨y, rfl, ⟨hy1, hy2⟩, hc3, ht3⟩
              have HC3 := hid hc3
              have HD3 := hid (HD4.out.touch HS0.out ht3)
              have HF3 := hid (HF4.out.tch ht3 hlt0)
              have HS3 : Hid (lo ≤ w3.heap.size) := Nat.le_trans HS4.out ht3.size
              clear hc3 ht3
              obtain ⟨i, rfl⟩ : ∃ i : Nat, y = i := ⟨y.toNat, by omega⟩
              have hi : i < p := by omega
              have hiz : (i : Int) < (p : Int) := by omega
              have HLT := hid (ints_lit w3 w3.heap.size (Nat.le_refl _) [50, 51, -1, 1] (by simp)).r
              have HAL : Hid (Below w3.heap.size w3 _) := (Below.refl w3.heap.size w3).alloc (Nat.le_refl _) (.cells ([50, 51, -1, 1].map (.int .i64 ·)).toArray 3)
              go_wp2_with fail
              refine (among_c b (s + 4) _ [50, 51, -1, 1] _ (HC3.out.keep HAL.out) (by omega) HLT.out (by simp) (by simp) (fun p hp => by simp [Value.ownBlock] at hp; have := HS3.out; omega)).mono ?_
              rintro e w8 ⟨x8, rfl, _, hc8, ht8⟩
              have HC8 := hid hc8
              have HD8 := hid ((HD3.out.below (HAL.out.mono HS3.out)).touch HS0.out ht8)
              have HF8 := hid ((HF3.out.grw HAL.out).tch ht8 hlt0)
              have HS8 : Hid (lo ≤ w8.heap.size) := Nat.le_trans (Nat.le_trans HS3.out HAL.out.size) ht8.size
              clear hc8 ht8
              obtain ⟨g, z, rfl, hg1, hg2, hcl, hfr, _⟩ := HF8.out.at (i := i) (by have := HLX.out; omega)
              have hst := HF8.out.set i x8
              have hbl : Below lo w8 (w8.setCell ⟨g, i, none⟩ (.int .i64 x8)) := (Below.refl _ _).setCell hg1 _
              have HD9 := hid (HD8.out.below hbl)
              have HC9 := hid (HC8.out.low (hbl.mono hlt0))
              have HF9 := hid (hst.1.mono (Nat.le_refl _) (Nat.le_of_eq hst.2.2.symm))
              have HS9 : Hid (lo ≤ (w8.setCell ⟨g, i, none⟩ (.int .i64 x8)).heap.size) := Nat.le_trans HS8.out hbl.size
              clear hst hbl
              go_wp2
              go_ret
              exact retNums_mk ((xs).set i x8) (by rw [List.length_set, HLX.out]; omega) HF9.out (HC9.out.more (by omega)) HD9.out
            · go_wp2
              go_ret
              exact retNums_mk (xs) (by rw [HLX.out]; omega) HF4.out (HC4.out.more (by omega)) HD4.out
          · go_wp2
            go_ret
            exact retNums_mk (xs) (by rw [HLX.out]; omega) HF4.out (HC4.out.more (by omega)) HD4.out

end Go.Proofs.Ytifdhapaonideaa

/- The drawing functions of graphs and divisors. -/
namespace Go.Proofs.Ytifdhapaonideaa
open Go.RowKit
open Go.Lib (hid)

/-- a new cursor -/
theorem cur_new {w : World} {v : Value} {n : Nat} (h : RBytes w v n) : Cur (w.alloc (.cells #[v, .int .i64 0, .int .u64 0] 65)) w.heap.size 0 := by
  obtain ⟨a, cap, rfl, h1, h2, hc⟩ := h
  refine ⟨a, n, cap, 0, 0, heap_alloc_new w _, Int.le_refl _, Int.le_refl _, h1, h1, h2, Int.le_refl _, by decide, fun i hi => ?_⟩
  obtain ⟨g, o, x, rfl, hcell, hx⟩ := hc i hi
  have hlt := cell_lt hcell
  refine ⟨g, o, x, rfl, hlt, ?_, hx⟩
  rw [((Below.refl w.heap.size w).alloc (Nat.le_refl _) _).cell (p := ⟨g, o + i, none⟩) hlt]; exact hcell
theorem RBytes.keep {w w' : World} {v : Value} {n : Nat} (h : RBytes w v n) (hb : Below w.heap.size w w') : RBytes w' v n := by
  obtain ⟨a, cap, rfl, h1, h2, hc⟩ := h
  refine ⟨a, cap, rfl, h1, h2, fun i hi => ?_⟩
  obtain ⟨g, o, x, ha, hcell, hx⟩ := hc i hi
  exact ⟨g, o, x, ha, by rw [hb.cell (p := ⟨g, o + i, none⟩) (cell_lt hcell)]; exact hcell, hx⟩
theorem RBytes.form {w : World} {v : Value} {n : Nat} (h : RBytes w v n) : ∃ a cap, v = .slice a n cap ∧ n ≤ cap ∧ cap ≤ maxLen := by
  obtain ⟨a, cap, rfl, h1, h2, _⟩ := h; exact ⟨a, cap, rfl, h1, h2⟩
/-- what is drawn with a new cursor touches nothing that was there -/
theorem Dr.fresh {w w' : World} {o : Obj} (h : Dr w.heap.size (w.alloc o).heap.size (w.alloc o) w') : Below w.heap.size w w' := by
  have ha := (Below.refl w.heap.size w).alloc (Nat.le_refl _) o
  have hs := ha.size
  exact ha.trans ⟨h.os, h.tape, h.output, h.size, fun c hc => h.block c (by omega) (by omega)⟩
theorem OLinks.dr {w w' : World} {lo b : Nat} {v : Value} {L : List Lnk} (h : OLinks w lo v L) (hd : Dr b w.heap.size w w') (hb : b < lo) : OLinks w' lo v L := by
  refine ⟨h.1, ?_⟩
  rcases h.2 with hn | ⟨g, cap, cur, rfl, hb1, hg, rest⟩
  · exact .inl hn
  · exact .inr ⟨g, cap, cur, rfl, hb1, by rw [hd.block g (Array.getElem?_eq_some_iff.1 hg).1 (by omega)]; exact hg, rest⟩
theorem FInts.dr {w w' : World} {lo b : Nat} {v : Value} {xs : List Int} (h : FInts w lo w.heap.size v xs) (hd : Dr b w.heap.size w w') (hb : b < lo) : FInts w' lo w'.heap.size v xs :=
  (h.same (fun k h1 h2 _ => hd.block k h2 (by omega))).mono (Nat.le_refl _) hd.size

/-- a drawn graph -/
def RetGr (w : World) (e : Ending) (w' : World) : Prop := ∃ (n : Int) (v : Value) (L : List Lnk), e = .returned (.tuple #[.int .i64 n, v]) ∧ -1 ≤ n ∧ n ≤ 9 ∧ L.length ≤ 101 ∧ RLinks w' v L ∧ Below w.heap.size w w'
/-- a drawn graph and drawn numbers -/
def RetGrN (w : World) (e : Ending) (w' : World) : Prop := ∃ (n : Int) (v : Value) (L : List Lnk) (u : Value) (d : List Int), e = .returned (.tuple #[.int .i64 n, v, u]) ∧ -1 ≤ n ∧ n ≤ 9 ∧ L.length ≤ 101 ∧ d.length ≤ 20 ∧ RLinks w' v L ∧ RInts w' u d ∧ Below w.heap.size w w'


end Go.Proofs.Ytifdhapaonideaa

/- The drawing functions of piles (printed by wip/pildraw.py). -/
namespace Go.Proofs.Ytifdhapaonideaa
open Go.RowKit
open Go.Lib (hid)

theorem OLinks.grw {w w' : World} {lo : Nat} {v : Value} {L : List Lnk} (h : OLinks w lo v L) (hb : Below w.heap.size w w') : OLinks w' lo v L := h.keep hb
theorem OLinks.tch {w w' : World} {lo b : Nat} {v : Value} {L : List Lnk} (h : OLinks w lo v L) (ht : Touch b (b + 1) w w') (hb : b < lo) : OLinks w' lo v L := h.touch ht hb
theorem results_tmp4p {fn : Func} {t u v x : Tmp} (h : fn.results = #[.tmp t, .tmp u, .tmp v, .tmp x]) (tmps : Array Value) (P : Program) (w : World) :
    (results fn tmps).run P w = .ok (.tuple #[tmps.getD t undef, tmps.getD u undef, tmps.getD v undef, tmps.getD x undef]) w := by
  simp [results, h]
theorem results_tmp5p {fn : Func} {t u v x y : Tmp} (h : fn.results = #[.tmp t, .tmp u, .tmp v, .tmp x, .tmp y]) (tmps : Array Value) (P : Program) (w : World) :
    (results fn tmps).run P w = .ok (.tuple #[tmps.getD t undef, tmps.getD u undef, tmps.getD v undef, tmps.getD x undef, tmps.getD y undef]) w := by
  simp [results, h]
/-- a drawn graph with a sink; with numbers; with numbers twice -/
def RetGS (w : World) (e : Ending) (w' : World) : Prop := ∃ (n : Int) (v : Value) (L : List Lnk) (q : Int), e = .returned (.tuple #[.int .i64 n, v, .int .i64 q]) ∧ -1 ≤ n ∧ n ≤ 9 ∧ L.length ≤ 101 ∧ RLinks w' v L ∧ Below w.heap.size w w'
def RetGSN (w : World) (e : Ending) (w' : World) : Prop := ∃ (n : Int) (v : Value) (L : List Lnk) (q : Int) (u : Value) (d : List Int), e = .returned (.tuple #[.int .i64 n, v, .int .i64 q, u]) ∧ -1 ≤ n ∧ n ≤ 9 ∧ L.length ≤ 101 ∧ d.length ≤ 20 ∧ RLinks w' v L ∧ RInts w' u d ∧ Below w.heap.size w w'
def RetGSNN (w : World) (e : Ending) (w' : World) : Prop := ∃ (n : Int) (v : Value) (L : List Lnk) (q : Int) (u : Value) (d : List Int) (x : Value) (s : List Int), e = .returned (.tuple #[.int .i64 n, v, .int .i64 q, u, x]) ∧ -1 ≤ n ∧ n ≤ 9 ∧ L.length ≤ 101 ∧ d.length ≤ 20 ∧ s.length ≤ 20 ∧ RLinks w' v L ∧ RInts w' u d ∧ RInts w' x s ∧ Below w.heap.size w w'
def RetPGN (b k : Nat) (w : World) (lo : Nat) (e : Ending) (w' : World) : Prop := ∃ (n : Int) (v : Value) (L : List Lnk) (q : Int) (u : Value) (d : List Int), e = .returned (.tuple #[.int .i64 n, v, .int .i64 q, u]) ∧ -1 ≤ n ∧ n ≤ 9 ∧ L.length ≤ 101 ∧ d.length ≤ 20 ∧ OLinks w' lo v L ∧ FInts w' lo w'.heap.size u d ∧ Cur w' b k ∧ Dr b lo w w'

set_option maxRecDepth 100000 in
set_option maxHeartbeats 4000000 in
theorem recurrentD_c (b k : Nat) (w : World) (h : Cur w b k) (hk : k ≤ 700000000000) :
    Calls Try.prog 42 #[.pointer (some ⟨b, 0, none⟩)] w (RetPGN b (k + 4000) w w.heap.size) := by
  have HC0 := hid h
  have hlt0 := h.lt
  obtain ⟨lo, hlo⟩ : ∃ lo, w.heap.size = lo := ⟨_, rfl⟩
  rw [hlo] at hlt0
  have HS0 : Hid (lo ≤ w.heap.size) := Nat.le_of_eq hlo.symm
  have HD0 : Hid (Dr b lo w w) := Dr.refl _ _ _
  have HLO := hid hlo
  clear h hlo
  rw [HLO.out]
  go_enter Try.func42, Try.ntmps42
  go_wp2_with fail
  refine (pileGraph_c b k _ HC0.out (by omega)).mono ?_
  rintro e w1 ⟨n1, v1, L, q, rfl, hn1, hn2, hl, hO1, hc1, hd1⟩
  have HC1 := hid (hc1.more (show _ ≤ (k + 3000) by omega))
  have HD1 := hid (HD0.out.trans (hd1.low HS0.out))
  have HS1 : Hid (lo ≤ w1.heap.size) := Nat.le_trans HS0.out hd1.size
  have L_1 := hid ((hO1.mono HS0.out))
  obtain ⟨al, nl, cl, rfl⟩ := hO1.form
  clear hO1
  clear hc1 hd1
  go_wp2_with fail
  refine (pile_c b (k + 3000) n1 q _ HC1.out (by omega) (by omega)).mono ?_
  rintro e w2 ⟨u2, xs, rfl, hxl, hF2, hc2, hd2⟩
  have HC2 := hid (hc2.more (show _ ≤ (k + 3100) by omega))
  have HD2 := hid (HD1.out.trans (hd2.low HS1.out))
  have L_2 := hid (L_1.out.dr hd2 hlt0)
  have HS2 : Hid (lo ≤ w2.heap.size) := Nat.le_trans HS1.out hd2.size
  have F_2 := hid ((hF2.mono HS1.out (Nat.le_refl _)))
  obtain ⟨a5, n5, c5, rfl⟩ := hF2.form3
  clear hF2
  clear hc2 hd2
  rcases Bool.eq_false_or_eq_true (piAB n1 L q xs) with tb | tb
  · go_wp2_with fail
    refine (piAsked_c n1 q _ _ L xs _ L_2.out.r F_2.out.r).mono ?_
    rintro e w3 ⟨rfl, hb3⟩
    have HC3 := hid (HC2.out.keep hb3)
    have HD3 := hid (HD2.out.below (hb3.mono HS2.out))
    have L_3 := hid (L_2.out.grw hb3)
    have F_3 := hid (F_2.out.grw hb3)
    have HS3 : Hid (lo ≤ w3.heap.size) := Nat.le_trans HS2.out hb3.size
    rw [tb]
    clear hb3
    go_wp2_with fail
    refine (one_c b (k + 3100) 4 _ HC3.out (by omega) (by omega)).mono ?_
    rintro e w4 ⟨x, rfl, hc4, ht4⟩
    have HC4 := hid (hc4.more (show _ ≤ (k + 3102) by omega))
    have HD4 := hid (HD3.out.touch HS0.out ht4)
    have L_4 := hid (L_3.out.tch ht4 hlt0)
    have F_4 := hid (F_3.out.tch ht4 hlt0)
    have HS4 : Hid (lo ≤ w4.heap.size) := Nat.le_trans HS3.out ht4.size
    clear hc4 ht4
    cases x
    · obtain ⟨m, j, hm, hj, _, _, hP, hxm, hxz, _⟩ := piAB_parts tb
      subst hm
      subst hj
      have HP := hid hP
      have HXM := hid hxm
      have HXZ := hid hxz
      clear tb hxm hxz
      go_wp2_with fail
      refine (piGreatest_c m j _ L _ L_4.out.r HP.out.good).mono ?_
      rintro e w5 ⟨u5, rfl, hF5, hb5⟩
      have HC5 := hid (HC4.out.keep hb5)
      have HD5 := hid (HD4.out.below (hb5.mono HS4.out))
      have L_5 := hid (L_4.out.grw hb5)
      have F_5 := hid (F_4.out.grw hb5)
      have HS5 : Hid (lo ≤ w5.heap.size) := Nat.le_trans HS4.out hb5.size
      have G_5 := hid ((hF5.mono HS4.out (Nat.le_refl _)))
      obtain ⟨a6, n6, c6, rfl⟩ := hF5.form3
      clear hF5
      clear hb5
      go_wp2_with fail
      refine (piSum_c m j _ _ _ L _ _ _ L_5.out.r HP.out (rints_lst F_5.out.r HXM.out) G_5.out.r (HXZ.out.mono (by decide)) ((grt_pil HP.out).mono (by decide))).mono ?_
      rintro e w6 ⟨u6, rfl, hF6, hb6⟩
      have HC6 := hid (HC5.out.keep hb6)
      have HD6 := hid (HD5.out.below (hb6.mono HS5.out))
      have L_6 := hid (L_5.out.grw hb6)
      have F_6 := hid (F_5.out.grw hb6)
      have G_6 := hid (G_5.out.grw hb6)
      have HS6 : Hid (lo ≤ w6.heap.size) := Nat.le_trans HS5.out hb6.size
      have Q_6 := hid ((hF6.mono HS5.out (Nat.le_refl _)))
      obtain ⟨a7, n7, c7, rfl⟩ := hF6.form3
      clear hF6
      clear hb6
      go_wp2
      (try simp only [Exit.inBlock, Exit.then]); refine bodyPost_ret (results_tmp4p rfl _ _ _) rfl ?_
      exact ⟨(m : Int), _, L, (j : Int), _, _, rfl, hn1, hn2, hl, (by rw [lst_len]; omega), L_6.out, Q_6.out, HC6.out.more (by omega), HD6.out⟩
    · go_wp2
      (try simp only [Exit.inBlock, Exit.then]); refine bodyPost_ret (results_tmp4p rfl _ _ _) rfl ?_
      exact ⟨n1, _, L, q, _, xs, rfl, hn1, hn2, hl, hxl, L_4.out, F_4.out, HC4.out.more (by omega), HD4.out⟩
  · go_wp2_with fail
    refine (piAsked_c n1 q _ _ L xs _ L_2.out.r F_2.out.r).mono ?_
    rintro e w3 ⟨rfl, hb3⟩
    have HC3 := hid (HC2.out.keep hb3)
    have HD3 := hid (HD2.out.below (hb3.mono HS2.out))
    have L_3 := hid (L_2.out.grw hb3)
    have F_3 := hid (F_2.out.grw hb3)
    have HS3 : Hid (lo ≤ w3.heap.size) := Nat.le_trans HS2.out hb3.size
    rw [tb]
    clear hb3
    go_wp2
    (try simp only [Exit.inBlock, Exit.then]); refine bodyPost_ret (results_tmp4p rfl _ _ _) rfl ?_
    exact ⟨n1, _, L, q, _, xs, rfl, hn1, hn2, hl, hxl, L_3.out, F_3.out, HC3.out.more (by omega), HD3.out⟩

set_option maxRecDepth 100000 in
set_option maxHeartbeats 4000000 in
theorem DrawIsPile_c (v : Value) (n : Nat) (w : World) (h : RBytes w v n) :
    Calls Try.prog 35 #[v] w (RetGSN w) := by
  have HC := hid (cur_new h)
  obtain ⟨a, cap, rfl, _, _⟩ := h.form
  clear h
  obtain ⟨b, hb⟩ : ∃ b, w.heap.size = b := ⟨_, rfl⟩
  obtain ⟨w0, hw0⟩ : ∃ w0, w.alloc (.cells #[.slice a n cap, .int .i64 0, .int .u64 0] 65) = w0 := ⟨_, rfl⟩
  have HW0 := hid hw0
  have HC0 : Hid (Cur w0 b 0) := by show Cur _ _ _; rw [← hw0, ← hb]; exact HC.out
  have HB := hid hb
  obtain ⟨lo, hlo⟩ : ∃ lo, w0.heap.size = lo := ⟨_, rfl⟩
  have hlt0 := HC0.out.lt
  rw [hlo] at hlt0
  have HS0 : Hid (lo ≤ w0.heap.size) := Nat.le_of_eq hlo.symm
  have HD0 : Hid (Dr b lo w0 w0) := Dr.refl _ _ _
  have HFRESH : Hid (∀ w', Dr b lo w0 w' → Below w.heap.size w w') := fun w' hd => by
    rw [← hlo, ← hw0, ← hb] at hd; exact Dr.fresh hd
  clear hb hw0 HC hlo
  go_enter Try.func35, Try.ntmps35
  go_wp2_with fail
  rw [HB.out, HW0.out]
  refine (pileGraph_c b 0 _ HC0.out (by omega)).mono ?_
  rintro e w1 ⟨n1, v1, L, q, rfl, hn1, hn2, hl, hO1, hc1, hd1⟩
  have HC1 := hid (hc1.more (show _ ≤ (0 + 3000) by omega))
  have HD1 := hid (HD0.out.trans (hd1.low HS0.out))
  have HS1 : Hid (lo ≤ w1.heap.size) := Nat.le_trans HS0.out hd1.size
  have L_1 := hid ((hO1.mono HS0.out))
  obtain ⟨al, nl, cl, rfl⟩ := hO1.form
  clear hO1
  clear hc1 hd1
  go_wp2_with fail
  refine (pile_c b (0 + 3000) n1 q _ HC1.out (by omega) (by omega)).mono ?_
  rintro e w2 ⟨u2, xs, rfl, hxl, hF2, hc2, hd2⟩
  have HC2 := hid (hc2.more (show _ ≤ (0 + 3100) by omega))
  have HD2 := hid (HD1.out.trans (hd2.low HS1.out))
  have L_2 := hid (L_1.out.dr hd2 hlt0)
  have HS2 : Hid (lo ≤ w2.heap.size) := Nat.le_trans HS1.out hd2.size
  have F_2 := hid ((hF2.mono HS1.out (Nat.le_refl _)))
  obtain ⟨a5, n5, c5, rfl⟩ := hF2.form3
  clear hF2
  clear hc2 hd2
  go_wp2
  (try simp only [Exit.inBlock, Exit.then]); refine bodyPost_ret (results_tmp4p rfl _ _ _) rfl ?_
  exact ⟨n1, _, L, q, _, xs, rfl, hn1, hn2, hl, hxl, L_2.out.r, F_2.out.r, HFRESH.out _ HD2.out⟩

set_option maxRecDepth 100000 in
set_option maxHeartbeats 4000000 in
theorem DrawGreatestStable_c (v : Value) (n : Nat) (w : World) (h : RBytes w v n) :
    Calls Try.prog 62 #[v] w (RetGS w) := by
  have HC := hid (cur_new h)
  obtain ⟨a, cap, rfl, _, _⟩ := h.form
  clear h
  obtain ⟨b, hb⟩ : ∃ b, w.heap.size = b := ⟨_, rfl⟩
  obtain ⟨w0, hw0⟩ : ∃ w0, w.alloc (.cells #[.slice a n cap, .int .i64 0, .int .u64 0] 65) = w0 := ⟨_, rfl⟩
  have HW0 := hid hw0
  have HC0 : Hid (Cur w0 b 0) := by show Cur _ _ _; rw [← hw0, ← hb]; exact HC.out
  have HB := hid hb
  obtain ⟨lo, hlo⟩ : ∃ lo, w0.heap.size = lo := ⟨_, rfl⟩
  have hlt0 := HC0.out.lt
  rw [hlo] at hlt0
  have HS0 : Hid (lo ≤ w0.heap.size) := Nat.le_of_eq hlo.symm
  have HD0 : Hid (Dr b lo w0 w0) := Dr.refl _ _ _
  have HFRESH : Hid (∀ w', Dr b lo w0 w' → Below w.heap.size w w') := fun w' hd => by
    rw [← hlo, ← hw0, ← hb] at hd; exact Dr.fresh hd
  clear hb hw0 HC hlo
  go_enter Try.func62, Try.ntmps62
  go_wp2_with fail
  rw [HB.out, HW0.out]
  refine (pileGraph_c b 0 _ HC0.out (by omega)).mono ?_
  rintro e w1 ⟨n1, v1, L, q, rfl, hn1, hn2, hl, hO1, hc1, hd1⟩
  have HC1 := hid (hc1.more (show _ ≤ (0 + 3000) by omega))
  have HD1 := hid (HD0.out.trans (hd1.low HS0.out))
  have HS1 : Hid (lo ≤ w1.heap.size) := Nat.le_trans HS0.out hd1.size
  have L_1 := hid ((hO1.mono HS0.out))
  obtain ⟨al, nl, cl, rfl⟩ := hO1.form
  clear hO1
  clear hc1 hd1
  go_wp2
  go_ret3
  exact ⟨n1, _, L, q, rfl, hn1, hn2, hl, L_1.out.r, HFRESH.out _ HD1.out⟩

set_option maxRecDepth 100000 in
set_option maxHeartbeats 4000000 in
theorem DrawTreesOf_c (v : Value) (n : Nat) (w : World) (h : RBytes w v n) :
    Calls Try.prog 33 #[v] w (RetGr w) := by
  have HC := hid (cur_new h)
  obtain ⟨a, cap, rfl, _, _⟩ := h.form
  clear h
  obtain ⟨b, hb⟩ : ∃ b, w.heap.size = b := ⟨_, rfl⟩
  obtain ⟨w0, hw0⟩ : ∃ w0, w.alloc (.cells #[.slice a n cap, .int .i64 0, .int .u64 0] 65) = w0 := ⟨_, rfl⟩
  have HW0 := hid hw0
  have HC0 : Hid (Cur w0 b 0) := by show Cur _ _ _; rw [← hw0, ← hb]; exact HC.out
  have HB := hid hb
  obtain ⟨lo, hlo⟩ : ∃ lo, w0.heap.size = lo := ⟨_, rfl⟩
  have hlt0 := HC0.out.lt
  rw [hlo] at hlt0
  have HS0 : Hid (lo ≤ w0.heap.size) := Nat.le_of_eq hlo.symm
  have HD0 : Hid (Dr b lo w0 w0) := Dr.refl _ _ _
  have HFRESH : Hid (∀ w', Dr b lo w0 w' → Below w.heap.size w w') := fun w' hd => by
    rw [← hlo, ← hw0, ← hb] at hd; exact Dr.fresh hd
  clear hb hw0 HC hlo
  go_enter Try.func33, Try.ntmps33
  go_wp2_with fail
  rw [HB.out, HW0.out]
  refine (pileGraph_c b 0 _ HC0.out (by omega)).mono ?_
  rintro e w1 ⟨n1, v1, L, q, rfl, hn1, hn2, hl, hO1, hc1, hd1⟩
  have HC1 := hid (hc1.more (show _ ≤ (0 + 3000) by omega))
  have HD1 := hid (HD0.out.trans (hd1.low HS0.out))
  have HS1 : Hid (lo ≤ w1.heap.size) := Nat.le_trans HS0.out hd1.size
  have L_1 := hid ((hO1.mono HS0.out))
  obtain ⟨al, nl, cl, rfl⟩ := hO1.form
  clear hO1
  clear hc1 hd1
  go_wp2
  go_ret2
  exact ⟨n1, _, L, rfl, hn1, hn2, hl, L_1.out.r, HFRESH.out _ HD1.out⟩

set_option maxRecDepth 100000 in
set_option maxHeartbeats 4000000 in
theorem DrawIsRecurrent_c (v : Value) (n : Nat) (w : World) (h : RBytes w v n) :
    Calls Try.prog 47 #[v] w (RetGSN w) := by
  have HC := hid (cur_new h)
  obtain ⟨a, cap, rfl, _, _⟩ := h.form
  clear h
  obtain ⟨b, hb⟩ : ∃ b, w.heap.size = b := ⟨_, rfl⟩
  obtain ⟨w0, hw0⟩ : ∃ w0, w.alloc (.cells #[.slice a n cap, .int .i64 0, .int .u64 0] 65) = w0 := ⟨_, rfl⟩
  have HW0 := hid hw0
  have HC0 : Hid (Cur w0 b 0) := by show Cur _ _ _; rw [← hw0, ← hb]; exact HC.out
  have HB := hid hb
  obtain ⟨lo, hlo⟩ : ∃ lo, w0.heap.size = lo := ⟨_, rfl⟩
  have hlt0 := HC0.out.lt
  rw [hlo] at hlt0
  have HS0 : Hid (lo ≤ w0.heap.size) := Nat.le_of_eq hlo.symm
  have HD0 : Hid (Dr b lo w0 w0) := Dr.refl _ _ _
  have HFRESH : Hid (∀ w', Dr b lo w0 w' → Below w.heap.size w w') := fun w' hd => by
    rw [← hlo, ← hw0, ← hb] at hd; exact Dr.fresh hd
  clear hb hw0 HC hlo
  go_enter Try.func47, Try.ntmps47
  go_wp2_with fail
  rw [HB.out, HW0.out]
  refine (recurrentD_c b 0 _ HC0.out (by omega)).mono ?_
  rintro e w1 ⟨n1, v1, L, q, u1, xs, rfl, hn1, hn2, hl, hxl, hO1, hF1, hc1, hd1⟩
  have HC1 := hid (hc1.more (show _ ≤ (0 + 4000) by omega))
  have HD1 := hid (HD0.out.trans (hd1.low HS0.out))
  have HS1 : Hid (lo ≤ w1.heap.size) := Nat.le_trans HS0.out hd1.size
  have L_1 := hid ((hO1.mono HS0.out))
  have F_1 := hid ((hF1.mono HS0.out (Nat.le_refl _)))
  obtain ⟨al, nl, cl, rfl⟩ := hO1.form
  obtain ⟨a5, n5, c5, rfl⟩ := hF1.form3
  clear hO1 hF1
  clear hc1 hd1
  go_wp2
  (try simp only [Exit.inBlock, Exit.then]); refine bodyPost_ret (results_tmp4p rfl _ _ _) rfl ?_
  exact ⟨n1, _, L, q, _, xs, rfl, hn1, hn2, hl, hxl, L_1.out.r, F_1.out.r, HFRESH.out _ HD1.out⟩

set_option maxRecDepth 100000 in
set_option maxHeartbeats 4000000 in
theorem DrawAddPiles_c (v : Value) (n : Nat) (w : World) (h : RBytes w v n) :
    Calls Try.prog 12 #[v] w (RetGSNN w) := by
  have HC := hid (cur_new h)
  obtain ⟨a, cap, rfl, _, _⟩ := h.form
  clear h
  obtain ⟨b, hb⟩ : ∃ b, w.heap.size = b := ⟨_, rfl⟩
  obtain ⟨w0, hw0⟩ : ∃ w0, w.alloc (.cells #[.slice a n cap, .int .i64 0, .int .u64 0] 65) = w0 := ⟨_, rfl⟩
  have HW0 := hid hw0
  have HC0 : Hid (Cur w0 b 0) := by show Cur _ _ _; rw [← hw0, ← hb]; exact HC.out
  have HB := hid hb
  obtain ⟨lo, hlo⟩ : ∃ lo, w0.heap.size = lo := ⟨_, rfl⟩
  have hlt0 := HC0.out.lt
  rw [hlo] at hlt0
  have HS0 : Hid (lo ≤ w0.heap.size) := Nat.le_of_eq hlo.symm
  have HD0 : Hid (Dr b lo w0 w0) := Dr.refl _ _ _
  have HFRESH : Hid (∀ w', Dr b lo w0 w' → Below w.heap.size w w') := fun w' hd => by
    rw [← hlo, ← hw0, ← hb] at hd; exact Dr.fresh hd
  clear hb hw0 HC hlo
  go_enter Try.func12, Try.ntmps12
  go_wp2_with fail
  rw [HB.out, HW0.out]
  refine (recurrentD_c b 0 _ HC0.out (by omega)).mono ?_
  rintro e w1 ⟨n1, v1, L, q, u1, xs, rfl, hn1, hn2, hl, hxl, hO1, hF1, hc1, hd1⟩
  have HC1 := hid (hc1.more (show _ ≤ (0 + 4000) by omega))
  have HD1 := hid (HD0.out.trans (hd1.low HS0.out))
  have HS1 : Hid (lo ≤ w1.heap.size) := Nat.le_trans HS0.out hd1.size
  have L_1 := hid ((hO1.mono HS0.out))
  have F_1 := hid ((hF1.mono HS0.out (Nat.le_refl _)))
  obtain ⟨al, nl, cl, rfl⟩ := hO1.form
  obtain ⟨a5, n5, c5, rfl⟩ := hF1.form3
  clear hO1 hF1
  clear hc1 hd1
  go_wp2_with fail
  refine (pile_c b (0 + 4000) n1 q _ HC1.out (by omega) (by omega)).mono ?_
  rintro e w2 ⟨u2, ys, rfl, hyl, hF2, hc2, hd2⟩
  have HC2 := hid (hc2.more (show _ ≤ (0 + 4100) by omega))
  have HD2 := hid (HD1.out.trans (hd2.low HS1.out))
  have L_2 := hid (L_1.out.dr hd2 hlt0)
  have F_2 := hid (F_1.out.dr hd2 hlt0)
  have HS2 : Hid (lo ≤ w2.heap.size) := Nat.le_trans HS1.out hd2.size
  have G_2 := hid ((hF2.mono HS1.out (Nat.le_refl _)))
  obtain ⟨a6, n6, c6, rfl⟩ := hF2.form3
  clear hF2
  clear hc2 hd2
  go_wp2
  (try simp only [Exit.inBlock, Exit.then]); refine bodyPost_ret (results_tmp5p rfl _ _ _) rfl ?_
  exact ⟨n1, _, L, q, _, xs, _, ys, rfl, hn1, hn2, hl, hxl, hyl, L_2.out.r, F_2.out.r, G_2.out.r, HFRESH.out _ HD2.out⟩

set_option maxRecDepth 100000 in
set_option maxHeartbeats 1000000 in
theorem DrawToppleAll_c (v : Value) (n : Nat) (w : World) (h : RBytes w v n) :
    Calls Try.prog 6 #[v] w (RetGSN w) := by
  have HH := hid h
  obtain ⟨a, cap, rfl, _, _⟩ := h.form
  clear h
  go_enter Try.func6, Try.ntmps6
  go_wp2_with fail
  refine (DrawIsPile_c _ n _ HH.out).mono ?_
  rintro e w1 ⟨n1, u, L, q, u2, xs, rfl, hn1, hn2, hl, hxl, hL, hF, hb⟩
  have HF := hid (And.intro hL (And.intro hF hb))
  obtain ⟨a3, c3, rfl⟩ := hL.form
  obtain ⟨a4, c4, rfl, _, _, _⟩ := hF
  clear hL hb
  go_wp2
  (try simp only [Exit.inBlock, Exit.then]); refine bodyPost_ret (results_tmp4p rfl _ _ _) rfl ?_
  exact ⟨_, _, _, _, _, _, rfl, hn1, hn2, hl, hxl, HF.out.1, HF.out.2.1, HF.out.2.2⟩

set_option maxRecDepth 100000 in
set_option maxHeartbeats 1000000 in
theorem DrawOppositePile_c (v : Value) (n : Nat) (w : World) (h : RBytes w v n) :
    Calls Try.prog 15 #[v] w (RetGSN w) := by
  have HH := hid h
  obtain ⟨a, cap, rfl, _, _⟩ := h.form
  clear h
  go_enter Try.func15, Try.ntmps15
  go_wp2_with fail
  refine (DrawIsRecurrent_c _ n _ HH.out).mono ?_
  rintro e w1 ⟨n1, u, L, q, u2, xs, rfl, hn1, hn2, hl, hxl, hL, hF, hb⟩
  have HF := hid (And.intro hL (And.intro hF hb))
  obtain ⟨a3, c3, rfl⟩ := hL.form
  obtain ⟨a4, c4, rfl, _, _, _⟩ := hF
  clear hL hb
  go_wp2
  (try simp only [Exit.inBlock, Exit.then]); refine bodyPost_ret (results_tmp4p rfl _ _ _) rfl ?_
  exact ⟨_, _, _, _, _, _, rfl, hn1, hn2, hl, hxl, HF.out.1, HF.out.2.1, HF.out.2.2⟩

set_option maxRecDepth 100000 in
set_option maxHeartbeats 1000000 in
theorem DrawRecurrentPiles_c (v : Value) (n : Nat) (w : World) (h : RBytes w v n) :
    Calls Try.prog 24 #[v] w (RetGS w) := by
  have HH := hid h
  obtain ⟨a, cap, rfl, _, _⟩ := h.form
  clear h
  go_enter Try.func24, Try.ntmps24
  go_wp2_with fail
  refine (DrawGreatestStable_c _ n _ HH.out).mono ?_
  rintro e w1 ⟨n1, u, L, q, rfl, hn1, hn2, hl, hL, hb⟩
  have HF := hid (And.intro hL hb)
  obtain ⟨a3, c3, rfl⟩ := hL.form
  clear hL hb
  go_wp2
  go_ret3
  exact ⟨_, _, _, _, rfl, hn1, hn2, hl, HF.out.1, HF.out.2⟩

end Go.Proofs.Ytifdhapaonideaa

/- The laws' own small functions: equal lists, sums, membership. -/
namespace Go.Proofs.Ytifdhapaonideaa
open Go.RowKit
open Go.Lib (hid)

theorem RInts.form3 {w : World} {v : Value} {xs : List Int} (h : RInts w v xs) : ∃ a n c, v = .slice a n c := by
  obtain ⟨a, cap, rfl, _⟩ := h; exact ⟨_, _, _, rfl⟩
theorem RInts.form {w : World} {v : Value} {xs : List Int} (h : RInts w v xs) : ∃ a c, v = .slice a xs.length c := by
  obtain ⟨a, cap, rfl, _⟩ := h; exact ⟨_, _, rfl⟩
set_option maxHeartbeats 400000 in
theorem sameInts_c (v u : Value) (l m : List Int) (w : World) (h : RInts w v l) (h' : RInts w u m) :
    Calls Try.prog 9 #[v, u] w fun e w' => e = .returned (.bool (decide (l = m))) ∧ ∃ n, w' = w.drewN n := by
  obtain ⟨a, cap, rfl, h1, h2, hc⟩ := h
  obtain ⟨a', cap', rfl, h1', h2', hc'⟩ := h'
  unfold maxLen at h2 h2'
  by_cases hlen : l.length = m.length
  · have HL := hid hlen
    go_enter Try.func9, Try.ntmps9
    go_wp2
    go_loopw [13] (fun i wr => ∃ k : Nat, ∃ n : Nat, k ≤ l.length ∧ wr = w.drewN n ∧ i = .int .i64 k ∧ eqB l m = eqB (l.drop k) (m.drop k)) (fun i _ => l.length - (intOf i).toNat)
    case atStart => exact ⟨0, 0, Nat.zero_le _, rfl, rfl, rfl⟩
    case round =>
      obtain ⟨k, n, hk, rfl, rfl, hr⟩ := hrel
      have HR := hid hr; clear hr
      by_cases hlt : k < l.length
      · obtain ⟨g, o, x, rfl, hk, HD, HX⟩ := ints_at hc hlt
        obtain ⟨g', o', y, rfl, hk', HD', HY⟩ := ints_at hc' (show k < m.length by omega)
        clear hc hc'
        go_wp2
        go_quiet (fail)
        go_wp2
        · have hx : (x == y) = false := bne_iff_beq_false (by assumption)
          go_ret
          exact ⟨ret_bool (by rw [← eqB_same l m HL.out, HR.out, HD.out, HD'.out, eqB_cons, hx, Bool.false_and]), _, by first | exact World.drewN_drewN _ _ _ | rfl⟩
        · have hx : (x == y) = true := bne_false_beq (by assumption)
          go_roundw
          case rel => exact ⟨k + 1, _, by omega, by first | exact World.drewN_drewN _ _ _ | rfl, by go_num, by rw [HR.out, HD.out, HD'.out, eqB_cons, hx, Bool.true_and]⟩
          case measure => simp [intOf]; omega
      · clear hc hc'
        go_wp2
        go_ret
        exact ⟨ret_bool (by rw [← eqB_same l m HL.out, HR.out, List.drop_eq_nil_of_le (by omega), eqB_nil]), _, rfl⟩
  · have hne : l ≠ m := fun e => hlen (by rw [e])
    have HN := hid hne
    clear hne hc hc'
    go_enter Try.func9, Try.ntmps9
    go_wp2
    go_ret
    exact ⟨ret_bool (by simp [HN.out]), 0, rfl⟩
theorem sameInts_b (v u : Value) (l m : List Int) (w : World) (h : RInts w v l) (h' : RInts w u m) :
    Calls Try.prog 9 #[v, u] w fun e w' => e = .returned (.bool (decide (l = m))) ∧ Below w.heap.size w w' :=
  (sameInts_c v u l m w h h').mono fun e w' ⟨h1, n, h2⟩ => ⟨h1, by rw [h2]; exact below_drewN (Below.refl _ _) n⟩
/-- lists that are known to be the same -/
theorem sameInts_y (v u : Value) (l : List Int) (w : World) (h : RInts w v l) (h' : RInts w u l) :
    Calls Try.prog 9 #[v, u] w fun e w' => e = .returned (.bool true) ∧ Below w.heap.size w w' :=
  (sameInts_b v u l l w h h').mono fun e w' ⟨h1, h2⟩ => ⟨by rw [h1]; simp, h2⟩

/-- numbers whose sum fits -/
def smallQ (l : List Int) : Prop := l.length ≤ 1048576 ∧ ∀ x ∈ l, -1000000000000 ≤ x ∧ x ≤ 1000000000000
theorem sumQ_bound {l : List Int} (h : ∀ x ∈ l, -1000000000000 ≤ x ∧ x ≤ 1000000000000) : -1000000000000 * (l.length : Int) ≤ l.sum ∧ l.sum ≤ 1000000000000 * (l.length : Int) := by
  induction l with
  | nil => simp
  | cons x xs ih =>
    have h1 := h x (by simp)
    have h2 := ih (fun y hy => h y (by simp [hy]))
    rw [List.sum_cons, List.length_cons]; omega
theorem sumQ_succ (l : List Int) {k : Nat} (h : k < l.length) : (l.take (k + 1)).sum = (l.take k).sum + l.getD k 0 := by
  rw [List.take_succ_eq_append_getElem h, List.sum_append]; simp [List.getD, h]
set_option maxHeartbeats 1000000 in
theorem pSum_c (v : Value) (l : List Int) (w : World) (h : RInts w v l) (hs : smallQ l) :
    Calls Try.prog 11 #[v] w fun e w' => e = .returned (.int .i64 l.sum) ∧ w = w' := by
  obtain ⟨a, cap, rfl, h1, h2, hc⟩ := h
  unfold maxLen at h2
  have HS := hid hs
  have hl := hs.1
  clear hs
  go_enter Try.func11, Try.ntmps11
  go_wp2
  go_loop [3, 8] (fun s i => ∃ k : Nat, k ≤ l.length ∧ i = .int .i64 k ∧ s = .int .i64 (l.take k).sum) (fun _ i => l.length - (intOf i).toNat)
  case atStart => exact ⟨0, Nat.zero_le _, rfl, rfl⟩
  case round =>
    obtain ⟨k, hk, rfl, rfl⟩ := hrel
    by_cases hlt : k < l.length
    · obtain ⟨g, o, x, rfl, hk, HD, HX⟩ := ints_at hc hlt
      have h3 := sumQ_succ l hlt
      rw [HX.out] at h3
      have h4 := sumQ_bound (l := l.take k) (fun x hx => HS.out.2 x (List.mem_of_mem_take hx))
      have h5 := HS.out.2 x (by rw [← HX.out]; simp [List.getD, hlt])
      have h6 : (l.take k).length ≤ 1048576 := by rw [List.length_take]; omega
      obtain ⟨q, hq⟩ : ∃ q, (l.take k).sum = q := ⟨_, rfl⟩
      rw [hq] at h3 h4 ⊢
      have h7 : -1048576000000000000 ≤ q ∧ q ≤ 1048576000000000000 := by omega
      have HE := hid h3
      clear hc h3 h4 h6 hq
      go_wp2
      go_round
      case rel => exact ⟨k + 1, by omega, by go_num, by rw [HE.out]⟩
      case measure => simp [intOf]; omega
    · obtain rfl : k = l.length := by omega
      rw [List.take_length]
      clear hc
      go_wp2
      go_ret
      exact ⟨rfl, rfl⟩

end Go.Proofs.Ytifdhapaonideaa

/- Results of the functions of piles, with names for what is known. -/
namespace Go.Proofs.Ytifdhapaonideaa
open Go.RowKit
open Go.Lib (hid)

theorem RetIB.lp {w : World} {p : List Int × Bool} {e : Ending} {w' : World} (h : RetIB w p e w') {X : List Int} {b : Bool} (hp : p = (X, b)) : ∃ a n c, e = .returned (.tuple #[.slice a n c, .bool b]) ∧ RInts w' (.slice a n c) X ∧ Below w.heap.size w w' := by
  subst hp
  obtain ⟨v, rfl, hF, hb⟩ := h
  obtain ⟨a, n, c, rfl⟩ := hF.form3
  exact ⟨a, n, c, rfl, hF.r, hb⟩
theorem RetTB.lp {w : World} {p : List Int × List Int × Bool} {e : Ending} {w' : World} (h : RetTB w p e w') {X Y : List Int} {b : Bool} (hp : p = (X, Y, b)) : ∃ a n c a' n' c', e = .returned (.tuple #[.slice a n c, .slice a' n' c', .bool b]) ∧ RInts w' (.slice a n c) X ∧ RInts w' (.slice a' n' c') Y ∧ Below w.heap.size w w' := by
  subst hp
  obtain ⟨v, s, rfl, hF, hS, hb⟩ := h
  obtain ⟨a, n, c, rfl⟩ := hF.form3
  obtain ⟨a', n', c', rfl⟩ := hS.form3
  exact ⟨a, n, c, a', n', c', rfl, hF.r, hS.r, hb⟩
theorem RetBC.lp {w : World} {p : Bool × Bool} {e : Ending} {w' : World} (h : RetBC w p e w') {x b : Bool} (hp : p = (x, b)) : e = .returned (.tuple #[.bool x, .bool b]) ∧ Below w.heap.size w w' := by
  subst hp; exact h
theorem RetZC.lp {w : World} {p : Int × Bool} {e : Ending} {w' : World} (h : RetZC w p e w') {x : Int} {b : Bool} (hp : p = (x, b)) : e = .returned (.tuple #[.int .i64 x, .bool b]) ∧ Below w.heap.size w w' := by
  subst hp; exact h

/-- a sum of few great numbers -/
theorem sumP_bound {l : List Int} (h : ∀ x ∈ l, 0 ≤ x ∧ x ≤ 100000000000000000) : 0 ≤ l.sum ∧ l.sum ≤ 100000000000000000 * (l.length : Int) := by
  induction l with
  | nil => simp
  | cons x xs ih =>
    have h1 := h x (by simp)
    have h2 := ih (fun y hy => h y (by simp [hy]))
    rw [List.sum_cons, List.length_cons]; omega
set_option maxHeartbeats 1000000 in
theorem pSumB_c (v : Value) (l : List Int) (w : World) (h : RInts w v l) (hs : l.length ≤ 5 ∧ ∀ x ∈ l, 0 ≤ x ∧ x ≤ 100000000000000000) :
    Calls Try.prog 11 #[v] w fun e w' => e = .returned (.int .i64 l.sum) ∧ w = w' := by
  obtain ⟨a, cap, rfl, h1, h2, hc⟩ := h
  unfold maxLen at h2
  have HS := hid hs
  have hl := hs.1
  clear hs
  go_enter Try.func11, Try.ntmps11
  go_wp2
  go_loop [3, 8] (fun s i => ∃ k : Nat, k ≤ l.length ∧ i = .int .i64 k ∧ s = .int .i64 (l.take k).sum) (fun _ i => l.length - (intOf i).toNat)
  case atStart => exact ⟨0, Nat.zero_le _, rfl, rfl⟩
  case round =>
    obtain ⟨k, hk, rfl, rfl⟩ := hrel
    by_cases hlt : k < l.length
    · obtain ⟨g, o, x, rfl, hk, HD, HX⟩ := ints_at hc hlt
      have h3 := sumQ_succ l hlt
      rw [HX.out] at h3
      have h4 := sumP_bound (l := l.take k) (fun x hx => HS.out.2 x (List.mem_of_mem_take hx))
      have h5 := HS.out.2 x (by rw [← HX.out]; simp [List.getD, hlt])
      have h6 : (l.take k).length ≤ 5 := by rw [List.length_take]; omega
      obtain ⟨q, hq⟩ : ∃ q, (l.take k).sum = q := ⟨_, rfl⟩
      rw [hq] at h3 h4 ⊢
      have h7 : 0 ≤ q ∧ q ≤ 500000000000000000 := by omega
      have HE := hid h3
      clear hc h3 h4 h6 hq
      go_wp2
      go_round
      case rel => exact ⟨k + 1, by omega, by go_num, by rw [HE.out]⟩
      case measure => simp [intOf]; omega
    · obtain rfl : k = l.length := by omega
      rw [List.take_length]
      clear hc
      go_wp2
      go_ret
      exact ⟨rfl, rfl⟩

/-- more bytes than a million and a bit -/
def bigB (n m : Nat) : Bool := decide (1048576 < n) || decide (1048576 - (n : Int) < m)
set_option maxHeartbeats 1000000 in
theorem big_c (v u : Value) (n m : Nat) (w : World) (h : RBytes w v n) (h' : RBytes w u m) :
    Calls Try.prog 5 #[v, u] w fun e w' => e = .returned (.bool (bigB n m)) ∧ ∃ q, w' = w.drewN q := by
  obtain ⟨a, cap, rfl, h1, h2⟩ := h.form
  obtain ⟨a', cap', rfl, h3, h4⟩ := h'.form
  unfold maxLen at h2 h4
  clear h h'
  by_cases t1 : (1048576 : Int) < (n : Int)
  · go_enter Try.func5, Try.ntmps5
    go_wp2
    go_ret
    exact ⟨ret_bool (by unfold bigB; simp; omega), 0, rfl⟩
  · have f1 : IntKind.i64.wrap (1048576 - (n : Int)) = 1048576 - (n : Int) := IntWalk.i64_in _ (by omega)
    by_cases t2 : 1048576 - (n : Int) < (m : Int)
    all_goals
      go_enter Try.func5, Try.ntmps5
      go_wp2
      go_ret
      exact ⟨ret_bool (by unfold bigB; simp; omega), 0, rfl⟩
end Go.Proofs.Ytifdhapaonideaa

/- The program's determinants. -/
namespace Go.Proofs.Ytifdhapaonideaa
open Go.RowKit
open Go.Lib (hid)

/-! ### Bounds -/
def detB : Nat → Int
  | 0 => 1
  | n + 1 => (n + 1) * (40 * detB n)
theorem detB_pos : ∀ n, 1 ≤ detB n
  | 0 => Int.le_refl _
  | n + 1 => by
    have h := detB_pos n
    have : (1 : Int) * (40 * detB n) ≤ (n + 1) * (40 * detB n) := Int.mul_le_mul_of_nonneg_right (by omega) (by omega)
    rw [detB]; omega
/-- rows and entries of a square matrix -/
structure SqM (n : Nat) (M : List (List Int)) : Prop where
  len : M.length = n
  rows : ∀ r ∈ M, r.length = n
  ents : ∀ r ∈ M, ∀ x ∈ r, -40 ≤ x ∧ x ≤ 40
theorem SqM.minor {n k : Nat} {M : List (List Int)} (h : SqM (n + 1) M) (hk : k < n + 1) : SqM n (M.tail.map fun r => r.eraseIdx k) where
  len := by have := h.len; simp; omega
  rows := fun r hr => by
    obtain ⟨y, hy, rfl⟩ := List.mem_map.1 hr
    have := h.rows y (List.mem_of_mem_tail hy)
    rw [List.length_eraseIdx]
    split <;> omega
  ents := fun r hr x hx => by
    obtain ⟨y, hy, rfl⟩ := List.mem_map.1 hr
    exact h.ents y (List.mem_of_mem_tail hy) x (List.mem_of_mem_eraseIdx hx)
/-- a term of the sum -/
def detT (n : Nat) (M : List (List Int)) (k : Nat) : Int := sgnN k * (M.headD []).getD k 0 * detN n (M.tail.map fun r => r.eraseIdx k)
theorem det_succ {n : Nat} {M : List (List Int)} (h : SqM (n + 1) M) : detN (n + 1) M = sumN (n + 1) (detT n M) := by
  have hl := h.len
  cases M with
  | nil => simp at hl
  | cons r rows => rw [detN]; simp only [List.headD_cons]; rw [h.rows r (by simp)]; rfl
theorem sgnN_or (k : Nat) : sgnN k = 1 ∨ sgnN k = -1 := by unfold sgnN; split <;> simp
theorem sgnN_succ (k : Nat) : sgnN (k + 1) = - sgnN k := by
  unfold sgnN
  by_cases e : k % 2 = 0
  · rw [if_pos e, if_neg (by omega)]
  · rw [if_neg e, if_pos (by omega)]; rfl
theorem head_bound {n k : Nat} {M : List (List Int)} (h : SqM (n + 1) M) (hk : k < n + 1) : -40 ≤ (M.headD []).getD k 0 ∧ (M.headD []).getD k 0 ≤ 40 := by
  have hl := h.len
  cases M with
  | nil => simp at hl
  | cons r rows =>
    have hr := h.rows r (by simp)
    simp only [List.headD_cons]
    have : r.getD k 0 ∈ r := by simp [List.getD, show k < r.length by omega]
    exact h.ents r (by simp) _ this
theorem mul_abs {a b A B : Int} (ha : -A ≤ a ∧ a ≤ A) (hb : -B ≤ b ∧ b ≤ B) : -(A * B) ≤ a * b ∧ a * b ≤ A * B := by
  have hA : 0 ≤ A := by omega
  have hB : 0 ≤ B := by omega
  have h1 : 0 ≤ (A - a) * (B - b) := Int.mul_nonneg (by omega) (by omega)
  have h2 : 0 ≤ (A + a) * (B + b) := Int.mul_nonneg (by omega) (by omega)
  have h3 : 0 ≤ (A - a) * (B + b) := Int.mul_nonneg (by omega) (by omega)
  have h4 : 0 ≤ (A + a) * (B - b) := Int.mul_nonneg (by omega) (by omega)
  rw [Int.sub_mul, Int.mul_sub, Int.mul_sub] at h1
  rw [Int.add_mul, Int.mul_add, Int.mul_add] at h2
  rw [Int.sub_mul, Int.mul_add, Int.mul_add] at h3
  rw [Int.add_mul, Int.mul_sub, Int.mul_sub] at h4
  omega
theorem sum_abs {n : Nat} {f : Nat → Int} {B : Int} (h : ∀ k, k < n → -B ≤ f k ∧ f k ≤ B) : ∀ j, j ≤ n → -(j * B) ≤ sumN j f ∧ sumN j f ≤ j * B
  | 0, _ => by simp [sumN]
  | j + 1, hj => by
    have h1 := sum_abs h j (by omega)
    have h2 := h j (by omega)
    have e : ((j + 1 : Nat) : Int) * B = j * B + B := by rw [Int.natCast_succ, Int.add_mul, Int.one_mul]
    rw [e, sumN]; omega
theorem det_bound : ∀ (n : Nat) (M : List (List Int)), SqM n M → -detB n ≤ detN n M ∧ detN n M ≤ detB n
  | 0, _, _ => by simp [detN, detB]
  | n + 1, M, h => by
    rw [det_succ h, detB]
    have h1 := sum_abs (n := n + 1) (f := detT n M) (B := 40 * detB n) (fun k hk => by
      have a := head_bound h hk
      have b := det_bound n _ (h.minor hk)
      unfold detT
      refine mul_abs ?_ b
      rcases sgnN_or k with e | e <;> rw [e] <;> omega) (n + 1) (Nat.le_refl _)
    rw [Int.natCast_succ] at h1
    exact h1
theorem term_bound {n k : Nat} {M : List (List Int)} (h : SqM (n + 1) M) (hk : k < n + 1) : -(40 * detB n) ≤ detT n M k ∧ detT n M k ≤ 40 * detB n := by
  have a := head_bound h hk
  have b := det_bound n _ (h.minor hk)
  unfold detT
  refine mul_abs ?_ b
  rcases sgnN_or k with e | e <;> rw [e] <;> omega
theorem detB4 {n : Nat} (h : n ≤ 4) : detB n ≤ 61440000 := by
  have h5 : n = 0 ∨ n = 1 ∨ n = 2 ∨ n = 3 ∨ n = 4 := by omega
  rcases h5 with e | e | e | e | e <;> subst e <;> decide

/-- the rows behind the first -/
theorem rmat_tail {w : World} {g o n cap : Nat} {r : List Int} {M : List (List Int)} (h : RMat w (.slice (some ⟨g, o, none⟩) (n + 1) cap) (r :: M)) : RMat w (.slice (some ⟨g, o + 1, none⟩) n (cap - 1)) M := by
  obtain ⟨a, c, he, h1, h2, hc⟩ := h
  simp only [Value.slice.injEq, List.length_cons] at he
  obtain ⟨rfl, hn, rfl⟩ := he
  simp only [List.length_cons] at h1 hc
  obtain rfl : n = M.length := by omega
  refine ⟨_, _, rfl, by omega, by omega, fun i hi => ?_⟩
  obtain ⟨g', o', v, he, hcell, hv⟩ := hc (i + 1) (by omega)
  simp only [Option.some.injEq, Addr.mk.injEq, and_true] at he
  obtain ⟨rfl, rfl⟩ := he
  exact ⟨g, o + 1, v, rfl, by rw [show o + 1 + i = o + (i + 1) by omega]; exact hcell, by simpa using hv⟩
theorem rmat_zero {w : World} {a : Option Addr} {cap : Nat} (h : cap ≤ maxLen) : RMat w (.slice a 0 cap) [] := ⟨a, cap, rfl, Nat.zero_le _, h, fun i hi => by simp at hi⟩
theorem erase_two (r : List Int) (k : Nat) : [r.take k, r.drop (k + 1)].flatten = r.eraseIdx k := by
  rw [List.eraseIdx_eq_take_drop_succ]; simp
end Go.Proofs.Ytifdhapaonideaa

/- The program's matrix of a graph. -/
namespace Go.Proofs.Ytifdhapaonideaa
open Go.RowKit
open Go.Lib (hid)

/-- one row of an own square matrix, by its block -/
theorem fm_rowT {w : World} {lo hi g n cap : Nat} {M : List (List Int)} (h : FMat w lo hi (.slice (some ⟨g, 0, none⟩) n cap) M) (hl : M.length = n) (hsq : sqB M n = true) {i : Nat} (hi' : i < n) :
    ∃ gr cr : Nat, w.cell? ⟨g, i, none⟩ = some (.slice (some ⟨gr, 0, none⟩) n cr) ∧ (∀ j, j < n → w.cell? ⟨gr, j, none⟩ = some (.int .i64 (ent M i j)) ∧ w.frozen? ⟨gr, j, none⟩ = false) ∧
      ∀ j y, j < n → FMat (w.setCell ⟨gr, j, none⟩ (.int .i64 y)) lo hi (.slice (some ⟨g, 0, none⟩) n cap) (setEnt M i j y) ∧ Touch lo hi w (w.setCell ⟨gr, j, none⟩ (.int .i64 y)) ∧ (w.setCell ⟨gr, j, none⟩ (.int .i64 y)).cell? ⟨g, i, none⟩ = some (.slice (some ⟨gr, 0, none⟩) n cr) := by
  obtain ⟨g', r, x, he, _, _, hc, _, hr, HX, hset⟩ := h.at (i := i) (by omega)
  simp only [Option.some.injEq, Addr.mk.injEq, and_true] at he
  subst he
  obtain ⟨ar, cr, rfl⟩ := hr.form
  have hx : x.length = n := by rw [← HX.out]; exact sqB_len hsq (show i < M.length by omega)
  obtain ⟨gr, _, rfl, hlo, hhi, _⟩ := hr.at (i := 0) (by omega)
  have hcell : ∀ j, j < n → w.cell? ⟨gr, j, none⟩ = some (.int .i64 (ent M i j)) ∧ w.frozen? ⟨gr, j, none⟩ = false := fun j hj => by
    obtain ⟨g2, z, he, _, _, hcz, hfz, HZ⟩ := hr.at (i := j) (by omega)
    simp only [Option.some.injEq, Addr.mk.injEq, and_true] at he
    subst he
    refine ⟨?_, hfz⟩
    rw [hcz, ← HZ.out]; unfold ent; rw [HX.out]
  have hne : gr ≠ g := fun e => by
    have := (hcell i hi').1
    rw [e, hc] at this
    cases this
  refine ⟨gr, cr, by rw [hc, hx], hcell, fun j y hj => ?_⟩
  have hs := hr.set j y
  have hm := hset _ _ hs.1 hs.2.1
  refine ⟨?_, Touch.of_grown hs.2.1 (fun k hk => by cases hk; exact ⟨hlo, hhi⟩), ?_⟩
  · unfold setEnt; rw [HX.out]; exact hm
  · have hb := hs.2.1.block g (cell_lt hc) (fun e => by cases e; exact hne rfl)
    have : (w.setCell ⟨gr, j, none⟩ (.int .i64 y)).cell? ⟨g, i, none⟩ = w.cell? ⟨g, i, none⟩ := by
      unfold World.cell?; simp only [hb]
    rw [this, hc, hx]

/-- the matrix when all rows below v are done, and the entries below j of row v turned -/
def lapP (n : Nat) (L : List Lnk) (v j : Nat) : Nat → Nat → Int := fun a b => if a < v then lapV n L a b else if a = v ∧ b < j then - mulL L a b else mulL L a b
theorem lapP_turn {n v j : Nat} {L : List Lnk} : mat n (upd2 (lapP n L v j) v j (- mulL L v j)) = mat n (lapP n L v (j + 1)) := mat_congr fun a b _ _ => by
  unfold upd2 lapP
  by_cases e : a = v ∧ b = j
  · rw [if_pos e, if_neg (by omega), if_pos (by omega), e.1, e.2]
  · rw [if_neg e]
    by_cases e1 : a < v
    · rw [if_pos e1, if_pos e1]
    · rw [if_neg e1, if_neg e1]
      by_cases e2 : a = v ∧ b < j
      · rw [if_pos e2, if_pos (by omega)]
      · rw [if_neg e2, if_neg (by omega)]
theorem lapP_next {n v : Nat} {L : List Lnk} : mat n (upd2 (lapP n L v n) v v (valV n L v)) = mat n (lapP n L (v + 1) 0) := mat_congr fun a b ha hb => by
  unfold upd2 lapP
  by_cases e : a = v ∧ b = v
  · rw [if_pos e, if_pos (by omega), e.1, e.2]
    unfold lapV valV
    rw [if_pos rfl]
  · rw [if_neg e]
    by_cases e1 : a < v
    · rw [if_pos e1, if_pos (by omega)]
    · rw [if_neg e1]
      by_cases e2 : a = v
      · rw [if_pos ⟨e2, hb⟩, if_pos (by omega)]
        unfold lapV
        rw [if_neg (by omega)]
      · rw [if_neg (by omega), if_neg (by omega), if_neg (by omega)]

set_option maxRecDepth 100000 in
set_option maxHeartbeats 4000000 in
theorem laplacian_c (n : Nat) (p : Value) (L : List Lnk) (w : World) (h : RG w p n L) (hG : GoodL n L) :
    Calls Try.prog 65 #[p] w (RetMat w (mat n (lapV n L))) := by
  have hn1 := hG.n1
  have hn8 := hG.n8
  obtain ⟨g, bt, vt, rfl, c0, c1, c2, c3, hm, hv⟩ := h
  obtain ⟨gv, ov, cv, rfl, hv1, hv2, hvc⟩ := ri_open hv (by omega)
  have HM := hid hm
  have HC := hid (And.intro c2 hvc)
  have hmb : ∀ a b, 0 ≤ mulL L a b ∧ mulL L a b ≤ 5 := fun a b => mulL_bound hG.each hG.sorted a b
  have HMB := hid hmb
  have hsz : ((mat n (mulL L)).length : Int) ≤ 1048576 ∧ ∀ r ∈ mat n (mulL L), (r.length : Int) ≤ 1048576 := by
    refine ⟨by rw [mat_len]; omega, fun r hr => ?_⟩
    have := sqB_iff.1 (mat_sq n (mulL L)) r hr
    omega
  obtain ⟨ab, cb, rfl, -, -, -⟩ := id hm
  clear hm hv hvc c0 c2 c3 hG hmb
  go_enter Try.func65, Try.ntmps65
  go_wp2_with fail
  refine (clones_c _ (mat n (mulL L)) _ HM.out hsz).mono ?_
  rintro e w1 ⟨u, rfl, hF, hb⟩
  obtain ⟨gO, cO, rfl, hlo, hhi⟩ := hF.form_some (by rw [mat_len]; omega)
  rw [mat_len] at hF
  have HF := hid hF
  have HB := hid hb
  have hs := hb.size
  have HLE := hid (mat_len n (mulL L))
  clear hF hb c1
  rw [HLE.out]
  go_wp2
  go_loopg [14] n (fun gk vv wr => ∃ v : Nat, v ≤ n ∧ gk = n - v ∧ vv = .int .i64 v ∧ FMat wr w.heap.size w1.heap.size (.slice (some ⟨gO, 0, none⟩) n cO) (mat n (lapP n L v 0)) ∧ Touch w.heap.size w1.heap.size w1 wr)
  case atStart => exact ⟨0, Nat.zero_le _, rfl, rfl, by
    have e : mat n (lapP n L 0 0) = mat n (mulL L) := mat_congr fun a b _ _ => by unfold lapP; rw [if_neg (by omega), if_neg (by omega)]
    rw [e]; exact HF.out, Touch.refl _ _ _⟩
  case round =>
    obtain ⟨v, hv, rfl, rfl, hF, hT⟩ := hrel
    have HT := hid hT
    by_cases hlt : v < n
    · obtain ⟨gr, cr, e1, _, _⟩ := fm_rowT hF (mat_len _ _) (mat_sq _ _) hlt
      have HF := hid hF
      have HE1 := hid e1
      have hvz : (v : Int) < (n : Int) := by omega
      obtain ⟨wo, rfl⟩ : ∃ wo : World, wo = wr := ⟨_, rfl⟩
      clear hF hT
      go_wp2
      clear e1
      go_loopg [21] n (fun gk jj wr => ∃ j : Nat, j ≤ n ∧ gk = n - j ∧ jj = .int .i64 j ∧ FMat wr w.heap.size w1.heap.size (.slice (some ⟨gO, 0, none⟩) n cO) (mat n (lapP n L v j)) ∧ Touch w.heap.size w1.heap.size w1 wr ∧ wr.cell? ⟨gO, v, none⟩ = some (.slice (some ⟨gr, 0, none⟩) n cr))
      case atStart => exact ⟨0, Nat.zero_le _, rfl, rfl, HF.out, HT.out, HE1.out⟩
      case round =>
        obtain ⟨j, hj, rfl, rfl, hF, hT, e1⟩ := hrel
        have HT2 := hid hT
        obtain ⟨gr', cr', e1', hcs, hset⟩ := fm_rowT hF (mat_len _ _) (mat_sq _ _) hlt
        rw [e1] at e1'
        simp only [Option.some.injEq, Value.slice.injEq, Addr.mk.injEq, true_and, and_true] at e1'
        obtain ⟨rfl, rfl⟩ := e1'
        by_cases hltj : j < n
        · obtain ⟨a1, a2⟩ := hcs j hltj
          have hx : ent (mat n (lapP n L v j)) v j = mulL L v j := by rw [mat_ent _ hlt hltj]; unfold lapP; rw [if_neg (by omega), if_neg (by omega)]
          rw [hx] at a1
          have hst := hset j (- mulL L v j) hltj
          rw [mat_set _ _ hlt hltj, lapP_turn] at hst
          have hbd := HMB.out v j
          obtain ⟨x, hxx⟩ : ∃ x, mulL L v j = x := ⟨_, rfl⟩
          rw [hxx] at a1 hst hbd
          have HO := hid (And.intro hst.1 (And.intro (hT.trans hst.2.1) hst.2.2))
          have f1 : IntKind.i64.wrap (- x) = - x := IntWalk.i64_in _ (by omega)
          have hjz : (j : Int) < (n : Int) := by omega
          clear hF hT e1 hcs hset hx hst hxx
          go_wp2
          go_roundg (n - (j + 1))
          case rel => exact ⟨j + 1, by omega, rfl, by go_num, HO.out⟩
          case measure => omega
        · obtain rfl : n = j := by omega
          obtain ⟨a1, a2⟩ := hcs v hlt
          have hst := hset v (valV n L v) hlt
          rw [mat_set _ _ hlt hlt, lapP_next] at hst
          have k0 := hT.cell (by have := cell_lt HC.out.1; omega) (((HB.out.cell (p := ⟨g, 2, none⟩) (cell_lt HC.out.1))).trans HC.out.1)
          have k1 := hT.cell (by have := cell_lt (HC.out.2 v hlt); omega) (((HB.out.cell (p := ⟨gv, ov + v, none⟩) (cell_lt (HC.out.2 v hlt)))).trans (HC.out.2 v hlt))
          obtain ⟨x, hxx⟩ : ∃ x, valV n L v = x := ⟨_, rfl⟩
          rw [hxx] at k1 hst
          have HO := hid (And.intro hst.1 (hT.trans hst.2.1))
          clear hF hT e1 hcs hset hst hxx
          go_wp2
          go_roundg (n - (v + 1))
          case rel => exact ⟨v + 1, by omega, rfl, by go_num, HO.out⟩
          case measure => omega
    · obtain rfl : n = v := by omega
      have e : mat n (lapP n L n 0) = mat n (lapV n L) := mat_congr fun a b ha _ => by unfold lapP; rw [if_pos ha]
      rw [e] at hF
      have HF := hid hF
      clear hF hT
      go_wp2
      go_ret
      exact ⟨_, rfl, HF.out.mono (Nat.le_refl _) HT.out.size, HB.out.trans (HT.out.below (Nat.le_refl _) hs)⟩
end Go.Proofs.Ytifdhapaonideaa

/- The program's determinants and its number of spanning trees (printed by wip/detgen.py). -/
namespace Go.Proofs.Ytifdhapaonideaa
open Go.RowKit
open Go.Lib (hid)

set_option maxRecDepth 100000 in
set_option maxHeartbeats 8000000 in
theorem determinant_c : ∀ (n : Nat) (M : List (List Int)) (v : Value) (w : World), n ≤ 4 → SqM n M → RMat w v M →
    Calls Try.prog 66 #[v] w fun e w' => e = .returned (.int .i64 (detN n M)) ∧ Below w.heap.size w w' := by
  intro n
  induction n with
  | zero =>
    intro M v w _ hM h
    obtain rfl : M = [] := List.length_eq_zero_iff.1 hM.len
    obtain ⟨a, cap, rfl, -, -, -⟩ := h
    go_enter Try.func66, Try.ntmps66
    go_wp2
    go_ret
    exact ⟨rfl, Below.refl _ _⟩
  | succ n ih =>
    intro M v w hn4 hM h
    have HIH := hid ih
    clear ih
    have hlen := hM.len
    obtain ⟨r, rows, rfl⟩ : ∃ r rows, M = r :: rows := by
      cases M with
      | nil => simp at hlen
      | cons r rows => exact ⟨r, rows, rfl⟩
    have hrl := hM.rows r (by simp)
    have hrows : rows.length = n := by simp at hlen; exact hlen
    have HSQ := hid hM
    have H0 := hid h
    obtain ⟨a, cap, rfl, hc1, hc2, hc⟩ := h
    rw [List.length_cons, hrows] at hc1 H0 ⊢
    unfold maxLen at hc2
    obtain ⟨g, o, rv, rfl, e0, hr0⟩ := hc 0 (by simp)
    rw [Nat.add_zero] at e0
    have hr0 : RInts w rv r := hr0
    obtain ⟨ar, c0, rfl, hr1, hr2, hrc⟩ := hr0
    rw [hrl] at hr1 hrc e0
    unfold maxLen at hr2
    obtain ⟨g0, o0, rfl, _⟩ := hrc 0 (by omega)
    have hrc : ∀ k, k < n + 1 → w.cell? ⟨g0, o0 + k, none⟩ = some (.int .i64 (r.getD k 0)) := fun k hk => by
      obtain ⟨g', o', he, hx⟩ := hrc k hk
      simp only [Option.some.injEq, Addr.mk.injEq, and_true] at he
      obtain ⟨rfl, rfl⟩ := he
      exact hx
    have HRC := hid hrc
    have hx40 : ∀ k, k < n + 1 → -40 ≤ r.getD k 0 ∧ r.getD k 0 ≤ 40 := fun k hk => head_bound hM hk
    have HX40 := hid hx40
    have hyl : ∀ y ∈ rows, y.length = n + 1 := fun y hy => hM.rows y (by simp [hy])
    have HYL := hid hyl
    have HD : Hid (detN (n + 1) (r :: rows) = sumN (n + 1) (detT n (r :: rows))) := det_succ hM
    obtain ⟨DD, hDD⟩ : ∃ DD, detN (n + 1) (r :: rows) = DD := ⟨_, rfl⟩
    rw [hDD] at HD ⊢
    have HB4 := hid (detB4 (n := n) (by omega))
    have HB0 := hid (detB_pos n)
    clear hc hrc hx40 hyl hDD hM hlen
    by_cases hcap : cap = 1
    · subst hcap
      have hn0 : n = 0 := by omega
      have HT : Hid (RMat w (.slice (some ⟨g, o, none⟩) n 0) rows) := by
        have e : rows = [] := List.length_eq_zero_iff.1 (by omega)
        rw [e, hn0]; exact rmat_zero (by unfold maxLen; omega)
      have hjn : ∀ j : Nat, ¬ j < n := fun j => by omega
      have HJN := hid hjn
      clear hn0 hjn
      have q1 : (1 : Int) ≤ (n : Int) + 1 := by omega
      have q2 : (n : Int) + 1 ≤ 1 := by omega
      have q3 : (0 : Int) < (n : Int) + 1 := by omega
      have HRW := hid hrows
      clear hrows
      go_enter Try.func66, Try.ntmps66
      go_wp2
      go_loopg [3, 4, 17] (n + 1) (fun gk sv qv iv wr => ∃ (k : Nat) (S G : Int), k ≤ n + 1 ∧ gk = n + 1 - k ∧ iv = .int .i64 k ∧ sv = .int .i64 S ∧ qv = .int .i64 G ∧ Hid (S = sumN k (detT n (r :: rows))) ∧ Hid (G = sgnN k) ∧ (-1 ≤ G ∧ G ≤ 1) ∧ Below w.heap.size w wr)
      case atStart => exact ⟨0, 0, 1, Nat.zero_le _, rfl, rfl, rfl, rfl, hid rfl, hid rfl, by omega, Below.refl _ _⟩
      case round =>
        obtain ⟨k, S, G, hk, rfl, rfl, rfl, rfl, HS, HG, hG1, hb⟩ := hrel
        obtain ⟨wo, rfl⟩ : ∃ wo : World, wo = wr := ⟨_, rfl⟩
        have HB := hid hb
        by_cases hlt : k < n + 1
        · have e1 := (hb.cell (p := ⟨g0, o0 + k, none⟩) (cell_lt (HRC.out k hlt))).trans (HRC.out k hlt)
          have hx4 := HX40.out k hlt
          obtain ⟨x, hx⟩ : ∃ x, r.getD k 0 = x := ⟨_, rfl⟩
          rw [hx] at e1 hx4
          have HXX := hid hx
          have hkz : (k : Int) < (n : Int) + 1 := by omega
          have HTB := hid (HT.out.keep hb)
          have hSB : -(((k : Nat) : Int) * (40 * detB n)) ≤ S ∧ S ≤ ((k : Nat) : Int) * (40 * detB n) := by
            rw [HS.out]
            exact sum_abs (n := n + 1) (fun j hj => term_bound HSQ.out hj) k (by omega)
          have hSB2 : -(20000000000 : Int) ≤ S ∧ S ≤ 20000000000 := by
            have b1 := HB4.out
            have b0 := HB0.out
            have h1 : ((k : Nat) : Int) * (40 * detB n) ≤ 5 * (40 * detB n) := Int.mul_le_mul_of_nonneg_right (by omega) (by omega)
            omega
          obtain ⟨MN, hMN⟩ : ∃ MN, rows.map (fun r => r.eraseIdx k) = MN := ⟨_, rfl⟩
          have HMN := hid hMN
          have hmnl : MN.length = n := by rw [← hMN, List.length_map]; exact HRW.out
          have HME := hid (mat_empty wo wo.heap.size (Nat.le_refl _))
          have HMB := hid ((Below.refl wo.heap.size wo).alloc (Nat.le_refl _) (.cells #[] 25))
          have HML := hid hmnl
          clear hb hx hSB hMN hmnl
          go_wp2
          clear e1
          go_loopg [7, 26] n (fun gk ov jv wr => ∃ (j : Nat) (u : Value), j ≤ n ∧ gk = n - j ∧ jv = .int .i64 j ∧ ov = u ∧ FMat wr wo.heap.size wr.heap.size u (MN.take j) ∧ Below wo.heap.size wo wr)
          case atStart => exact ⟨0, _, Nat.zero_le _, rfl, rfl, rfl, by have := HME.out; exact this.mono (Nat.le_refl _) (by simp), HMB.out⟩
          case round =>
            obtain ⟨j, uf, hj, rfl, rfl, rfl, hF, hbi⟩ := hrel
            obtain ⟨wi, rfl⟩ : ∃ wi : World, wi = wr := ⟨_, rfl⟩
            have HF := hid hF
            have HBI := hid hbi
            have hsz := hbi.size
            by_cases hltj : j < n
            · exact (HJN.out j hltj).elim
            · obtain rfl : n = j := by omega
              obtain ⟨ao, no, co, rfl⟩ := hF.form3
              have hFM : FMat wi wo.heap.size wi.heap.size (.slice ao no co) MN := by
                have e : MN.take n = MN := List.take_of_length_le (Nat.le_of_eq HML.out)
                rw [e] at hF; exact hF
              have HFM := hid hFM.r
              have hmin : SqM n MN := by rw [← HMN.out]; exact HSQ.out.minor hlt
              have HMIN := hid hmin
              obtain ⟨D, hD⟩ : ∃ D, detN n MN = D := ⟨_, rfl⟩
              have hDb := det_bound n MN hmin
              rw [hD] at hDb
              have hDb2 : -(61440000 : Int) ≤ D ∧ D ≤ 61440000 := by have := HB4.out; omega
              have HDD := hid hD
              obtain ⟨P, hP⟩ : ∃ P, G * x = P := ⟨_, rfl⟩
              have hPb : -(1 * 40) ≤ P ∧ P ≤ 1 * 40 := by rw [← hP]; exact mul_abs (by omega) hx4
              obtain ⟨Q, hQ⟩ : ∃ Q, P * D = Q := ⟨_, rfl⟩
              have hQb : -(40 * 61440000) ≤ Q ∧ Q ≤ 40 * 61440000 := by rw [← hQ]; exact mul_abs (by omega) hDb2
              have f1 : IntKind.i64.wrap (G * x) = P := by rw [hP]; exact IntWalk.i64_in _ (by omega)
              have f2 : IntKind.i64.wrap (P * D) = Q := by rw [hQ]; exact IntWalk.i64_in _ (by omega)
              have f3 : IntKind.i64.wrap (S + Q) = S + Q := IntWalk.i64_in _ (by omega)
              have f4 : IntKind.i64.wrap (- G) = - G := IntWalk.i64_in _ (by omega)
              have HNS : Hid (S + Q = sumN (k + 1) (detT n (r :: rows))) := by
                show _ = _
                rw [sumN, ← HS.out]
                congr 1
                unfold detT
                rw [List.headD_cons, List.tail_cons, HMN.out, HXX.out, hD, ← HG.out, hP, hQ]
              have HNG : Hid (- G = sgnN (k + 1)) := by show _ = _; rw [sgnN_succ, HG.out]
              clear hF hFM hmin hD hDb hP hQ
              go_wp2_with fail
              refine (HIH.out MN _ _ (by omega) HMIN.out HFM.out).mono ?_
              rintro e w7 ⟨rfl, hb7⟩
              rw [HDD.out]
              have HB7 := hid (HB.out.trans ((HBI.out.trans (hb7.mono hsz)).mono HB.out.size))
              clear hb7 hbi
              go_wp2
              go_roundg (n + 1 - (k + 1))
              case rel => exact ⟨k + 1, S + Q, - G, by omega, rfl, by go_num, rfl, rfl, HNS, HNG, by omega, HB7.out⟩
              case measure => omega
        · obtain rfl : k = n + 1 := by omega
          have HE : Hid (S = DD) := by show _ = _; rw [HS.out, HD.out]
          go_wp2
          go_ret
          exact ⟨by rw [← HE.out]; rfl, hb⟩
    · have HT : Hid (RMat w (.slice (some ⟨g, o + 1, none⟩) n (cap - 1)) rows) := rmat_tail H0.out
      have q1 : (1 : Int) ≤ (n : Int) + 1 := by omega
      have q2 : (n : Int) + 1 ≤ (cap : Int) := by omega
      have q3 : (0 : Int) < (n : Int) + 1 := by omega
      have HRW := hid hrows
      clear hrows
      go_enter Try.func66, Try.ntmps66
      go_wp2
      go_loopg [3, 4, 17] (n + 1) (fun gk sv qv iv wr => ∃ (k : Nat) (S G : Int), k ≤ n + 1 ∧ gk = n + 1 - k ∧ iv = .int .i64 k ∧ sv = .int .i64 S ∧ qv = .int .i64 G ∧ Hid (S = sumN k (detT n (r :: rows))) ∧ Hid (G = sgnN k) ∧ (-1 ≤ G ∧ G ≤ 1) ∧ Below w.heap.size w wr)
      case atStart => exact ⟨0, 0, 1, Nat.zero_le _, rfl, rfl, rfl, rfl, hid rfl, hid rfl, by omega, Below.refl _ _⟩
      case round =>
        obtain ⟨k, S, G, hk, rfl, rfl, rfl, rfl, HS, HG, hG1, hb⟩ := hrel
        obtain ⟨wo, rfl⟩ : ∃ wo : World, wo = wr := ⟨_, rfl⟩
        have HB := hid hb
        by_cases hlt : k < n + 1
        · have e1 := (hb.cell (p := ⟨g0, o0 + k, none⟩) (cell_lt (HRC.out k hlt))).trans (HRC.out k hlt)
          have hx4 := HX40.out k hlt
          obtain ⟨x, hx⟩ : ∃ x, r.getD k 0 = x := ⟨_, rfl⟩
          rw [hx] at e1 hx4
          have HXX := hid hx
          have hkz : (k : Int) < (n : Int) + 1 := by omega
          have HTB := hid (HT.out.keep hb)
          have hSB : -(((k : Nat) : Int) * (40 * detB n)) ≤ S ∧ S ≤ ((k : Nat) : Int) * (40 * detB n) := by
            rw [HS.out]
            exact sum_abs (n := n + 1) (fun j hj => term_bound HSQ.out hj) k (by omega)
          have hSB2 : -(20000000000 : Int) ≤ S ∧ S ≤ 20000000000 := by
            have b1 := HB4.out
            have b0 := HB0.out
            have h1 : ((k : Nat) : Int) * (40 * detB n) ≤ 5 * (40 * detB n) := Int.mul_le_mul_of_nonneg_right (by omega) (by omega)
            omega
          obtain ⟨MN, hMN⟩ : ∃ MN, rows.map (fun r => r.eraseIdx k) = MN := ⟨_, rfl⟩
          have HMN := hid hMN
          have hmnl : MN.length = n := by rw [← hMN, List.length_map]; exact HRW.out
          have HME := hid (mat_empty wo wo.heap.size (Nat.le_refl _))
          have HMB := hid ((Below.refl wo.heap.size wo).alloc (Nat.le_refl _) (.cells #[] 25))
          have HML := hid hmnl
          clear hb hx hSB hMN hmnl
          go_wp2
          clear e1
          go_loopg [7, 26] n (fun gk ov jv wr => ∃ (j : Nat) (u : Value), j ≤ n ∧ gk = n - j ∧ jv = .int .i64 j ∧ ov = u ∧ FMat wr wo.heap.size wr.heap.size u (MN.take j) ∧ Below wo.heap.size wo wr)
          case atStart => exact ⟨0, _, Nat.zero_le _, rfl, rfl, rfl, by have := HME.out; exact this.mono (Nat.le_refl _) (by simp), HMB.out⟩
          case round =>
            obtain ⟨j, uf, hj, rfl, rfl, rfl, hF, hbi⟩ := hrel
            obtain ⟨wi, rfl⟩ : ∃ wi : World, wi = wr := ⟨_, rfl⟩
            have HF := hid hF
            have HBI := hid hbi
            have hsz := hbi.size
            by_cases hltj : j < n
            · have hjz : (j : Int) < (n : Int) := by omega
              obtain ⟨_, _, he, _, _, hcc⟩ := HTB.out.keep hbi
              simp only [Value.slice.injEq] at he
              obtain ⟨rfl, -, rfl⟩ := he
              obtain ⟨g2, o2, rv2, y, he2, e2, hy, HDY, HXY⟩ := mat_at hcc (by rw [HRW.out]; exact hltj)
              simp only [Option.some.injEq, Addr.mk.injEq, and_true] at he2
              obtain ⟨rfl, rfl⟩ := he2
              have hym : y ∈ rows := by rw [← HXY.out]; simp [List.getD, show j < rows.length by rw [HRW.out]; exact hltj]
              have hyl := HYL.out y hym
              have HY := hid hy
              obtain ⟨ay, cy, rfl, hy1, hy2, hyc⟩ := hy
              rw [hyl] at hy1 e2 HY
              unfold maxLen at hy2
              obtain ⟨gy, oy, rfl, _⟩ := hyc 0 (by omega)
              have HTK := hid (rints_take HY.out (show k ≤ n + 1 by omega))
              have HNX : Hid (MN.take j ++ [y.eraseIdx k] = MN.take (j + 1)) := by
                show _ = _
                rw [take_succ_getD MN j (by rw [HML.out]; exact hltj), ← HMN.out]
                congr 2
                rw [← HXY.out]
                simp [List.getD, show j < rows.length by rw [HRW.out]; exact hltj]
              have hyk : ∀ r ∈ [y.take k, y.drop (k + 1)], r.length ≤ 1000 := fun z hz => by
                simp at hz
                rcases hz with rfl | rfl <;> simp <;> omega
              have HYK := hid hyk
              have hkl : (MN.take j).length ≤ 1099511627776 := by rw [List.length_take, HML.out]; omega
              obtain ⟨ao, no, co, rfl⟩ := hF.form3
              have f1 : IntKind.i64.wrap ((k : Int) + 1) = (k : Int) + 1 := IntWalk.i64_in _ (by omega)
              have f2 : ((k : Int) + 1).toNat = k + 1 := by omega
              have f3 : (0 : Int) ≤ (k : Int) + 1 := by omega
              have f4 : (k : Int) + 1 ≤ (n : Int) + 1 := by omega
              have f5 : (n : Int) + 1 ≤ (cy : Int) := by omega
              have f0 : (k : Int) ≤ (cy : Int) := by omega
              have f9 : k ≤ n := by omega
              clear hcc hyc hF hbi HDY HXY hym hyk hyl
              by_cases hcy : cy = k + 1
              · subst hcy
                have HDP : Hid (RInts wi (.slice (some ⟨gy, oy, none⟩) 0 0) (y.drop (k + 1))) := by
                  have e : y.drop (k + 1) = [] := by
                    obtain ⟨_, _, he, _, _, _⟩ := HY.out
                    simp only [Value.slice.injEq] at he
                    exact List.drop_eq_nil_of_le (by omega)
                  rw [e]; exact rints_none (by unfold maxLen; omega)
                have f6 : n + 1 - (k + 1) = 0 := by omega
                have f7 : (n : Int) + 1 ≤ (k : Int) + 1 := by omega
                have f8 : (k : Int) ≤ (k : Int) + 1 := by omega
                obtain ⟨hrt, hal⟩ := rmat_two HTK.out HDP.out
                have HRT : Hid (RMat (wi.alloc (.cells #[.slice (some ⟨gy, oy, none⟩) k (k + 1), .slice (some ⟨gy, oy, none⟩) 0 0] 25)).drew (.slice (some ⟨wi.heap.size, 0, none⟩) 2 2) [y.take k, y.drop (k + 1)]) := hrt
                have HAL := hid hal
                clear hrt hal
                go_wp2
                go_region_law (first
                  | (refine step_append_row rfl (.tmp 30) (.tmp 40) rfl _ _ _ _ _ _ _ _ _ (y.eraseIdx k) (by simp [Act.eval]) (by simp [Act.eval]; rfl) HQ1.out HQ2.out HQ3.out (Nat.le_refl _) hsz hkl HQ4.out ?_; intro v6 w6 hF6 hg6 hn6; obtain ⟨a6, n6, c6, rfl⟩ := hF6.form3; have hB6 := HQ5.out.grown hg6 HQ4.out (own_blocks HQ1.out); rw [HNX.out] at hF6; have HF6 := hid hF6; have HB6 := hid hB6; clear hF6 hB6 hg6 hn6)
                  | (go_simp; go_at_call 93; (with_reducible refine (concat_c _ [y.take k, y.drop (k + 1)] _ HRT.out (by simp) HYK.out).mono ?_); rintro e w5 ⟨u5, rfl, hF5, hb5⟩; rw [erase_two] at hF5; obtain ⟨a5, n5, c5, rfl⟩ := hF5.form3; obtain ⟨q1, q2, q3, q4, q5⟩ := row_one HF.out HBI.out hsz (HAL.out.trans ((below_of_drew hb5).mono HAL.out.size)) (hF5.mono (lo' := wi.heap.size) HAL.out.size (Nat.le_refl _)); have HQ1 := hid q1; have HQ2 := hid q2; have HQ3 := hid q3; have HQ4 := hid q4; have HQ5 := hid q5; clear q1 q2 q3 q4 q5 hF5 hb5))
                all_goals
                  go_wp2
                  go_roundg (n - (j + 1))
                  case rel => exact ⟨j + 1, _, by omega, rfl, by go_num, rfl, HF6.out, HB6.out⟩
                  case measure => omega
              · have HDP : Hid (RInts wi (.slice (some ⟨gy, oy + (k + 1), none⟩) (n - k) (cy - (k + 1))) (y.drop (k + 1))) := by
                  have h := rints_drop HY.out (show k + 1 ≤ n + 1 by omega)
                  rwa [show n + 1 - (k + 1) = n - k by omega] at h
                obtain ⟨hrt, hal⟩ := rmat_two HTK.out HDP.out
                have HRT : Hid (RMat (wi.alloc (.cells #[.slice (some ⟨gy, oy, none⟩) k cy, .slice (some ⟨gy, oy + (k + 1), none⟩) (n - k) (cy - (k + 1))] 25)).drew (.slice (some ⟨wi.heap.size, 0, none⟩) 2 2) [y.take k, y.drop (k + 1)]) := hrt
                have HAL := hid hal
                clear hrt hal
                go_wp2
                go_region_law (first
                  | (refine step_append_row rfl (.tmp 30) (.tmp 40) rfl _ _ _ _ _ _ _ _ _ (y.eraseIdx k) (by simp [Act.eval]) (by simp [Act.eval]; rfl) HQ1.out HQ2.out HQ3.out (Nat.le_refl _) hsz hkl HQ4.out ?_; intro v6 w6 hF6 hg6 hn6; obtain ⟨a6, n6, c6, rfl⟩ := hF6.form3; have hB6 := HQ5.out.grown hg6 HQ4.out (own_blocks HQ1.out); rw [HNX.out] at hF6; have HF6 := hid hF6; have HB6 := hid hB6; clear hF6 hB6 hg6 hn6)
                  | (go_simp; go_at_call 93; (with_reducible refine (concat_c _ [y.take k, y.drop (k + 1)] _ HRT.out (by simp) HYK.out).mono ?_); rintro e w5 ⟨u5, rfl, hF5, hb5⟩; rw [erase_two] at hF5; obtain ⟨a5, n5, c5, rfl⟩ := hF5.form3; obtain ⟨q1, q2, q3, q4, q5⟩ := row_one HF.out HBI.out hsz (HAL.out.trans ((below_of_drew hb5).mono HAL.out.size)) (hF5.mono (lo' := wi.heap.size) HAL.out.size (Nat.le_refl _)); have HQ1 := hid q1; have HQ2 := hid q2; have HQ3 := hid q3; have HQ4 := hid q4; have HQ5 := hid q5; clear q1 q2 q3 q4 q5 hF5 hb5))
                all_goals
                  go_wp2
                  go_roundg (n - (j + 1))
                  case rel => exact ⟨j + 1, _, by omega, rfl, by go_num, rfl, HF6.out, HB6.out⟩
                  case measure => omega
            · obtain rfl : n = j := by omega
              obtain ⟨ao, no, co, rfl⟩ := hF.form3
              have hFM : FMat wi wo.heap.size wi.heap.size (.slice ao no co) MN := by
                have e : MN.take n = MN := List.take_of_length_le (Nat.le_of_eq HML.out)
                rw [e] at hF; exact hF
              have HFM := hid hFM.r
              have hmin : SqM n MN := by rw [← HMN.out]; exact HSQ.out.minor hlt
              have HMIN := hid hmin
              obtain ⟨D, hD⟩ : ∃ D, detN n MN = D := ⟨_, rfl⟩
              have hDb := det_bound n MN hmin
              rw [hD] at hDb
              have hDb2 : -(61440000 : Int) ≤ D ∧ D ≤ 61440000 := by have := HB4.out; omega
              have HDD := hid hD
              obtain ⟨P, hP⟩ : ∃ P, G * x = P := ⟨_, rfl⟩
              have hPb : -(1 * 40) ≤ P ∧ P ≤ 1 * 40 := by rw [← hP]; exact mul_abs (by omega) hx4
              obtain ⟨Q, hQ⟩ : ∃ Q, P * D = Q := ⟨_, rfl⟩
              have hQb : -(40 * 61440000) ≤ Q ∧ Q ≤ 40 * 61440000 := by rw [← hQ]; exact mul_abs (by omega) hDb2
              have f1 : IntKind.i64.wrap (G * x) = P := by rw [hP]; exact IntWalk.i64_in _ (by omega)
              have f2 : IntKind.i64.wrap (P * D) = Q := by rw [hQ]; exact IntWalk.i64_in _ (by omega)
              have f3 : IntKind.i64.wrap (S + Q) = S + Q := IntWalk.i64_in _ (by omega)
              have f4 : IntKind.i64.wrap (- G) = - G := IntWalk.i64_in _ (by omega)
              have HNS : Hid (S + Q = sumN (k + 1) (detT n (r :: rows))) := by
                show _ = _
                rw [sumN, ← HS.out]
                congr 1
                unfold detT
                rw [List.headD_cons, List.tail_cons, HMN.out, HXX.out, hD, ← HG.out, hP, hQ]
              have HNG : Hid (- G = sgnN (k + 1)) := by show _ = _; rw [sgnN_succ, HG.out]
              clear hF hFM hmin hD hDb hP hQ
              go_wp2_with fail
              refine (HIH.out MN _ _ (by omega) HMIN.out HFM.out).mono ?_
              rintro e w7 ⟨rfl, hb7⟩
              rw [HDD.out]
              have HB7 := hid (HB.out.trans ((HBI.out.trans (hb7.mono hsz)).mono HB.out.size))
              clear hb7 hbi
              go_wp2
              go_roundg (n + 1 - (k + 1))
              case rel => exact ⟨k + 1, S + Q, - G, by omega, rfl, by go_num, rfl, rfl, HNS, HNG, by omega, HB7.out⟩
              case measure => omega
        · obtain rfl : k = n + 1 := by omega
          have HE : Hid (S = DD) := by show _ = _; rw [HS.out, HD.out]
          go_wp2
          go_ret
          exact ⟨by rw [← HE.out]; rfl, hb⟩

theorem omat_r {w : World} {lo : Nat} {v : Value} {Z : List (Value × List Int)} (h : OMat w lo v Z) (hr : ∀ z ∈ Z, RInts w z.1 z.2) : RMat w v (Z.map Prod.snd) := by
  obtain ⟨a, cap, hv, h1, h2, h3, h4, h5⟩ := own_form h
  refine ⟨a, cap, by rw [hv, List.length_map], by rw [List.length_map]; omega, by omega, fun i hi => ?_⟩
  rw [List.length_map] at hi
  obtain ⟨g, e, _, _, hc, _⟩ := h5 i hi
  refine ⟨g, 0, Z[i].1, e, ?_, ?_⟩
  · rw [Nat.zero_add, hc, List.getElem?_map, List.getElem?_eq_getElem hi]; rfl
  · have := hr Z[i] (List.getElem_mem hi)
    simpa [List.getD, hi] using this
/-- the rows of a graph's matrix without the first row and the first column -/
def redZ (p : Nat) (L : List Lnk) (G C : Nat → Nat) (j : Nat) : List (Value × List Int) := (List.range j).map fun i => (.slice (some ⟨G (i + 1), 1, none⟩) p (C (i + 1) - 1), (lst (p + 1) (lapV (p + 1) L (i + 1))).drop 1)
theorem redZ_len (p : Nat) (L : List Lnk) (G C : Nat → Nat) (j : Nat) : (redZ p L G C j).length = j := by simp [redZ]
theorem redZ_succ (p : Nat) (L : List Lnk) (G C : Nat → Nat) (j : Nat) : redZ p L G C j ++ [(.slice (some ⟨G (j + 1), 1, none⟩) p (C (j + 1) - 1), (lst (p + 1) (lapV (p + 1) L (j + 1))).drop 1)] = redZ p L G C (j + 1) := by simp [redZ, List.range_succ]
def redM (p : Nat) (L : List Lnk) : List (List Int) := (List.range p).map fun i => (lst (p + 1) (lapV (p + 1) L (i + 1))).drop 1
theorem redZ_snd (p : Nat) (L : List Lnk) (G C : Nat → Nat) : (redZ p L G C p).map Prod.snd = redM p L := by simp [redZ, redM]
theorem lst_drop1 (p : Nat) (f : Nat → Int) : (lst (p + 1) f).drop 1 = (others (p + 1) 0).map f := by
  have h : others (p + 1) 0 = (List.range (p + 1)).drop 1 := by
    unfold others
    rw [List.range_succ_eq_map, List.filter_cons, if_neg (by simp), List.drop_one, List.tail_cons, List.filter_map]
    rw [List.filter_eq_self.2]
    intro a _
    simp
  rw [h, lst, List.map_drop]
theorem redM_sq {p : Nat} {L : List Lnk} (h : GoodL (p + 1) L) : SqM p (redM p L) where
  len := by simp [redM]
  rows := fun r hr => by
    obtain ⟨i, _, rfl⟩ := List.mem_map.1 hr
    simp [lst_len]
  ents := fun r hr x hx => by
    obtain ⟨i, hi, rfl⟩ := List.mem_map.1 hr
    obtain ⟨u, _, rfl⟩ := mem_lst.1 (List.mem_of_mem_drop hx)
    exact lapV_bound h (by have := List.mem_range.1 hi; omega)
theorem redM_det {p : Nat} {L : List Lnk} (h : PG (p + 1) L 0) : detN p (redM p L) = trees (p + 1) (fun v => (v : Int)) L := by
  rw [← det_trees h]
  have hl := others_len (n := p + 1) (q := 0) (by omega)
  unfold detF
  rw [show (others (p + 1) 0).length = p by omega]
  congr 1
  have e : redM p L = (others (p + 1) 0).map fun v => (others (p + 1) 0).map (lapV (p + 1) L v) := by
    have h1 : (List.range p).map (fun i => i + 1) = others (p + 1) 0 := by
      unfold others
      rw [List.range_succ_eq_map, List.filter_cons, if_neg (by simp), List.filter_map, List.filter_eq_self.2]
      intro a _; simp
    rw [← h1, List.map_map, h1]
    unfold redM
    exact List.map_congr_left fun i _ => lst_drop1 p _
  rw [e]
  unfold lapD
  refine List.map_congr_left fun v _ => List.map_congr_left fun u _ => ?_
  unfold lapV
  by_cases c : u = v
  · rw [if_pos c, if_pos c]
    have h2 := Gr.val_others (G := grL (p + 1) L h.good) h.hq v
    have e1 : sumN (p + 1) (mulL L v) = mulL L v 0 + sL (others (p + 1) 0) (mulL L v) := h2
    rw [e1]; exact Int.add_comm _ _
  · rw [if_neg c, if_neg c]

set_option maxRecDepth 100000 in
set_option maxHeartbeats 8000000 in
theorem iTreesOf_u (n : Int) (v : Value) (L : List Lnk) (w : World) (h : RLinks w v L) :
    Calls Try.prog 30 #[.int .i64 n, v] w (RetZC w (treB n L)) := by
  have HR := hid h
  obtain ⟨a, cap, rfl⟩ := h.form
  clear h
  rcases Bool.eq_false_or_eq_true (piGB n L 0) with t1 | t1
  · obtain ⟨m, k, hn, hq, hm, hk, hP⟩ := piGB_nat t1
    have hy : treB n L = (trees m (fun v => (v : Int)) L, true) := by unfold treB; rw [t1, hm]; rfl
    subst hn
    obtain rfl : k = 0 := by omega
    have hm1 := hP.n1
    have hm5 := hP.n5
    obtain ⟨p, rfl⟩ : ∃ p, m = p + 1 := ⟨m - 1, by omega⟩
    have HY := hid hy
    have HP := hid hP
    have HT := hid (show piGB ((p + 1 : Nat) : Int) L ((0 : Nat) : Int) = true from t1)
    have HDT := hid (redM_det hP)
    have HSQ := hid (redM_sq hP.good)
    have HNN : Hid (((p : Int) + 1) = ((p + 1 : Nat) : Int)) := by show _ = _; omega
    clear hm hk hy hq t1 hP
    go_enter Try.func30, Try.ntmps30
    go_wp2_with fail
    (try rw [HNN.out])
    refine (tableOf_yes (p + 1) 0 _ L _ HR.out HT.out).mono ?_
    rintro e w1 ⟨g, rfl, hg, hb1, -⟩
    obtain ⟨wt, hwt⟩ : ∃ wt : World, wt = w1.alloc (.cells #[.pointer (some ⟨g, 0, none⟩), .int .i64 0] 54) := ⟨_, rfl⟩
    obtain ⟨k0, _, hal⟩ := tnew w1 (some ⟨g, 0, none⟩) 0
    have HSZ := hid (show wt.heap.size = w1.heap.size + 1 by rw [hwt]; simp)
    rw [← hwt] at k0 hal
    have HWT := hid hwt
    have HB1 := hid (hb1.trans (hal.mono hb1.size))
    obtain ⟨wm, hwm⟩ : ∃ wm : World, wm = wt.alloc (.cells #[] 25) := ⟨_, rfl⟩
    have halm : Below wt.heap.size wt wm := by rw [hwm]; exact (Below.refl _ _).alloc (Nat.le_refl _) _
    have HWM := hid hwm
    have HG := hid ((hg.keep hal).keep halm)
    have HO0 := hid (show OMat wm wt.heap.size (.slice (some ⟨wt.heap.size, 0, none⟩) 0 0) [] by rw [hwm]; exact omat_empty wt _ (Nat.le_refl _))
    have HALM := hid halm
    have HSZM := hid (show wm.heap.size = wt.heap.size + 1 by rw [hwm]; simp)
    have k1 := (halm.cell (p := ⟨w1.heap.size, 0, none⟩) (cell_lt k0)).trans k0
    clear hg hb1 hal halm hwt hwm k0
    go_wp2_with fail
    rw [← HWT.out, ← HWM.out]
    refine (laplacian_c (p + 1) _ L _ HG.out HP.out.good).mono ?_
    rintro e w2 ⟨uL, rfl, hFL, hb2⟩
    obtain ⟨gL, cL, rfl, hlo, hhi⟩ := hFL.form_some (by rw [mat_len]; omega)
    rw [mat_len] at hFL ⊢
    have hcL : p + 1 ≤ cL := by
      obtain ⟨_, _, he, h1, _⟩ := hFL.r
      simp only [Value.slice.injEq] at he
      rw [mat_len] at h1
      omega
    obtain ⟨G, C, hcells, _, _⟩ := fm_open hFL (mat_len _ _) (mat_sq _ _) (by omega)
    have hrow : ∀ i, i < p + 1 → w2.cell? ⟨gL, i, none⟩ = some (.slice (some ⟨G i, 0, none⟩) (p + 1) (C i)) ∧ FInts w2 wm.heap.size w2.heap.size (.slice (some ⟨G i, 0, none⟩) (p + 1) (C i)) (lst (p + 1) (lapV (p + 1) L i)) := fun i hi => by
      obtain ⟨g', r, y, he, _, _, hc, _, hr, HX, _⟩ := hFL.at (i := i) (by rw [mat_len]; exact hi)
      simp only [Option.some.injEq, Addr.mk.injEq, and_true] at he
      subst he
      rw [hcells i hi] at hc
      obtain rfl := Option.some.inj hc
      have hx := HX.out
      rw [mat_row _ hi] at hx
      rw [hx]
      exact ⟨hcells i hi, hr⟩
    have HROW := hid hrow
    have HB2 := hid (HALM.out.trans (hb2.mono HALM.out.size))
    have HO2 := hid (HO0.out.keep hb2)
    have HW2 := hid hb2.size
    have HCL := hid hcL
    clear hFL hcells hrow hb2 k1 hcL
    by_cases hcap : cL = 1
    · subst hcap
      have hp0 : p = 0 := by have := HCL.out; omega
      have hjn : ∀ j : Nat, ¬ j < p := fun j => by omega
      have HJN := hid hjn
      clear hp0 hjn
      have q1 : (1 : Int) ≤ (p : Int) + 1 := by omega
      have q2 : (p : Int) + 1 ≤ 1 := by have := HCL.out; omega
      go_wp2
      go_loopg [8, 25] p (fun gk ov jv wr => ∃ (j : Nat) (u : Value), j ≤ p ∧ gk = p - j ∧ jv = .int .i64 j ∧ ov = u ∧ OMat wr wt.heap.size u (redZ p L G C j) ∧ (∀ b, u.ownBlock = some b → b ≠ gL) ∧ (∀ i, i < p + 1 → wr.cell? ⟨gL, i, none⟩ = some (.slice (some ⟨G i, 0, none⟩) (p + 1) (C i)) ∧ FInts wr wm.heap.size w2.heap.size (.slice (some ⟨G i, 0, none⟩) (p + 1) (C i)) (lst (p + 1) (lapV (p + 1) L i))) ∧ Below wt.heap.size wt wr ∧ w2.heap.size ≤ wr.heap.size)
      case atStart => exact ⟨0, _, Nat.zero_le _, rfl, rfl, rfl, by have := HO2.out; rw [HSZ.out] at this ⊢; exact this, fun b hb => by simp [Value.ownBlock] at hb; have := HSZM.out; have := HSZ.out; omega, HROW.out, HB2.out, Nat.le_refl _⟩
      case round =>
        obtain ⟨j, uf, hj, rfl, rfl, rfl, hO, hne, hrow, hbr, hsz⟩ := hrel
        obtain ⟨wo, rfl⟩ : ∃ wo : World, wo = wr := ⟨_, rfl⟩
        obtain ⟨ao, no, co, rfl, -⟩ := hO.form3
        have HO := hid hO
        have HNE := hid hne
        have HRW := hid hrow
        have HBR := hid hbr
        by_cases hlt : j < p
        · exact (HJN.out j hlt).elim
        · obtain rfl : p = j := by omega
          have hrm : RMat wo (.slice ao no co) (redM p L) := by
            rw [← redZ_snd p L G C]
            refine omat_r hO fun z hz => ?_
            obtain ⟨i, hi, rfl⟩ := List.mem_map.1 hz
            exact rints_drop (hrow (i + 1) (by have := List.mem_range.1 hi; omega)).2.r (show 1 ≤ p + 1 by omega)
          have HRM := hid hrm
          clear hO hne hrow hbr hrm
          go_wp2_with fail
          refine (determinant_c p (redM p L) _ _ (by omega) HSQ.out HRM.out).mono ?_
          rintro e w7 ⟨rfl, hb7⟩
          rw [HDT.out]
          have HB7 := hid (HB1.out.trans ((HBR.out.trans (hb7.mono HBR.out.size)).mono HB1.out.size))
          clear hb7
          go_wp2
          go_ret2
          exact ⟨by rw [HY.out]; rfl, HB7.out⟩
    · have q1 : (1 : Int) ≤ (p : Int) + 1 := by omega
      have q2 : (p : Int) + 1 ≤ (cL : Int) := by have := HCL.out; omega
      go_wp2
      go_loopg [8, 25] p (fun gk ov jv wr => ∃ (j : Nat) (u : Value), j ≤ p ∧ gk = p - j ∧ jv = .int .i64 j ∧ ov = u ∧ OMat wr wt.heap.size u (redZ p L G C j) ∧ (∀ b, u.ownBlock = some b → b ≠ gL) ∧ (∀ i, i < p + 1 → wr.cell? ⟨gL, i, none⟩ = some (.slice (some ⟨G i, 0, none⟩) (p + 1) (C i)) ∧ FInts wr wm.heap.size w2.heap.size (.slice (some ⟨G i, 0, none⟩) (p + 1) (C i)) (lst (p + 1) (lapV (p + 1) L i))) ∧ Below wt.heap.size wt wr ∧ w2.heap.size ≤ wr.heap.size)
      case atStart => exact ⟨0, _, Nat.zero_le _, rfl, rfl, rfl, by have := HO2.out; rw [HSZ.out] at this ⊢; exact this, fun b hb => by simp [Value.ownBlock] at hb; have := HSZM.out; have := HSZ.out; omega, HROW.out, HB2.out, Nat.le_refl _⟩
      case round =>
        obtain ⟨j, uf, hj, rfl, rfl, rfl, hO, hne, hrow, hbr, hsz⟩ := hrel
        obtain ⟨wo, rfl⟩ : ∃ wo : World, wo = wr := ⟨_, rfl⟩
        obtain ⟨ao, no, co, rfl, -⟩ := hO.form3
        have HO := hid hO
        have HNE := hid hne
        have HRW := hid hrow
        have HBR := hid hbr
        by_cases hlt : j < p
        · obtain ⟨e1, hr1⟩ := hrow (j + 1) (by omega)
          rw [show j + 1 = 1 + j from Nat.add_comm _ _] at e1
          have hcr : p + 1 ≤ C (1 + j) := by
            obtain ⟨_, _, he, h1, _⟩ := hr1.r
            simp only [Value.slice.injEq] at he
            rw [lst_len] at h1
            rw [Nat.add_comm 1 j]
            omega
          have hzs := redZ_succ p L G C j
          have hzl : (redZ p L G C j).length + 1 ≤ 1099511627776 := by rw [redZ_len]; omega
          rw [show G (j + 1) = G (1 + j) by rw [Nat.add_comm], show C (j + 1) = C (1 + j) by rw [Nat.add_comm]] at hzs
          obtain ⟨gr, hgr⟩ : ∃ gr, G (1 + j) = gr := ⟨_, rfl⟩
          obtain ⟨cr, hcr2⟩ : ∃ cr, C (1 + j) = cr := ⟨_, rfl⟩
          rw [hgr, hcr2] at e1 hzs
          rw [hcr2] at hcr
          obtain ⟨X, hX⟩ : ∃ X, (lst (p + 1) (lapV (p + 1) L (j + 1))).drop 1 = X := ⟨_, rfl⟩
          rw [hX] at hzs
          have HZS := hid hzs
          have HZL := hid hzl
          have hal : Below wo.heap.size wo (wo.alloc (.cells #[.slice (some ⟨gr, 1, none⟩) p (cr - 1)] 25)) := (Below.refl _ _).alloc (Nat.le_refl _) _
          have HAL := hid hal
          have HOA := hid (HO.out.keep hal)
          have hjz : (j : Int) < (p : Int) := by omega
          have q3 : (p : Int) + 1 ≤ (cr : Int) := by omega
          have q4 : ¬ cr = 1 := by omega
          have hlo' : wt.heap.size ≤ (wo.alloc (.cells #[.slice (some ⟨gr, 1, none⟩) p (cr - 1)] 25)).heap.size := Nat.le_trans HBR.out.size hal.size
          clear hO hne hrow hbr hr1 hcr hzs hzl hgr hcr2 hX hal
          go_wp2_with (at_builtin; (refine wpList_append_vals rfl _ _ rfl wt.heap.size (.slice ao no co) (redZ p L G C j) [(.slice (some ⟨gr, 1, none⟩) p (cr - 1), X)] (some ⟨wo.heap.size, 0, none⟩) 1 rfl rfl HOA.out (fun h => by cases h) (fun a j z he hz => row_cell1 _ a j z _ he hz) (by simp [Value.oneCell']) HZL.out hlo' ?_; intro v6 w6 hO6 hg6 hat6))
          rw [HZS.out] at hO6
          have hb6 := (HBR.out.alloc HBR.out.size (.cells #[.slice (some ⟨gr, 1, none⟩) p (cr - 1)] 25)).grown hg6 hlo' (fun k hk => (HOA.out.lt k hk).1)
          have hs6 := hg6.size
          have has := HAL.out.size
          have hrow6 : ∀ i, i < p + 1 → w6.cell? ⟨gL, i, none⟩ = some (.slice (some ⟨G i, 0, none⟩) (p + 1) (C i)) ∧ FInts w6 wm.heap.size w2.heap.size (.slice (some ⟨G i, 0, none⟩) (p + 1) (C i)) (lst (p + 1) (lapV (p + 1) L i)) := fun i hi => by
            obtain ⟨x1, x2⟩ := HRW.out i hi
            refine ⟨?_, fints_grown (x2.keep HAL.out) HOA.out hg6⟩
            rw [World.cell?_of_block (a := ⟨gL, i, none⟩) (hg6.block gL (Nat.lt_of_lt_of_le (cell_lt x1) has) (fun e => HNE.out gL e.symm rfl)), HAL.out.cell (p := ⟨gL, i, none⟩) (cell_lt x1)]
            exact x1
          have hne6 : ∀ b, v6.ownBlock = some b → b ≠ gL := fun b hb => by
            rcases hat6 with e | e
            · rw [e] at hb; exact HNE.out b hb
            · rw [e] at hb
              simp only [Option.some.injEq] at hb
              omega
          go_roundg (p - (j + 1))
          case rel => exact ⟨j + 1, _, by omega, rfl, by go_num, rfl, hO6, hne6, hrow6, hb6, by omega⟩
          case measure => omega
        · obtain rfl : p = j := by omega
          have hrm : RMat wo (.slice ao no co) (redM p L) := by
            rw [← redZ_snd p L G C]
            refine omat_r hO fun z hz => ?_
            obtain ⟨i, hi, rfl⟩ := List.mem_map.1 hz
            exact rints_drop (hrow (i + 1) (by have := List.mem_range.1 hi; omega)).2.r (show 1 ≤ p + 1 by omega)
          have HRM := hid hrm
          clear hO hne hrow hbr hrm
          go_wp2_with fail
          refine (determinant_c p (redM p L) _ _ (by omega) HSQ.out HRM.out).mono ?_
          rintro e w7 ⟨rfl, hb7⟩
          rw [HDT.out]
          have HB7 := hid (HB1.out.trans ((HBR.out.trans (hb7.mono HBR.out.size)).mono HB1.out.size))
          clear hb7
          go_wp2
          go_ret2
          exact ⟨by rw [HY.out]; rfl, HB7.out⟩
  · have hy : treB n L = (0, false) := by unfold treB; rw [t1]; rfl
    have HE := hid hy
    clear hy
    go_enter Try.func30, Try.ntmps30
    go_wp2_with fail
    refine (tableOf_no n 0 _ L _ HR.out t1).mono ?_
    rintro e w1 ⟨ap, x, rfl, hb1⟩
    have HB := hid (hb1.alloc hb1.size (.cells #[.pointer ap, .int .i64 x] 54))
    clear hb1
    go_wp2
    go_ret2
    exact ⟨by rw [HE.out]; rfl, HB.out⟩

end Go.Proofs.Ytifdhapaonideaa

/- The laws' own equality of lists of lists. -/
namespace Go.Proofs.Ytifdhapaonideaa
open Go.RowKit
open Go.Lib (hid)

set_option maxHeartbeats 400000 in
theorem sameLists_c (v u : Value) (l m : List (List Int)) (w : World) (h : RMat w v l) (h' : RMat w u m) :
    Calls Try.prog 29 #[v, u] w fun e w' => e = .returned (.bool (decide (l = m))) ∧ ∃ n, w' = w.drewN n := by
  obtain ⟨a, cap, rfl, h1, h2, hc⟩ := h
  obtain ⟨a', cap', rfl, h1', h2', hc'⟩ := h'
  unfold maxLen at h2 h2'
  by_cases hlen : l.length = m.length
  · have HL := hid hlen
    go_enter Try.func29, Try.ntmps29
    go_wp2
    go_loopw [13] (fun i wr => ∃ k n : Nat, k ≤ l.length ∧ wr = w.drewN n ∧ i = .int .i64 k ∧ eqM l m = eqM (l.drop k) (m.drop k)) (fun i _ => l.length - (intOf i).toNat)
    case atStart => exact ⟨0, 0, Nat.zero_le _, rfl, rfl, rfl⟩
    case round =>
      obtain ⟨k, n, hk, hq, rfl, hr⟩ := hrel
      have HR := hid hr; clear hr
      have HQ := hid hq; clear hq
      by_cases hlt : k < l.length
      · obtain ⟨g, o, r, x, rfl, hk1, hx, HD, HX⟩ := mat_at hc hlt
        obtain ⟨g', o', r', y, rfl, hk2, hy, HD', HY⟩ := mat_at hc' (show k < m.length by omega)
        have c1 := cell_q HQ.out hk1
        have c2 := cell_q HQ.out hk2
        have hx' : RInts wr r x := by rw [HQ.out]; exact hx
        have hy' : RInts wr r' y := by rw [HQ.out]; exact hy
        clear hc hc' hk1 hk2 hx hy
        rcases Bool.eq_false_or_eq_true (decide (x = y)) with ht | ht
        all_goals
          go_wp2
          go_quiet ((go_at_call 9; exact Calls.quiet_of (sameInts_c _ _ x y _ hx'.drewN hy'.drewN)))
          go_wp2
        · go_roundw
          case rel => exact ⟨k + 1, _, by omega, drew_q HQ.out _, by go_num, by rw [HR.out, HD.out, HD'.out, eqM_cons, ht, Bool.true_and]⟩
          case measure => simp [intOf]; omega
        · go_ret
          exact ⟨ret_bool (by rw [← eqM_same l m HL.out, HR.out, HD.out, HD'.out, eqM_cons, ht, Bool.false_and]), _, drew_q HQ.out _⟩
      · clear hc hc'
        go_wp2
        go_ret
        exact ⟨ret_bool (by rw [← eqM_same l m HL.out, HR.out, List.drop_eq_nil_of_le (by omega), eqM_nil]), _, HQ.out⟩
  · have hne : l ≠ m := fun e => hlen (by rw [e])
    have HN := hid hne
    clear hne hc hc'
    go_enter Try.func29, Try.ntmps29
    go_wp2
    go_ret
    exact ⟨ret_bool (by simp [HN.out]), 0, rfl⟩
theorem sameLists_b (v u : Value) (l m : List (List Int)) (w : World) (h : RMat w v l) (h' : RMat w u m) :
    Calls Try.prog 29 #[v, u] w fun e w' => e = .returned (.bool (decide (l = m))) ∧ Below w.heap.size w w' :=
  (sameLists_c v u l m w h h').mono fun e w' ⟨h1, n, h2⟩ => ⟨h1, by rw [h2]; exact below_drewN (Below.refl _ _) n⟩
/-- lists that are known to be the same -/
theorem sameLists_y (v u : Value) (l : List (List Int)) (w : World) (h : RMat w v l) (h' : RMat w u l) :
    Calls Try.prog 29 #[v, u] w fun e w' => e = .returned (.bool true) ∧ Below w.heap.size w w' :=
  (sameLists_b v u l l w h h').mono fun e w' ⟨h1, h2⟩ => ⟨by rw [h1]; simp, h2⟩
end Go.Proofs.Ytifdhapaonideaa

/- The law of the counts of piles: facts, and the laws' pHas. -/
namespace Go.Proofs.Ytifdhapaonideaa
open Go.RowKit
open Go.Lib (hid)

theorem RetMatU.lp {w : World} {p : List (List Int) × Bool} {e : Ending} {w' : World} (h : RetMatU w p e w') {X : List (List Int)} {b : Bool} (hp : p = (X, b)) : ∃ a n c, e = .returned (.tuple #[.slice a n c, .bool b]) ∧ RMat w' (.slice a n c) X ∧ Below w.heap.size w w' := by
  subst hp
  obtain ⟨v, rfl, hF, hb⟩ := h
  obtain ⟨a, n, c, rfl⟩ := hF.form3
  exact ⟨a, n, c, rfl, hF.r, hb⟩
set_option maxHeartbeats 1000000 in
theorem pHas_y (v u : Value) (M : List (List Int)) (x : List Int) (w : World) (h : RMat w v M) (hx : RInts w u x) (hm : x ∈ M) :
    Calls Try.prog 31 #[v, u] w fun e w' => e = .returned (.bool true) ∧ Below w.heap.size w w' := by
  have HX := hid hx
  have HMM := hid h
  obtain ⟨a, cap, rfl, h1, h2, -⟩ := id h
  obtain ⟨au, cu, rfl, -, -, -⟩ := id hx
  unfold maxLen at h2
  have HM := hid hm
  clear h hx hm
  go_enter Try.func31, Try.ntmps31
  go_wp2
  go_loopg [9] (M.length + 1) (fun gk iv wr => ∃ k : Nat, k ≤ M.length ∧ gk = M.length + 1 - k ∧ iv = .int .i64 k ∧ x ∈ M.drop k ∧ Below w.heap.size w wr)
  case atStart => exact ⟨0, Nat.zero_le _, rfl, rfl, HM.out, Below.refl _ _⟩
  case round =>
    obtain ⟨k, hk, rfl, rfl, hmk, hb⟩ := hrel
    obtain ⟨wo, rfl⟩ : ∃ wo : World, wo = wr := ⟨_, rfl⟩
    have HB := hid hb
    by_cases hlt : k < M.length
    · obtain ⟨_, _, he, _, _, hcc⟩ := HMM.out.keep hb
      simp only [Value.slice.injEq, true_and] at he
      obtain ⟨rfl, rfl⟩ := he
      obtain ⟨g, o, r, y, rfl, e1, hy, HD, _⟩ := mat_at hcc hlt
      have HY := hid hy
      obtain ⟨ay, cy, rfl, -, -, -⟩ := id hy
      have hkz : (k : Int) < (M.length : Int) := by omega
      have HMK := hid hmk
      clear hcc hy hmk hb
      cases t : decide (x = y)
      · have HN : Hid (x ∈ M.drop (k + 1)) := by
          have h := HMK.out
          rw [HD.out] at h
          exact (List.mem_cons.1 h).resolve_left (of_decide_eq_false t)
        go_wp2_with fail
        refine (sameInts_b _ _ x y _ (HX.out.keep HB.out) HY.out).mono ?_
        rintro e w2 ⟨rfl, hb2⟩
        rw [t]
        have HB2 := hid (HB.out.trans (hb2.mono HB.out.size))
        clear hb2
        go_wp2
        go_roundg (M.length + 1 - (k + 1))
        case rel => exact ⟨k + 1, by omega, rfl, by go_num, HN.out, HB2.out⟩
        case measure => omega
      · go_wp2_with fail
        refine (sameInts_b _ _ x y _ (HX.out.keep HB.out) HY.out).mono ?_
        rintro e w2 ⟨rfl, hb2⟩
        rw [t]
        have HB2 := hid (HB.out.trans (hb2.mono HB.out.size))
        clear hb2
        go_wp2
        go_ret
        exact ⟨rfl, HB2.out⟩
    · exfalso
      rw [List.drop_eq_nil_of_le (by omega)] at hmk
      simp at hmk

theorem count_no {n q : Int} {L : List Lnk} (h : piGB n L q = false) : repB n L q = ([], false) ∧ grsB n L q = ([], false) ∧ idpB n L q = ([], false) := ⟨repB_no h, by unfold grsB; rw [h]; rfl, idpB_no h⟩
/-- as many recurrent piles as trees; the greatest stable pile and the identity are among them -/
theorem count_yes {m k : Nat} {L : List Lnk} (h : piGB (m : Int) L (k : Int) = true) :
    ∃ (R : List (List Int)) (g e : List Int), repB (m : Int) L (k : Int) = (R, true) ∧ grsB (m : Int) L (k : Int) = (g, true) ∧ idpB (m : Int) L (k : Int) = (e, true) ∧ treB (m : Int) L = ((R.length : Int), true) ∧ g ∈ R ∧ e ∈ R ∧ R.length ≤ 52521875 ∧
      ∀ d ∈ R, isrB (m : Int) L (k : Int) d = (true, true) ∧ ispB (m : Int) L (k : Int) d = (true, true) := by
  obtain ⟨m', k', hm, hk, _, _, hP⟩ := piGB_nat h
  obtain rfl : m = m' := by omega
  obtain rfl : k = k' := by omega
  obtain ⟨W, _⟩ := Gr.wt8 (G := grL m L hP.good) hP.hq hP.con
  have hr := repB_yes h
  have hi := idpB_yes h
  simp only [Int.toNat_natCast] at hr hi
  rw [idL_eq hP.good] at hi
  have h0 : piGB (m : Int) L ((0 : Nat) : Int) = true := by
    have hz := hP.zero
    unfold piGB at h ⊢
    simp only [Bool.and_eq_true] at h ⊢
    refine ⟨h.1, h.2.1, inB_iff.2 (by have := hP.n1; omega), h.2.2.2⟩
  refine ⟨_, lst m (grtV m L k), _, hr, ?_, hi, ?_, ?_, id_mem hP, recL_len hP, fun d hd => ?_⟩
  · unfold grsB; rw [h]; rfl
  · unfold treB
    have h0' : piGB (m : Int) L 0 = true := h0
    rw [h0', rec_trees hP]; rfl
  · exact rec_mem hP (Gr.grt_rec (G := grL m L hP.good) hP.hq W hP.con) (by unfold grtV; rw [if_pos rfl])
  · obtain ⟨d1, d2, d3⟩ := recL_mem hP hd
    obtain ⟨z, _⟩ := recL_pil hP hd
    have hz : PilZ m k 50 (fun i => d.getD i 0) := ⟨fun v h1 h2 => by
      have a := d2.pos v h1 h2
      have b := d2.stab v h1 h2
      have c := (grL m L hP.good).val_le v h1
      dsimp only at a b ⊢
      omega, d3⟩
    have hA := piAB_mk h d1 hz
    have hS : piSB (m : Int) L (k : Int) d = true := by
      unfold piSB
      rw [hA, Bool.true_and]
      simp only [Int.toNat_natCast]
      exact (stB_iff hP.good).2 d2.stab
    constructor
    · rw [isrB_yes hS]
      simp only [Int.toNat_natCast]
      rw [(recB_iff hP.good).2 d2]
    · unfold ispB
      rw [h, piPB_of hA]; rfl
theorem tre_pos {n : Int} {L : List Lnk} {t : Int} (h : treB n L = (t, true)) : 1 ≤ t := by
  unfold treB at h
  cases hg : piGB n L 0 with
  | false => rw [hg] at h; simp at h
  | true =>
    rw [hg, if_pos rfl] at h
    obtain ⟨m, k, hm, hk, h1, h2, hP⟩ := piGB_nat hg
    have := trees_pos hP
    rw [h1] at h
    have e := congrArg Prod.fst h
    dsimp only at e
    omega
end Go.Proofs.Ytifdhapaonideaa

/- From a law's row to its walk: arguments opened as lists of ints and lists of lists of ints. -/
namespace Go.Proofs.Ytifdhapaonideaa
open Go.ChangeShapes Go.WideShapes Go.ChangeAt Go.RowKit Go.Deep
open Go.ChangeMaps (open_string shut_string)

theorem Try.own' : ownKnob Try.prog.godebug = none := by kernel_rfl
theorem Try.laidOut' : laidOutB Try.prog = true := by kernel_rfl
theorem Try.cellsInt : Try.prog.cellsOf 3 = 1 := by kernel_rfl
theorem Try.cellsInts : Try.prog.cellsOf 25 = 1 := by kernel_rfl

/-- fits Go's int -/
def I64 (x : Int) : Prop := -9223372036854775808 ≤ x ∧ x ≤ 9223372036854775807
theorem I64_of {x : Int} (h : (Lit.int .i64 x).wf = true) : I64 x := by
  simp [Lit.wf, IntKind.min, IntKind.max, IntKind.signed, IntKind.bits] at h
  exact ⟨by omega, by omega⟩

theorem rints_row {W : World} {a : Option Addr} {len cap : Nat} {zs : List Int} (hl : len ≤ cap) (hm : cap ≤ maxLen) (hz : zs.length = cap)
    (hc : ∀ a', a = some a' → ∀ c, c < cap → W.cell? (a'.add c) = some (.int .i64 (zs.getD c 0))) (hn : a = none → cap = 0) : RInts W (.slice a len cap) (zs.take len) := by
  have hlen : (zs.take len).length = len := by rw [List.length_take]; omega
  refine ⟨a, cap, by rw [hlen], by rw [hlen]; exact hl, hm, fun i hi => ?_⟩
  rw [hlen] at hi
  cases a with
  | none => have := hn rfl; omega
  | some ad =>
    obtain ⟨b, off, rfl, hcell⟩ := _root_.Go.ints_at (zs := zs) (a := ad) (w := W) (k := .i64) (fun j hj => hc ad rfl j (by omega)) (by omega)
    refine ⟨b, off, rfl, ?_⟩
    rw [hcell i (by omega)]
    simp [List.getD, hi]

section
variable {H : Type} {enc : TypeId × Value → H} {W : World} {base : Nat}

set_option maxRecDepth 100000 in
theorem open_rints {v : Value} {d : DataW H} {p : List MemPlace} (hv : Value.okWide Try.prog W .any base 25 v) (h : DataW.Trod enc Try.prog W 0 (fun _ => true) true 25 v d p) :
    ∃ xs, RInts W v xs ∧ ∀ x ∈ xs, I64 x := by
  obtain ⟨a, len, cap, rfl⟩ := okWide_slice Try.underlying25 hv
  obtain ⟨fuel, hf⟩ := h
  rcases open_ints Try.underlying25 Try.underlying3 Try.cellsInt hf with ⟨hcs, _⟩ | ⟨x, l, c, zs, hcs, _, hl, hm, hz, _, hcell, hwz⟩
  · simp [Value.cells] at hcs
    obtain ⟨rfl, rfl, rfl⟩ := hcs
    exact ⟨[], ⟨none, 0, rfl, Nat.le_refl _, by unfold maxLen; omega, fun i hi => by simp at hi⟩, by simp⟩
  · simp [Value.cells] at hcs
    obtain ⟨rfl, rfl, rfl⟩ := hcs
    simp only [if_true] at hz
    exact ⟨zs.take len, rints_row hl hm hz (fun a' ha c hc => by cases ha; exact hcell c (by omega)) (fun e => by cases e), fun x hx => I64_of (hwz x (List.mem_of_mem_take hx))⟩

set_option maxRecDepth 100000 in
theorem open_rmat {v : Value} {d : DataW H} {p : List MemPlace} (hv : Value.okWide Try.prog W .any base 44 v) (h : DataW.Trod enc Try.prog W 0 (fun _ => true) true 44 v d p) :
    ∃ M, RMat W v M ∧ ∀ r ∈ M, ∀ x ∈ r, I64 x := by
  obtain ⟨a, len, cap, rfl⟩ := okWide_slice Try.underlying44 hv
  obtain ⟨fuel, hf⟩ := h
  rcases open_int_rows Try.underlying44 Try.underlying25 Try.underlying3 Try.cellsInts Try.cellsInt hf with ⟨hcs, _⟩ | ⟨ad, l, c, A, L, C, Z, hcs, _, hl, hm, _, hr⟩
  · simp [Value.cells] at hcs
    obtain ⟨rfl, rfl, rfl⟩ := hcs
    exact ⟨[], ⟨none, 0, rfl, Nat.le_refl _, by unfold maxLen; omega, fun i hi => by simp at hi⟩, by simp⟩
  · simp [Value.cells] at hcs
    obtain ⟨rfl, rfl, rfl⟩ := hcs
    refine ⟨(List.range len).map fun r => (Z r).take (L r), ⟨some ad, cap, by simp, by simpa using hl, hm, fun i hi => ?_⟩, fun r hr' x hx => ?_⟩
    · simp only [List.length_map, List.length_range] at hi
      obtain ⟨hc, h1, h2, h3, h4, h5, h6⟩ := hr i (by omega)
      obtain ⟨b, off, spot⟩ := ad
      have hspot : spot = none := by
        have h0 := (hr 0 (by omega)).1
        simpa [Addr.add] using World.cell?_spot h0
      subst hspot
      have e : ((⟨b, off, none⟩ : Addr).add i) = ⟨b, off + i, none⟩ := by unfold Addr.add; split <;> simp_all
      rw [e] at hc
      refine ⟨b, off, _, rfl, hc, ?_⟩
      have hg : ((List.range len).map fun r => (Z r).take (L r)).getD i [] = (Z i).take (L i) := by simp [List.getD, hi]
      rw [hg]
      exact rints_row h1 h2 h3 (fun a' ha c hcc => (h6 a' ha).2 c hcc) h5
    · obtain ⟨i, hi, rfl⟩ := List.mem_map.1 hr'
      exact I64_of ((hr i (by have := List.mem_range.1 hi; omega)).2.2.2.2.1 x (List.mem_of_mem_take hx))

theorem trod_blocks {t : TypeId} {v : Value} {d : DataW H} {p : List MemPlace} (h : DataW.Trod enc Try.prog W 0 (fun _ => true) true t v d p) : ∀ x ∈ p, x.block < W.heap.size := by
  obtain ⟨m, hm⟩ := h
  exact DataW.trod_lt m _ _ _ hm
end

end Go.Proofs.Ytifdhapaonideaa

/- From a law's row to its walk: a slice of bytes opened. -/
namespace Go.Proofs.Ytifdhapaonideaa
open Go.ChangeShapes Go.WideShapes Go.ChangeAt Go.RowKit Go.Deep
open Go.ChangeMaps (open_string shut_string)

theorem Try.cellsByte : Try.prog.cellsOf 5 = 1 := by kernel_rfl

section
variable {H : Type} {enc : TypeId × Value → H} {W : World} {base : Nat}

set_option maxRecDepth 100000 in
theorem open_rbytes {v : Value} {d : DataW H} {p : List MemPlace} (hv : Value.okWide Try.prog W .any base 22 v) (h : DataW.Trod enc Try.prog W 0 (fun _ => true) true 22 v d p) :
    ∃ n, RBytes W v n ∧ True := by
  obtain ⟨a, len, cap, rfl⟩ := okWide_slice Try.underlying22 hv
  obtain ⟨fuel, hf⟩ := h
  rcases open_slice Try.underlying22 hf with ⟨hcs, _⟩ | ⟨ad, l, c, m, n, D, Pl, hcs, _, hl, hm, hmm, _, hr⟩
  · simp [Value.cells] at hcs
    obtain ⟨rfl, rfl, rfl⟩ := hcs
    exact ⟨0, ⟨none, 0, rfl, Nat.le_refl _, by unfold maxLen; omega, fun i hi => by omega⟩, trivial⟩
  · simp [Value.cells] at hcs
    obtain ⟨rfl, rfl, rfl⟩ := hcs
    simp only [if_true] at hmm
    refine ⟨len, ⟨some ad, cap, rfl, hl, hm, fun i hi => ?_⟩, trivial⟩
    have each : ∀ i, i < len → ∃ y : Int, W.cell? (ad.add i) = some (.int .u8 y) ∧ 0 ≤ y ∧ y < 256 := by
      intro i hi
      obtain ⟨cs, h1, h2⟩ := hr i (by omega)
      rw [Try.cellsByte] at h1
      obtain ⟨_, hlen, hc⟩ := World.cells?_some h1
      obtain ⟨c0, rfl⟩ : ∃ c0, cs = [c0] := by
        match cs, hlen with
        | [c0], _ => exact ⟨c0, rfl⟩
      obtain ⟨z0, e0, _, w0⟩ := DataW.trod_int Try.underlying5 h2
      simp at e0
      subst e0
      refine ⟨z0, by simpa [Addr.add] using hc 0 (by omega), ?_⟩
      simp [Lit.wf, IntKind.min, IntKind.max, IntKind.signed, IntKind.bits] at w0
      omega
    obtain ⟨b, off, spot⟩ := ad
    obtain ⟨y, k1, k2, k3⟩ := each i hi
    have hspot : spot = none := by
      obtain ⟨y0, h0, _⟩ := each 0 (by omega)
      simpa [Addr.add] using World.cell?_spot h0
    subst hspot
    have e : ((⟨b, off, none⟩ : Addr).add i) = ⟨b, off + i, none⟩ := by unfold Addr.add; split <;> simp_all
    rw [e] at k1
    exact ⟨b, off, y, rfl, k1, k2, k3⟩
end

end Go.Proofs.Ytifdhapaonideaa

namespace Go.Proofs.Ytifdhapaonideaa
open Go.ChangeShapes Go.WideShapes Go.ChangeAt Go.RowKit
open Go.Lib (hid)

set_option maxRecDepth 100000 in
set_option maxHeartbeats 40000000 in
theorem FnPileCounts_c (v0 : Value) (x0 : Nat) (v1 : Value) (x1 : Nat) (w : World) (r0 : RBytes w v0 x0) (r1 : RBytes w v1 x1) :
    Calls Try.prog 4 #[v0, v1] w fun e w' => e = .returned (.bool true) ∧ Below w.heap.size w w' := by
  have R0 := hid r0
  have R1 := hid r1
  obtain ⟨a0, c0, rfl, hx0, hm0⟩ := r0.form
  obtain ⟨a1, c1, rfl, hx1, hm1⟩ := r1.form
  unfold maxLen at hm0 hm1
  clear r0 r1
  cases tbig : bigB x0 x1
  case' true =>
    have HTB := hid tbig
    clear tbig
    go_enter Try.func4, Try.ntmps4
    go_wp2_with fail
    refine (big_c _ _ _ _ _ R0.out R1.out).mono ?_
    rintro e w' ⟨rfl, q, rfl⟩
    rw [HTB.out]
    go_wp2
    go_ret
    exact ⟨rfl, below_drewN (Below.refl _ _) _⟩
  have HTB := hid tbig
  clear tbig
  go_enter Try.func4, Try.ntmps4
  go_wp2_with fail
  refine (big_c _ _ _ _ _ R0.out R1.out).mono ?_
  rintro e w0 ⟨rfl, qb, hqb⟩
  rw [HTB.out]
  have HB0 : Hid (Below w.heap.size w w0) := by rw [hqb]; exact below_drewN (Below.refl _ _) _
  have R0_0 := hid (R0.out.keep HB0.out)
  have R1_0 := hid (R1.out.keep HB0.out)
  clear hqb
  go_wp2_with fail
  refine (DrawRecurrentPiles_c _ x0 _ R0_0.out).mono ?_
  rintro e w1 ⟨n, vL, L, q, rfl, hn1, hn9, hll, hL, hb1⟩
  have HBw1 := hid (HB0.out.trans (hb1.mono HB0.out.size))
  have R1_w1 := hid (R1_0.out.keep hb1)
  have L_w1 := hid hL
  obtain ⟨al, cl, rfl⟩ := hL.form
  clear hb1 hL
  cases t : piGB n L q
  · obtain ⟨hr, hg, hi⟩ := count_no t
    have HR := hid hr
    have HG := hid hg
    have HI := hid hi
    clear t hr hg hi
    go_wp2_with fail
    refine ((iRecurrentPiles_u n _ L q _ L_w1.out).mono fun e w' h => h.lp HR.out).mono ?_
    rintro e w2 ⟨a2, n2, c2, rfl, hp2, hb2⟩
    have HBw2 := hid (HBw1.out.trans (hb2.mono HBw1.out.size))
    have R1_w2 := hid (R1_w1.out.keep hb2)
    have L_w2 := hid (L_w1.out.keep hb2)
    have P1_w2 := hid hp2
    clear hb2 hp2
    go_wp2_with fail
    refine ((sRecurrentPiles_u n _ L q _ L_w2.out).mono fun e w' h => h.lp HR.out).mono ?_
    rintro e w3 ⟨a3, n3, c3, rfl, hp3, hb3⟩
    have HBw3 := hid (HBw2.out.trans (hb3.mono HBw2.out.size))
    have R1_w3 := hid (R1_w2.out.keep hb3)
    have L_w3 := hid (L_w2.out.keep hb3)
    have P1_w3 := hid (P1_w2.out.keep hb3)
    have P2_w3 := hid hp3
    clear hb3 hp3
    go_wp2_with fail
    refine ((iGreatest_u n _ L q _ L_w3.out).mono fun e w' h => h.lp HG.out).mono ?_
    rintro e w4 ⟨a4, n4, c4, rfl, hp4, hb4⟩
    have HBw4 := hid (HBw3.out.trans (hb4.mono HBw3.out.size))
    have R1_w4 := hid (R1_w3.out.keep hb4)
    have L_w4 := hid (L_w3.out.keep hb4)
    have P1_w4 := hid (P1_w3.out.keep hb4)
    have P2_w4 := hid (P2_w3.out.keep hb4)
    have G1_w4 := hid hp4
    clear hb4 hp4
    go_wp2_with fail
    refine ((sGreatest_u n _ L q _ L_w4.out).mono fun e w' h => h.lp HG.out).mono ?_
    rintro e w5 ⟨a5, n5, c5, rfl, hp5, hb5⟩
    have HBw5 := hid (HBw4.out.trans (hb5.mono HBw4.out.size))
    have R1_w5 := hid (R1_w4.out.keep hb5)
    have L_w5 := hid (L_w4.out.keep hb5)
    have P1_w5 := hid (P1_w4.out.keep hb5)
    have P2_w5 := hid (P2_w4.out.keep hb5)
    have G1_w5 := hid (G1_w4.out.keep hb5)
    have G2_w5 := hid hp5
    clear hb5 hp5
    go_wp2_with fail
    refine ((iIdentityPile_u n _ L q _ L_w5.out).mono fun e w' h => h.lp HI.out).mono ?_
    rintro e w6 ⟨a6, n6, c6, rfl, hp6, hb6⟩
    have HBw6 := hid (HBw5.out.trans (hb6.mono HBw5.out.size))
    have R1_w6 := hid (R1_w5.out.keep hb6)
    have L_w6 := hid (L_w5.out.keep hb6)
    have P1_w6 := hid (P1_w5.out.keep hb6)
    have P2_w6 := hid (P2_w5.out.keep hb6)
    have G1_w6 := hid (G1_w5.out.keep hb6)
    have G2_w6 := hid (G2_w5.out.keep hb6)
    have I1_w6 := hid hp6
    clear hb6 hp6
    go_wp2_with fail
    refine ((sIdentityPile_u n _ L q _ L_w6.out).mono fun e w' h => h.lp HI.out).mono ?_
    rintro e w7 ⟨a7, n7, c7, rfl, hp7, hb7⟩
    have HBw7 := hid (HBw6.out.trans (hb7.mono HBw6.out.size))
    have R1_w7 := hid (R1_w6.out.keep hb7)
    have L_w7 := hid (L_w6.out.keep hb7)
    have P1_w7 := hid (P1_w6.out.keep hb7)
    have P2_w7 := hid (P2_w6.out.keep hb7)
    have G1_w7 := hid (G1_w6.out.keep hb7)
    have G2_w7 := hid (G2_w6.out.keep hb7)
    have I1_w7 := hid (I1_w6.out.keep hb7)
    have I2_w7 := hid hp7
    clear hb7 hp7
    go_wp2_with fail
    refine (sameLists_y _ _ [] _ P1_w7.out P2_w7.out).mono ?_
    rintro e w8 ⟨rfl, hb8⟩
    have HBw8 := hid (HBw7.out.trans (hb8.mono HBw7.out.size))
    have R1_w8 := hid (R1_w7.out.keep hb8)
    have L_w8 := hid (L_w7.out.keep hb8)
    have P1_w8 := hid (P1_w7.out.keep hb8)
    have P2_w8 := hid (P2_w7.out.keep hb8)
    have G1_w8 := hid (G1_w7.out.keep hb8)
    have G2_w8 := hid (G2_w7.out.keep hb8)
    have I1_w8 := hid (I1_w7.out.keep hb8)
    have I2_w8 := hid (I2_w7.out.keep hb8)
    clear hb8
    go_wp2_with fail
    refine (sameInts_y _ _ [] _ G1_w8.out G2_w8.out).mono ?_
    rintro e w9 ⟨rfl, hb9⟩
    have HBw9 := hid (HBw8.out.trans (hb9.mono HBw8.out.size))
    have R1_w9 := hid (R1_w8.out.keep hb9)
    have L_w9 := hid (L_w8.out.keep hb9)
    have P1_w9 := hid (P1_w8.out.keep hb9)
    have P2_w9 := hid (P2_w8.out.keep hb9)
    have G1_w9 := hid (G1_w8.out.keep hb9)
    have G2_w9 := hid (G2_w8.out.keep hb9)
    have I1_w9 := hid (I1_w8.out.keep hb9)
    have I2_w9 := hid (I2_w8.out.keep hb9)
    clear hb9
    go_wp2_with fail
    refine (sameInts_y _ _ [] _ I1_w9.out I2_w9.out).mono ?_
    rintro e w10 ⟨rfl, hb10⟩
    have HBw10 := hid (HBw9.out.trans (hb10.mono HBw9.out.size))
    have R1_w10 := hid (R1_w9.out.keep hb10)
    have L_w10 := hid (L_w9.out.keep hb10)
    have P1_w10 := hid (P1_w9.out.keep hb10)
    have P2_w10 := hid (P2_w9.out.keep hb10)
    have G1_w10 := hid (G1_w9.out.keep hb10)
    have G2_w10 := hid (G2_w9.out.keep hb10)
    have I1_w10 := hid (I1_w9.out.keep hb10)
    have I2_w10 := hid (I2_w9.out.keep hb10)
    clear hb10
    as_aux_lemma =>
      go_wp2_with fail
      refine (DrawTreesOf_c _ x1 _ R1_w10.out).mono ?_
      rintro e w11 ⟨m2, vK, K, rfl, hm1, hm9, hkl, hK, hb11⟩
      have HBw11 := hid (HBw10.out.trans (hb11.mono HBw10.out.size))
      have R1_w11 := hid (R1_w10.out.keep hb11)
      have K_w11 := hid hK
      obtain ⟨ak, ck, rfl⟩ := hK.form
      obtain ⟨tt, bt, htt⟩ : ∃ tt bt, treB m2 K = (tt, bt) := ⟨_, _, rfl⟩
      have HTT := hid htt
      have hpos := fun (h : bt = true) => tre_pos (n := m2) (L := K) (t := tt) (by rw [htt, h])
      clear htt
      clear hb11 hK
      go_wp2_with fail
      refine ((iTreesOf_u m2 _ K _ K_w11.out).mono fun e w' h => h.lp HTT.out).mono ?_
      rintro e w12 ⟨rfl, hb12⟩
      have HBw12 := hid (HBw11.out.trans (hb12.mono HBw11.out.size))
      have R1_w12 := hid (R1_w11.out.keep hb12)
      have K_w12 := hid (K_w11.out.keep hb12)
      clear hb12
      go_wp2_with fail
      refine ((sTreesOf_u m2 _ K _ K_w12.out).mono fun e w' h => h.lp HTT.out).mono ?_
      rintro e w13 ⟨rfl, hb13⟩
      have HBw13 := hid (HBw12.out.trans (hb13.mono HBw12.out.size))
      have R1_w13 := hid (R1_w12.out.keep hb13)
      have K_w13 := hid (K_w12.out.keep hb13)
      clear hb13
      go_wp2_with fail
      refine (DrawIsPile_c _ x1 _ R1_w13.out).mono ?_
      rintro e w14 ⟨m3, vJ, J, s, vd, d, rfl, hs1, hs9, hjl, hdl, hJ, hD, hb14⟩
      have HBw14 := hid (HBw13.out.trans (hb14.mono HBw13.out.size))
      have J_w14 := hid hJ
      have D_w14 := hid hD
      obtain ⟨aj, cj, rfl⟩ := hJ.form
      obtain ⟨ad, nd, cd, rfl⟩ := hD.form3
      obtain ⟨pp, bp, hpp⟩ : ∃ pp bp, ispB m3 J s d = (pp, bp) := ⟨_, _, rfl⟩
      have HPP := hid hpp
      clear hpp
      clear hb14 hJ hD
      go_wp2_with fail
      refine ((iIsPile_u m3 _ J s _ d _ J_w14.out D_w14.out).mono fun e w' h => h.lp HPP.out).mono ?_
      rintro e w15 ⟨rfl, hb15⟩
      have HBw15 := hid (HBw14.out.trans (hb15.mono HBw14.out.size))
      have J_w15 := hid (J_w14.out.keep hb15)
      have D_w15 := hid (D_w14.out.keep hb15)
      clear hb15
      go_wp2_with fail
      refine ((sIsPile_u m3 _ J s _ d _ J_w15.out D_w15.out).mono fun e w' h => h.lp HPP.out).mono ?_
      rintro e w16 ⟨rfl, hb16⟩
      have HBw16 := hid (HBw15.out.trans (hb16.mono HBw15.out.size))
      have J_w16 := hid (J_w15.out.keep hb16)
      have D_w16 := hid (D_w15.out.keep hb16)
      clear hb16
      cases bt
      · clear hpos
        go_wp2
        go_ret
        exact ⟨rfl, HBw16.out⟩
      · have hp1 := hpos rfl
        clear hpos
        go_wp2
        go_ret
        exact ⟨rfl, HBw16.out⟩
  · obtain ⟨m, k, hm, hk, _, _, _⟩ := piGB_nat t
    subst hm
    subst hk
    obtain ⟨R, gg, ee, hr, hg, hi, ht, hgm, hem, hrl, hall⟩ := count_yes t
    have HR := hid hr
    have HG := hid hg
    have HI := hid hi
    have HT := hid ht
    have HGM := hid hgm
    have HEM := hid hem
    have HALL := hid hall
    clear t hr hg hi ht hgm hem hall
    go_wp2_with fail
    refine ((iRecurrentPiles_u (m : Int) _ L (k : Int) _ L_w1.out).mono fun e w' h => h.lp HR.out).mono ?_
    rintro e w2 ⟨a2, n2, c2, rfl, hp2, hb2⟩
    have HBw2 := hid (HBw1.out.trans (hb2.mono HBw1.out.size))
    have R1_w2 := hid (R1_w1.out.keep hb2)
    have L_w2 := hid (L_w1.out.keep hb2)
    have P1_w2 := hid hp2
    clear hb2 hp2
    go_wp2_with fail
    refine ((sRecurrentPiles_u (m : Int) _ L (k : Int) _ L_w2.out).mono fun e w' h => h.lp HR.out).mono ?_
    rintro e w3 ⟨a3, n3, c3, rfl, hp3, hb3⟩
    have HBw3 := hid (HBw2.out.trans (hb3.mono HBw2.out.size))
    have R1_w3 := hid (R1_w2.out.keep hb3)
    have L_w3 := hid (L_w2.out.keep hb3)
    have P1_w3 := hid (P1_w2.out.keep hb3)
    have P2_w3 := hid hp3
    clear hb3 hp3
    go_wp2_with fail
    refine ((iGreatest_u (m : Int) _ L (k : Int) _ L_w3.out).mono fun e w' h => h.lp HG.out).mono ?_
    rintro e w4 ⟨a4, n4, c4, rfl, hp4, hb4⟩
    have HBw4 := hid (HBw3.out.trans (hb4.mono HBw3.out.size))
    have R1_w4 := hid (R1_w3.out.keep hb4)
    have L_w4 := hid (L_w3.out.keep hb4)
    have P1_w4 := hid (P1_w3.out.keep hb4)
    have P2_w4 := hid (P2_w3.out.keep hb4)
    have G1_w4 := hid hp4
    clear hb4 hp4
    go_wp2_with fail
    refine ((sGreatest_u (m : Int) _ L (k : Int) _ L_w4.out).mono fun e w' h => h.lp HG.out).mono ?_
    rintro e w5 ⟨a5, n5, c5, rfl, hp5, hb5⟩
    have HBw5 := hid (HBw4.out.trans (hb5.mono HBw4.out.size))
    have R1_w5 := hid (R1_w4.out.keep hb5)
    have L_w5 := hid (L_w4.out.keep hb5)
    have P1_w5 := hid (P1_w4.out.keep hb5)
    have P2_w5 := hid (P2_w4.out.keep hb5)
    have G1_w5 := hid (G1_w4.out.keep hb5)
    have G2_w5 := hid hp5
    clear hb5 hp5
    go_wp2_with fail
    refine ((iIdentityPile_u (m : Int) _ L (k : Int) _ L_w5.out).mono fun e w' h => h.lp HI.out).mono ?_
    rintro e w6 ⟨a6, n6, c6, rfl, hp6, hb6⟩
    have HBw6 := hid (HBw5.out.trans (hb6.mono HBw5.out.size))
    have R1_w6 := hid (R1_w5.out.keep hb6)
    have L_w6 := hid (L_w5.out.keep hb6)
    have P1_w6 := hid (P1_w5.out.keep hb6)
    have P2_w6 := hid (P2_w5.out.keep hb6)
    have G1_w6 := hid (G1_w5.out.keep hb6)
    have G2_w6 := hid (G2_w5.out.keep hb6)
    have I1_w6 := hid hp6
    clear hb6 hp6
    go_wp2_with fail
    refine ((sIdentityPile_u (m : Int) _ L (k : Int) _ L_w6.out).mono fun e w' h => h.lp HI.out).mono ?_
    rintro e w7 ⟨a7, n7, c7, rfl, hp7, hb7⟩
    have HBw7 := hid (HBw6.out.trans (hb7.mono HBw6.out.size))
    have R1_w7 := hid (R1_w6.out.keep hb7)
    have L_w7 := hid (L_w6.out.keep hb7)
    have P1_w7 := hid (P1_w6.out.keep hb7)
    have P2_w7 := hid (P2_w6.out.keep hb7)
    have G1_w7 := hid (G1_w6.out.keep hb7)
    have G2_w7 := hid (G2_w6.out.keep hb7)
    have I1_w7 := hid (I1_w6.out.keep hb7)
    have I2_w7 := hid hp7
    clear hb7 hp7
    go_wp2_with fail
    refine (sameLists_y _ _ R _ P1_w7.out P2_w7.out).mono ?_
    rintro e w8 ⟨rfl, hb8⟩
    have HBw8 := hid (HBw7.out.trans (hb8.mono HBw7.out.size))
    have R1_w8 := hid (R1_w7.out.keep hb8)
    have L_w8 := hid (L_w7.out.keep hb8)
    have P1_w8 := hid (P1_w7.out.keep hb8)
    have P2_w8 := hid (P2_w7.out.keep hb8)
    have G1_w8 := hid (G1_w7.out.keep hb8)
    have G2_w8 := hid (G2_w7.out.keep hb8)
    have I1_w8 := hid (I1_w7.out.keep hb8)
    have I2_w8 := hid (I2_w7.out.keep hb8)
    clear hb8
    go_wp2_with fail
    refine (sameInts_y _ _ gg _ G1_w8.out G2_w8.out).mono ?_
    rintro e w9 ⟨rfl, hb9⟩
    have HBw9 := hid (HBw8.out.trans (hb9.mono HBw8.out.size))
    have R1_w9 := hid (R1_w8.out.keep hb9)
    have L_w9 := hid (L_w8.out.keep hb9)
    have P1_w9 := hid (P1_w8.out.keep hb9)
    have P2_w9 := hid (P2_w8.out.keep hb9)
    have G1_w9 := hid (G1_w8.out.keep hb9)
    have G2_w9 := hid (G2_w8.out.keep hb9)
    have I1_w9 := hid (I1_w8.out.keep hb9)
    have I2_w9 := hid (I2_w8.out.keep hb9)
    clear hb9
    go_wp2_with fail
    refine (sameInts_y _ _ ee _ I1_w9.out I2_w9.out).mono ?_
    rintro e w10 ⟨rfl, hb10⟩
    have HBw10 := hid (HBw9.out.trans (hb10.mono HBw9.out.size))
    have R1_w10 := hid (R1_w9.out.keep hb10)
    have L_w10 := hid (L_w9.out.keep hb10)
    have P1_w10 := hid (P1_w9.out.keep hb10)
    have P2_w10 := hid (P2_w9.out.keep hb10)
    have G1_w10 := hid (G1_w9.out.keep hb10)
    have G2_w10 := hid (G2_w9.out.keep hb10)
    have I1_w10 := hid (I1_w9.out.keep hb10)
    have I2_w10 := hid (I2_w9.out.keep hb10)
    clear hb10
    go_wp2_with fail
    refine ((iTreesOf_u (m : Int) _ L _ L_w10.out).mono fun e w' h => h.lp HT.out).mono ?_
    rintro e w11 ⟨rfl, hb11⟩
    have HBw11 := hid (HBw10.out.trans (hb11.mono HBw10.out.size))
    have R1_w11 := hid (R1_w10.out.keep hb11)
    have L_w11 := hid (L_w10.out.keep hb11)
    have P2_w11 := hid (P2_w10.out.keep hb11)
    have G2_w11 := hid (G2_w10.out.keep hb11)
    have I2_w11 := hid (I2_w10.out.keep hb11)
    clear hb11
    have hnp : n3 = R.length := by
      obtain ⟨_, _, he9, _⟩ := P2_w11.out
      simp only [Value.slice.injEq] at he9
      exact he9.2.1
    subst hnp
    go_wp2_with fail
    refine (pHas_y _ _ R gg _ P2_w11.out G2_w11.out HGM.out).mono ?_
    rintro e w12 ⟨rfl, hb12⟩
    have HBw12 := hid (HBw11.out.trans (hb12.mono HBw11.out.size))
    have R1_w12 := hid (R1_w11.out.keep hb12)
    have L_w12 := hid (L_w11.out.keep hb12)
    have P2_w12 := hid (P2_w11.out.keep hb12)
    have G2_w12 := hid (G2_w11.out.keep hb12)
    have I2_w12 := hid (I2_w11.out.keep hb12)
    clear hb12
    go_wp2_with fail
    refine (pHas_y _ _ R ee _ P2_w12.out I2_w12.out HEM.out).mono ?_
    rintro e w13 ⟨rfl, hb13⟩
    have HBw13 := hid (HBw12.out.trans (hb13.mono HBw12.out.size))
    have R1_w13 := hid (R1_w12.out.keep hb13)
    have L_w13 := hid (L_w12.out.keep hb13)
    have P2_w13 := hid (P2_w12.out.keep hb13)
    have G2_w13 := hid (G2_w12.out.keep hb13)
    have I2_w13 := hid (I2_w12.out.keep hb13)
    clear hb13
    go_wp2
    go_loopg [163] (R.length + 1) (fun gk iv wr => ∃ i : Nat, i ≤ R.length ∧ gk = R.length + 1 - i ∧ iv = .int .i64 i ∧ Below w13.heap.size w13 wr)
    case atStart => exact ⟨0, Nat.zero_le _, rfl, rfl, Below.refl _ _⟩
    case round =>
      obtain ⟨i, hi, rfl, rfl, hbr⟩ := hrel
      have HBR := hid hbr
      clear hbr
      obtain ⟨wr, rfl⟩ : ∃ w' : World, w' = wr := ⟨_, rfl⟩
      have HBa14 := hid (HBw13.out.trans (HBR.out.mono HBw13.out.size))
      have R1_a14 := hid (R1_w13.out.keep HBR.out)
      have L_a14 := hid (L_w13.out.keep HBR.out)
      have P2_a14 := hid (P2_w13.out.keep HBR.out)
      by_cases hlt : i < R.length
      · have hltz : (i : Int) < (R.length : Int) := by omega
        obtain ⟨_, _, he9, _, _, hcc⟩ := P2_a14.out
        simp only [Value.slice.injEq, true_and] at he9
        obtain ⟨rfl, rfl⟩ := he9
        obtain ⟨g9, o9, rv, d, rfl, e1, hd, _, HXd⟩ := mat_at hcc hlt
        have hdm : d ∈ R := by rw [← HXd.out]; simp [List.getD, hlt]
        obtain ⟨hisr, hisp⟩ := HALL.out d hdm
        have HISR := hid hisr
        have HISP := hid hisp
        have HDD := hid hd
        obtain ⟨ad, cd, rfl, -, -, -⟩ := id hd
        clear hcc hd hdm hisr hisp HXd
        go_wp2_with fail
        refine ((iIsRecurrent_u (m : Int) _ L (k : Int) _ d _ L_a14.out HDD.out).mono fun e w' h => h.lp HISR.out).mono ?_
        rintro e w15 ⟨rfl, hb15⟩
        have HBw15 := hid (HBa14.out.trans (hb15.mono HBa14.out.size))
        have R1_w15 := hid (R1_a14.out.keep hb15)
        have L_w15 := hid (L_a14.out.keep hb15)
        have D_w15 := hid (HDD.out.keep hb15)
        have hbx_15 := hb15
        clear hb15
        go_wp2_with fail
        refine ((iIsPile_u (m : Int) _ L (k : Int) _ d _ L_w15.out D_w15.out).mono fun e w' h => h.lp HISP.out).mono ?_
        rintro e w16 ⟨rfl, hb16⟩
        have HBw16 := hid (HBw15.out.trans (hb16.mono HBw15.out.size))
        have R1_w16 := hid (R1_w15.out.keep hb16)
        have L_w16 := hid (L_w15.out.keep hb16)
        have D_w16 := hid (D_w15.out.keep hb16)
        have hbx_16 : Below wr.heap.size wr w16 := hbx_15.trans (hb16.mono hbx_15.size)
        clear hb16
        have HBX : Hid (Below w13.heap.size w13 w16) := HBR.out.trans ((hbx_16).mono HBR.out.size)
        go_wp2
        go_roundg (R.length + 1 - (i + 1))
        case rel => exact ⟨i + 1, by omega, rfl, by go_num, HBX.out⟩
        case measure => omega
      · obtain rfl : i = R.length := by omega
        as_aux_lemma =>
          go_wp2_with fail
          refine (DrawTreesOf_c _ x1 _ R1_a14.out).mono ?_
          rintro e w15 ⟨m2, vK, K, rfl, hm1, hm9, hkl, hK, hb15⟩
          have HBw15 := hid (HBa14.out.trans (hb15.mono HBa14.out.size))
          have R1_w15 := hid (R1_a14.out.keep hb15)
          have K_w15 := hid hK
          obtain ⟨ak, ck, rfl⟩ := hK.form
          obtain ⟨tt, bt, htt⟩ : ∃ tt bt, treB m2 K = (tt, bt) := ⟨_, _, rfl⟩
          have HTT := hid htt
          have hpos := fun (h : bt = true) => tre_pos (n := m2) (L := K) (t := tt) (by rw [htt, h])
          clear htt
          clear hb15 hK
          go_wp2_with fail
          refine ((iTreesOf_u m2 _ K _ K_w15.out).mono fun e w' h => h.lp HTT.out).mono ?_
          rintro e w16 ⟨rfl, hb16⟩
          have HBw16 := hid (HBw15.out.trans (hb16.mono HBw15.out.size))
          have R1_w16 := hid (R1_w15.out.keep hb16)
          have K_w16 := hid (K_w15.out.keep hb16)
          clear hb16
          go_wp2_with fail
          refine ((sTreesOf_u m2 _ K _ K_w16.out).mono fun e w' h => h.lp HTT.out).mono ?_
          rintro e w17 ⟨rfl, hb17⟩
          have HBw17 := hid (HBw16.out.trans (hb17.mono HBw16.out.size))
          have R1_w17 := hid (R1_w16.out.keep hb17)
          have K_w17 := hid (K_w16.out.keep hb17)
          clear hb17
          go_wp2_with fail
          refine (DrawIsPile_c _ x1 _ R1_w17.out).mono ?_
          rintro e w18 ⟨m3, vJ, J, s, vd, d, rfl, hs1, hs9, hjl, hdl, hJ, hD, hb18⟩
          have HBw18 := hid (HBw17.out.trans (hb18.mono HBw17.out.size))
          have J_w18 := hid hJ
          have D_w18 := hid hD
          obtain ⟨aj, cj, rfl⟩ := hJ.form
          obtain ⟨ad, nd, cd, rfl⟩ := hD.form3
          obtain ⟨pp, bp, hpp⟩ : ∃ pp bp, ispB m3 J s d = (pp, bp) := ⟨_, _, rfl⟩
          have HPP := hid hpp
          clear hpp
          clear hb18 hJ hD
          go_wp2_with fail
          refine ((iIsPile_u m3 _ J s _ d _ J_w18.out D_w18.out).mono fun e w' h => h.lp HPP.out).mono ?_
          rintro e w19 ⟨rfl, hb19⟩
          have HBw19 := hid (HBw18.out.trans (hb19.mono HBw18.out.size))
          have J_w19 := hid (J_w18.out.keep hb19)
          have D_w19 := hid (D_w18.out.keep hb19)
          clear hb19
          go_wp2_with fail
          refine ((sIsPile_u m3 _ J s _ d _ J_w19.out D_w19.out).mono fun e w' h => h.lp HPP.out).mono ?_
          rintro e w20 ⟨rfl, hb20⟩
          have HBw20 := hid (HBw19.out.trans (hb20.mono HBw19.out.size))
          have J_w20 := hid (J_w19.out.keep hb20)
          have D_w20 := hid (D_w19.out.keep hb20)
          clear hb20
          cases bt
          · clear hpos
            go_wp2
            go_ret
            exact ⟨rfl, HBw20.out⟩
          · have hp1 := hpos rfl
            clear hpos
            go_wp2
            go_ret
            exact ⟨rfl, HBw20.out⟩

set_option maxRecDepth 100000 in
theorem fnPileCounts_lifted (os : Os) (started : os.Started) (H : Type) (enc : TypeId × Value → H) :
    ReturnsInHanded {} Try.checked os 4 .any (Rows.fnPileCountsSpec.pre6 enc Try.prog Try.f4 Rows.fnPileCountsRow.domain false) (Rows.fnPileCountsSpec.post enc Try.prog Try.f4 false true false false) := by
  refine returnsInHanded_of_change (C := Try.checked) Try.own' started (by kernel_rfl) Try.func4
    (ChangeSpec.witness6 (enc := enc) (C := Try.checked) false ⟨#[], #[.slice none 0 0, .slice none 0 0], []⟩ 8 (by kernel_rfl) (by kernel_rfl) (by kernel_rfl) (by kernel_rfl)) ?_
  intro W base args ds gs before hval0 hW hcnd _
  have hval : ∀ (j : Nat) t v, Try.f4.params[j]? = some t → args[j]? = some v → Value.okWide Try.prog W .any base t v := hval0
  have hW' := hW
  obtain ⟨p, q, hA0, hV, rfl, hfz, hnd⟩ := hW
  have hA : DataW.TrodAll enc Try.prog W 0 (fun _ => true) true Try.f4.params.toList args.toList ds p := hA0
  rw [Try.params4] at hA hval
  obtain ⟨v0, vs0, d0, ds0, p0, q0, hargs, rfl, rfl, h0, t0⟩ := trodAll_cons hA
  obtain ⟨v1, vs1, d1, ds1, p1, q1, rfl, rfl, rfl, h1, t1⟩ := trodAll_cons t0
  obtain ⟨rfl, rfl, rfl⟩ := trodAll_nil t1
  obtain rfl : args = #[v0, v1] := by cases args; simp_all
  obtain ⟨rfl, rfl⟩ := trodVars_none hV
  have k0 := h0
  have lt0 := trod_blocks k0
  obtain ⟨x0, r0, i0⟩ := open_rbytes (hval 0 22 v0 rfl rfl) h0
  have k1 := h1
  have lt1 := trod_blocks k1
  obtain ⟨x1, r1, i1⟩ := open_rbytes (hval 1 22 v1 rfl rfl) h1
  clear hA0 hval0
  refine (FnPileCounts_c v0 x0 v1 x1 W r0 r1).mono fun e W' ⟨he, bel⟩ => ?_
  subst he
  exact ⟨_, rfl, _, _, _, [], _, [], hW', trodAll_mk1 (shut_bool Try.underlying4 _), (trodAll_cons_mk (Below.trod Try.laidOut' (by kernel_rfl) (of_decide_eq_true (by kernel_rfl)) k0 bel lt0) (trodAll_cons_mk (Below.trod Try.laidOut' (by kernel_rfl) (of_decide_eq_true (by kernel_rfl)) k1 bel lt1) trodAll_mk0)), rfl, bel.frame _, fun h => by cases h⟩

theorem fnPileCounts_holds : Rows.FnPileCountsSaid :=
  OpenClaim.holds_of_wide 4 Try.f4 rfl rfl rfl rfl rfl rfl rfl ⟨rfl, rfl, rfl, rfl, rfl⟩ rfl rfl rfl rfl rfl (by kernel_rfl) Try.func4 (by kernel_rfl)
    (of_decide_eq_true (by kernel_rfl)) (by unfold Func.isWrapper; first | (rw [if_pos (by decide +kernel)]; kernel_rfl) | (rw [if_neg (by decide +kernel)]; exact ⟨rfl, rfl⟩))
    (fun os started H enc _ => fnPileCounts_lifted os started H enc)

end Go.Proofs.Ytifdhapaonideaa

