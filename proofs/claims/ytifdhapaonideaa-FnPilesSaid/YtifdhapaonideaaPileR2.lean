/- Piles: the program's list of all recurrent piles, whole. -/
import Derived.Test.YtifdhapaonideaaPileR
namespace Go.Proofs.Ytifdhapaonideaa
open Go.RowKit
open Go.Lib (hid)

variable {n q p : Nat} {L : List Lnk}
theorem piM_len2 (hP : PG n L q) (xs : List Int) : (piM n L q xs).length ≤ 35 ^ (n - xs.length) := by
  unfold piM
  refine Nat.le_trans (List.length_filter_le _ _) ?_
  rw [List.length_map]
  refine Nat.le_trans (stA_len _ (fun m hm => ?_)) ?_
  · obtain ⟨i, hi, rfl⟩ := mem_lst.1 (List.mem_of_mem_drop hm)
    exact ((grt_pil hP).all (by decide) hi).2
  · rw [List.length_drop, lst_len]; exact Nat.le_refl _
theorem piX_len2 (hP : PG n L q) (xs : List Int) {d : Nat} (hd : n = xs.length + (d + 1)) : ∀ k, (piX n L q xs k).length ≤ k * 35 ^ d := by
  intro k
  induction k with
  | zero => rw [piX_zero]; simp
  | succ k ih =>
    rw [piX_succ, List.length_append, Nat.succ_mul]
    have := piM_len2 hP (xs ++ [(k : Int)])
    rw [List.length_append, List.length_singleton, show n - (xs.length + 1) = d by omega] at this
    omega

set_option maxRecDepth 100000 in
set_option maxHeartbeats 4000000 in
theorem recNext_c (hP : PG n L q) (wp : World) : ∀ (d v : Nat) (f : Nat → Int) (lv : Value) (Z : List (Value × List Int)) (w : World), n = v + d → PsSt wp.heap.size n q p L w lv Z f → preF n L q v f → Below wp.heap.size wp w → Z.length + 35 ^ d ≤ 1000000000 →
    Calls Try.prog 83 #[.int .i64 v, .pointer (some ⟨wp.heap.size, 0, none⟩), .pointer (some ⟨wp.heap.size + 4, 0, none⟩), .pointer (some ⟨wp.heap.size + 2, 0, none⟩), .pointer (some ⟨wp.heap.size + 5, 0, none⟩)] w
      fun e w' => RetPs wp.heap.size n q p L v f (Z.map Prod.snd ++ piM n L q (lst v f)) e w' ∧ Below wp.heap.size wp w' := by
  intro d
  induction d with
  | zero =>
    intro v f lv Z w hd s hp hb hz
    obtain rfl : n = v := by omega
    exact recNext_leaf hP wp f lv Z w s hp hb (by simp at hz; omega)
  | succ d ih =>
    intro v f lv Z w hd s hp hb0 hz
    have hn8 := hP.good.n8
    have hn1 := hP.good.n1
    have hvn : v < n := by omega
    have hvz : (v : Int) < (n : Int) := by omega
    have S := hid s
    have HB := hid hb0
    have HP := hid hp
    have HZ := hid hz
    have HIH := hid ih
    have HD := hid hd
    obtain ⟨H, hH⟩ : ∃ H, wp.heap.size = H := ⟨_, rfl⟩
    rw [hH] at S HB HIH ⊢
    have hlt := S.out.lt
    obtain ⟨gv, ov, cv, hcv1, hcv2, c0, c2, hvc⟩ : ∃ gv ov cv : Nat, n ≤ cv ∧ cv ≤ 9223372036854775807 ∧ w.cell? ⟨p, 0, none⟩ = some (.int .i64 n) ∧ w.cell? ⟨p, 2, none⟩ = some (.slice (some ⟨gv, ov, none⟩) n cv) ∧ ∀ i, i < n → w.cell? ⟨gv, ov + i, none⟩ = some (.int .i64 (valV n L i)) := by
      obtain ⟨g2, bt, vt, hgg, c0, _, c2, _, _, hv⟩ := S.out.gr
      simp only [Value.pointer.injEq, Option.some.injEq, Addr.mk.injEq, and_true] at hgg
      subst hgg
      obtain ⟨gv, ov, cv, rfl, h1, h2, h3⟩ := ri_open hv (by omega)
      exact ⟨gv, ov, cv, h1, h2, c0, c2, h3⟩
    have c3 := hvc v hvn
    obtain ⟨t0, t1⟩ := S.out.tcell
    have tt : ((v : Int) == (n : Int)) = false := beq_nat_false (by omega)
    have hG := (grt_pil hP).all (by decide) hvn
    have HPE := hid (piM_eq (L := L) (q := q) (xs := lst v f) (by rw [lst_len]; exact hvn))
    rw [lst_len] at HPE
    have hgv : ¬ v = q → grtV n L q v = valV n L v - 1 := fun h => by unfold grtV; rw [if_neg h]
    have hgq : v = q → grtV n L q v = 0 := fun h => by unfold grtV; rw [if_pos h]
    obtain ⟨G0, hG0⟩ : ∃ G0, grtV n L q v = G0 := ⟨_, rfl⟩
    rw [hG0] at hG HPE hgv hgq
    have HG0 := hid hG0
    have f1 : IntKind.i64.wrap ((v : Int) + 1) = (v : Int) + 1 := IntWalk.i64_in _ (by omega)
    have F1 := hid f1
    clear s hp hb0 hH hvc hG0 ih hd hz f1
    by_cases hvq : v = q
    -- Q
    · have u1 : ((v : Int) == (q : Int)) = true := beq_nat_true hvq
      have u2 : ((v : Int) != (q : Int)) = false := bne_of_true u1
      have hG00 := hgq hvq
      subst hG00
      clear hgv hgq hvq c2 c3 hG
      obtain ⟨X, hX⟩ : ∃ X : Int, X = 0 + 1 := ⟨_, rfl⟩
      have HX := hid hX
      clear hX
      go_enter Try.func83, Try.ntmps83
      go_wp2
      clear t0 t1 u1 u2 c0
      go_loopg [38] (0 + 1 : Int).toNat (fun gk i wr => ∃ (k : Nat) (lv' : Value) (Z' : List (Value × List Int)) (f' : Nat → Int), k ≤ (0 + 1 : Int).toNat ∧ gk = (0 + 1 : Int).toNat - k ∧ i = .int .i64 k ∧ PsSt H n q p L wr lv' Z' f' ∧ (∀ i, i < v → f' i = f i) ∧ Z'.map Prod.snd = Z.map Prod.snd ++ piX n L q (lst v f) k ∧ Below H wp wr)
      case atStart => exact ⟨0, lv, Z, f, Nat.zero_le _, rfl, rfl, S.out, fun _ _ => rfl, by rw [piX_zero, List.append_nil], HB.out⟩
      case round =>
        obtain ⟨k, lv1, Z1, f1, hk, rfl, rfl, hs, hf, hm, hb⟩ := hrel
        have S1 := hid hs
        have HF := hid hf
        have HM := hid hm
        have HBW := hid hb
        have e4 := hs.bd.cell
        have e5 := hs.bx.cell
        obtain ⟨k1, k2, hs2⟩ := hs.put hvn (k : Int)
        have S2 := hid hs2
        clear hs hf hm hb hs2
        by_cases hltk : (k : Int) < 1
        · have hpre := preF_step (x := (k : Int)) HP.out HF.out ⟨by omega, by rw [HG0.out]; omega⟩
          have hbw := HBW.out.setCell (p := ⟨H + 3, v, none⟩) (show H ≤ H + 3 from Nat.le_add_right H 3) (.int .i64 k)
          have hzl : Z1.length + 35 ^ d ≤ 1000000000 := by
            have h1 := congrArg List.length HM.out
            rw [List.length_map, List.length_append, List.length_map] at h1
            have h2 := piX_len2 hP (lst v f) (d := d) (by rw [lst_len]; exact HD.out) k
            have h3 := HZ.out
            rw [Nat.pow_succ] at h3
            have h4 : k * 35 ^ d + 35 ^ d ≤ 35 * 35 ^ d := by
              rw [← Nat.succ_mul]; exact Nat.mul_le_mul_right _ (by omega)
            rw [Nat.mul_comm (35 ^ d) 35] at h3
            omega
          have hmm : piX n L q (lst v f) (k + 1) = piX n L q (lst v f) k ++ piM n L q (lst (v + 1) (upd f1 v k)) := by
            rw [piX_succ, lst_putp v f f1 (k : Int) HF.out]
          have HPRE := hid hpre
          have HBS := hid hbw
          have HZL := hid hzl
          have HMM := hid hmm
          have ff1 := F1.out
          clear hpre hbw hzl hmm
          go_wp2_with fail
          refine (HIH.out (v + 1) (upd f1 v k) lv1 Z1 _ (by have := HD.out; omega) S2.out HPRE.out HBS.out HZL.out).mono ?_
          rintro e w4 ⟨⟨rfl, lv4, Z4, f4, hs4, hf4, hm4⟩, hb4⟩
          have S4 := hid hs4
          have HM4 : Hid (Z4.map Prod.snd = Z.map Prod.snd ++ piX n L q (lst v f) (k + 1)) := by show _ = _; rw [hm4, HM.out, HMM.out, List.append_assoc]
          have HF4 : Hid (∀ i, i < v → f4 i = f i) := fun i hi => by rw [hf4 i (by omega), upd_other _ _ (by omega), HF.out i hi]
          have HB4 := hid hb4
          clear hs4 hf4 hm4 hb4 e4 e5 k1 k2 ff1
          go_wp2
          go_roundg ((0 + 1 : Int).toNat - (k + 1))
          case rel => exact ⟨k + 1, lv4, Z4, f4, by omega, rfl, by go_num, S4.out, HF4.out, HM4.out, HB4.out⟩
          case measure => omega
        · have hkk : k = (0 + 1 : Int).toNat := by omega
          have HME : Hid (Z1.map Prod.snd = Z.map Prod.snd ++ piM n L q (lst v f)) := by show _ = _; rw [HM.out, HPE.out, hkk]
          obtain ⟨j1, j2, hs3⟩ := S1.out.put hvn 0
          have S3 := hid hs3
          have HBS := hid (HBW.out.setCell (p := ⟨H + 3, v, none⟩) (show H ≤ H + 3 from Nat.le_add_right H 3) (.int .i64 0))
          clear hs3 hkk k1 k2
          go_wp2
          go_end0
          exact ⟨⟨rfl, lv1, Z1, _, S3.out, fun i hi => by rw [upd_other _ _ (by omega), HF.out i hi], HME.out⟩, HBS.out⟩
    -- N
    · have u1 : ((v : Int) == (q : Int)) = false := beq_nat_false hvq
      have u2 : ((v : Int) != (q : Int)) = true := bne_of_false u1
      have hGv := hgv hvq
      obtain ⟨y, hy⟩ : ∃ y, valV n L v = y := ⟨_, rfl⟩
      rw [hy] at c3 hGv
      have g1 : IntKind.i64.wrap (y - 1) = G0 := by rw [← hGv]; exact IntWalk.i64_in _ (by omega)
      have g2 : IntKind.i64.wrap (G0 + 1) = G0 + 1 := IntWalk.i64_in _ (by omega)
      clear hgv hgq hvq hy hGv
      obtain ⟨X, hX⟩ : ∃ X : Int, X = G0 + 1 := ⟨_, rfl⟩
      have HX := hid hX
      clear hX
      go_enter Try.func83, Try.ntmps83
      go_wp2
      clear t0 t1 u1 u2 c0 c2 c3 g1 g2
      go_loopg [38] (G0 + 1).toNat (fun gk i wr => ∃ (k : Nat) (lv' : Value) (Z' : List (Value × List Int)) (f' : Nat → Int), k ≤ (G0 + 1).toNat ∧ gk = (G0 + 1).toNat - k ∧ i = .int .i64 k ∧ PsSt H n q p L wr lv' Z' f' ∧ (∀ i, i < v → f' i = f i) ∧ Z'.map Prod.snd = Z.map Prod.snd ++ piX n L q (lst v f) k ∧ Below H wp wr)
      case atStart => exact ⟨0, lv, Z, f, Nat.zero_le _, rfl, rfl, S.out, fun _ _ => rfl, by rw [piX_zero, List.append_nil], HB.out⟩
      case round =>
        obtain ⟨k, lv1, Z1, f1, hk, rfl, rfl, hs, hf, hm, hb⟩ := hrel
        have S1 := hid hs
        have HF := hid hf
        have HM := hid hm
        have HBW := hid hb
        have e4 := hs.bd.cell
        have e5 := hs.bx.cell
        obtain ⟨k1, k2, hs2⟩ := hs.put hvn (k : Int)
        have S2 := hid hs2
        clear hs hf hm hb hs2
        by_cases hltk : (k : Int) < G0 + 1
        · have hpre := preF_step (x := (k : Int)) HP.out HF.out ⟨by omega, by rw [HG0.out]; omega⟩
          have hbw := HBW.out.setCell (p := ⟨H + 3, v, none⟩) (show H ≤ H + 3 from Nat.le_add_right H 3) (.int .i64 k)
          have hzl : Z1.length + 35 ^ d ≤ 1000000000 := by
            have h1 := congrArg List.length HM.out
            rw [List.length_map, List.length_append, List.length_map] at h1
            have h2 := piX_len2 hP (lst v f) (d := d) (by rw [lst_len]; exact HD.out) k
            have h3 := HZ.out
            rw [Nat.pow_succ] at h3
            have h4 : k * 35 ^ d + 35 ^ d ≤ 35 * 35 ^ d := by
              rw [← Nat.succ_mul]; exact Nat.mul_le_mul_right _ (by omega)
            rw [Nat.mul_comm (35 ^ d) 35] at h3
            omega
          have hmm : piX n L q (lst v f) (k + 1) = piX n L q (lst v f) k ++ piM n L q (lst (v + 1) (upd f1 v k)) := by
            rw [piX_succ, lst_putp v f f1 (k : Int) HF.out]
          have HPRE := hid hpre
          have HBS := hid hbw
          have HZL := hid hzl
          have HMM := hid hmm
          have ff1 := F1.out
          clear hpre hbw hzl hmm
          go_wp2_with fail
          refine (HIH.out (v + 1) (upd f1 v k) lv1 Z1 _ (by have := HD.out; omega) S2.out HPRE.out HBS.out HZL.out).mono ?_
          rintro e w4 ⟨⟨rfl, lv4, Z4, f4, hs4, hf4, hm4⟩, hb4⟩
          have S4 := hid hs4
          have HM4 : Hid (Z4.map Prod.snd = Z.map Prod.snd ++ piX n L q (lst v f) (k + 1)) := by show _ = _; rw [hm4, HM.out, HMM.out, List.append_assoc]
          have HF4 : Hid (∀ i, i < v → f4 i = f i) := fun i hi => by rw [hf4 i (by omega), upd_other _ _ (by omega), HF.out i hi]
          have HB4 := hid hb4
          clear hs4 hf4 hm4 hb4 e4 e5 k1 k2 ff1
          go_wp2
          go_roundg ((G0 + 1).toNat - (k + 1))
          case rel => exact ⟨k + 1, lv4, Z4, f4, by omega, rfl, by go_num, S4.out, HF4.out, HM4.out, HB4.out⟩
          case measure => omega
        · have hkk : k = (G0 + 1).toNat := by omega
          have HME : Hid (Z1.map Prod.snd = Z.map Prod.snd ++ piM n L q (lst v f)) := by show _ = _; rw [HM.out, HPE.out, hkk]
          obtain ⟨j1, j2, hs3⟩ := S1.out.put hvn 0
          have S3 := hid hs3
          have HBS := hid (HBW.out.setCell (p := ⟨H + 3, v, none⟩) (show H ≤ H + 3 from Nat.le_add_right H 3) (.int .i64 0))
          clear hs3 hkk k1 k2
          go_wp2
          go_end0
          exact ⟨⟨rfl, lv1, Z1, _, S3.out, fun i hi => by rw [upd_other _ _ (by omega), HF.out i hi], HME.out⟩, HBS.out⟩

/-- the blocks at the start -/
theorem ps_start (w : World) (hn : n ≤ 1000) (hr : RG w (.pointer (some ⟨p, 0, none⟩)) n L) :
    let W := ((((((w.alloc (.cells #[.pointer (some ⟨p, 0, none⟩), .int .i64 q] 54)).alloc (.cells #[] 25)).alloc (.cells #[.slice (some ⟨w.heap.size + 1, 0, none⟩) 0 0] 44)).alloc (.cells (madeCells #[.int .i64 0] n) 3)).alloc (.cells #[.slice (some ⟨w.heap.size + 1 + 1 + 1, 0, none⟩) n n] 25)).alloc
      (.cells #[.func (.func 83) #[] #[.pointer (some ⟨w.heap.size, 0, none⟩), .pointer (some ⟨w.heap.size + 1 + 1 + 1 + 1, 0, none⟩), .pointer (some ⟨w.heap.size + 1 + 1, 0, none⟩), .pointer (some ⟨w.heap.size + 1 + 1 + 1 + 1 + 1, 0, none⟩)]] 94))
    PsSt w.heap.size n q p L W (.slice (some ⟨w.heap.size + 1, 0, none⟩) 0 0) [] (fun _ => 0) ∧ Below w.heap.size w W := by
  intro W
  have hb : Below w.heap.size w W := ((((((Below.refl _ _).alloc (by omega) _).alloc (by simp) _).alloc (by simp; omega) _).alloc (by simp; omega) _).alloc (by simp; omega) _).alloc (by simp; omega) _
  have look : ∀ (u : World) (o o' : Obj) (b : Nat), u.heap[b]? = some o → (u.alloc o').heap[b]? = some o := fun u o o' b hx => by
    rw [Below.heap_alloc _ _ _ (Array.getElem?_eq_some_iff.1 hx).1]; exact hx
  have new : ∀ (u : World) (o : Obj) (b : Nat), b = u.heap.size → (u.alloc o).heap[b]? = some o := fun u o b hb => by rw [hb]; exact heap_alloc_new u o
  have hsW : W.heap.size = w.heap.size + 6 := by simp [W]
  refine ⟨⟨hr.keep hb, fun w' hs hz => rg_heap hr (by omega) (fun b hb' => (hs b (Nat.zero_le _) hb' (by omega)).trans (hb.block b hb')), ?_, ?_, ?_, ?_, ?_, ?_, pool_nil _ _ _, fun g hg => by simp [Value.ownBlock] at hg; omega⟩, hb⟩
  · exact look _ _ _ _ (look _ _ _ _ (look _ _ _ _ (look _ _ _ _ (look _ _ _ _ (new _ _ _ rfl)))))
  · exact look _ _ _ _ (look _ _ _ _ (look _ _ _ _ (new _ _ _ (by simp))))
  · exact look _ _ _ _ (new _ _ _ (by simp))
  · exact new _ _ _ (by simp)
  · have h3 := fi_made (((w.alloc (.cells #[.pointer (some ⟨p, 0, none⟩), .int .i64 q] 54)).alloc (.cells #[] 25)).alloc (.cells #[.slice (some ⟨w.heap.size + 1, 0, none⟩) 0 0] 44)) n (by omega)
    have hs : (((w.alloc (.cells #[.pointer (some ⟨p, 0, none⟩), .int .i64 q] 54)).alloc (.cells #[] 25)).alloc (.cells #[.slice (some ⟨w.heap.size + 1, 0, none⟩) 0 0] 44)).heap.size = w.heap.size + 3 := by simp
    rw [hs] at h3
    exact (h3.keep ((Below.refl _ _).alloc (Nat.le_refl _) _)).keep ((Below.refl _ _).alloc (Nat.le_refl _) _)
  · have h1 := omat_empty (w.alloc (.cells #[.pointer (some ⟨p, 0, none⟩), .int .i64 q] 54)) (w.heap.size + 1) (by simp)
    have hs : (w.alloc (.cells #[.pointer (some ⟨p, 0, none⟩), .int .i64 q] 54)).heap.size = w.heap.size + 1 := by simp
    rw [hs] at h1
    exact (((h1.keep ((Below.refl _ _).alloc (Nat.le_refl _) _)).keep ((Below.refl _ _).alloc (Nat.le_refl _) _)).keep ((Below.refl _ _).alloc (Nat.le_refl _) _)).keep ((Below.refl _ _).alloc (Nat.le_refl _) _)

set_option maxRecDepth 100000 in
set_option maxHeartbeats 2000000 in
theorem recurrent_c (hP : PG n L q) (w : World) (hp : RG w (.pointer (some ⟨p, 0, none⟩)) n L) :
    Calls Try.prog 50 #[.agg #[.pointer (some ⟨p, 0, none⟩), .int .i64 q]] w (RetMat w (recL n L q)) := by
  have hn8 := hP.good.n8
  have hn1 := hP.good.n1
  have hmk := run_make_row' (P := Try.prog) 25 3 (.int .i64 0) 8 Try.underlying25 Try.infoInt rfl .i64 .i64 n (by omega) (by omega)
  obtain ⟨hs, hb⟩ := ps_start (n := n) (q := q) (p := p) (L := L) w (by omega) hp
  have HS := hid hs
  have HB := hid hb
  have hc0 : w.cell? ⟨p, 0, none⟩ = some (.int .i64 n) := by
    obtain ⟨g2, bt, vt, hgg, c0, _⟩ := hp
    simp only [Value.pointer.injEq, Option.some.injEq, Addr.mk.injEq, and_true] at hgg
    subst hgg
    exact c0
  have hlp := cell_lt hc0
  have hk : ∀ o1 o2 o3 : Obj, (((w.alloc o1).alloc o2).alloc o3).cell? ⟨p, 0, none⟩ = some (.int .i64 n) := fun o1 o2 o3 => by
    rw [World.cell?_alloc_lt _ _ _ (by simp; omega), World.cell?_alloc_lt _ _ _ (by simp; omega), World.cell?_alloc_lt _ _ _ (by omega)]; exact hc0
  have hk1 := hk (.cells #[.pointer (some ⟨p, 0, none⟩), .int .i64 q] 54) (.cells #[] 25) (.cells #[.slice (some ⟨w.heap.size + 1, 0, none⟩) 0 0] 44)
  have hcall := recNext_c hP w n 0 (fun _ => 0) _ [] _ (by omega) HS.out (fun i hi => by omega) HB.out (by
    have := Nat.pow_le_pow_right (show 0 < 35 by decide) hP.n5
    have h5 : 35 ^ 5 = 52521875 := by decide
    simp; omega)
  have HCALL := hid hcall
  clear hs hb hcall hk hp hc0 hlp
  go_enter Try.func50, Try.ntmps50
  go_wp2_with fail
  refine HCALL.out.mono ?_
  rintro e w4 ⟨⟨rfl, lv, Z, f, hs, -, hm⟩, hb4⟩
  have e2 := hs.bo.cell
  have HR := hid ((hs.rows.f (fun g hg => (hs.rows.lt g hg).2) (hs.pool.mono (Nat.le_succ_of_le (Nat.le_succ_of_le (Nat.le_succ_of_le (Nat.le_succ_of_le (Nat.le_succ_of_le (Nat.le_refl _)))))) (Nat.le_refl _))).mono (Nat.le_succ _) (Nat.le_refl _))
  have HM : Hid (Z.map Prod.snd = recL n L q) := by show _ = _; rw [hm, lst_zero]; simp [piM, recL]
  have HB4 := hid hb4
  obtain ⟨al, cl, rfl⟩ := hs.rows.form
  clear hs hm hb4
  go_wp2
  go_ret
  exact ⟨_, rfl, by rw [← HM.out]; exact HR.out, HB4.out⟩

end Go.Proofs.Ytifdhapaonideaa
