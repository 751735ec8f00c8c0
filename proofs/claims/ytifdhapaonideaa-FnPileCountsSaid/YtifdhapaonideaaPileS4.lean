/- Piles: what the reference's five functions return. -/
import Derived.Test.YtifdhapaonideaaPileS3
namespace Go.Proofs.Ytifdhapaonideaa
open Go.RowKit
open Go.Lib (hid)

/-- a number and a truth value; two truth values -/
def RetZC (w : World) (p : Int × Bool) (e : Ending) (w' : World) : Prop := e = .returned (.tuple #[.int .i64 p.1, .bool p.2]) ∧ Below w.heap.size w w'
def RetBC (w : World) (p : Bool × Bool) (e : Ending) (w' : World) : Prop := e = .returned (.tuple #[.bool p.1, .bool p.2]) ∧ Below w.heap.size w w'
/-- a matrix and a truth value -/
def RetMatU (w : World) (p : List (List Int) × Bool) (e : Ending) (w' : World) : Prop := ∃ v, e = .returned (.tuple #[v, .bool p.2]) ∧ FMat w' w.heap.size w'.heap.size v p.1 ∧ Below w.heap.size w w'

/-- a valid graph with a sink and a stable pile -/
noncomputable def piSB (n : Int) (L : List Lnk) (q : Int) (d : List Int) : Bool := piAB n L q d && stB n.toNat L q.toNat (fun i => d.getD i 0)
/-- and it is recurrent -/
noncomputable def piRB (n : Int) (L : List Lnk) (q : Int) (d : List Int) : Bool := piSB n L q d && recB n.toNat L q.toNat (fun i => d.getD i 0)
theorem piAB_parts {n : Int} {L : List Lnk} {q : Int} {d : List Int} (h : piAB n L q d = true) : ∃ m k : Nat, n = m ∧ q = k ∧ n.toNat = m ∧ q.toNat = k ∧ PG m L k ∧ d.length = m ∧ PilZ m k 50 (fun i => d.getD i 0) ∧ piGB n L q = true := by
  unfold piAB at h
  simp only [Bool.and_eq_true] at h
  obtain ⟨h1, h2⟩ := h
  have hg := h1
  obtain ⟨hn, hq, hP, _⟩ := piGB_parts h1
  obtain ⟨m, hm⟩ : ∃ m : Nat, n.toNat = m := ⟨_, rfl⟩
  obtain ⟨k, hk⟩ : ∃ k : Nat, q.toNat = k := ⟨_, rfl⟩
  rw [hm] at hn hP
  rw [hk] at hq hP
  rw [hn, hq] at h2
  obtain ⟨p1, p2, p3⟩ := piPB_parts h2
  refine ⟨m, k, hn, hq, hm, hk, hP, p1, ⟨fun v hv _ => ?_, p3⟩, hg⟩
  have hv' : v < d.length := by omega
  have : d.getD v 0 ∈ d := by simp [List.getD, List.getElem?_eq_getElem hv']
  exact p2 _ this

noncomputable def isrB (n : Int) (L : List Lnk) (q : Int) (d : List Int) : Bool × Bool := if piSB n L q d then (recB n.toNat L q.toNat (fun i => d.getD i 0), true) else (false, false)
theorem isrB_yes {n : Int} {L : List Lnk} {q : Int} {d : List Int} (h : piSB n L q d = true) : isrB n L q d = (recB n.toNat L q.toNat (fun i => d.getD i 0), true) := by unfold isrB; rw [h]; rfl
theorem isrB_no {n : Int} {L : List Lnk} {q : Int} {d : List Int} (h : piSB n L q d = false) : isrB n L q d = (false, false) := by unfold isrB; rw [h]; rfl
theorem piSB_no {n : Int} {L : List Lnk} {q : Int} {d : List Int} (h : piAB n L q d = false) : piSB n L q d = false := by unfold piSB; rw [h]; rfl

set_option maxRecDepth 100000 in
set_option maxHeartbeats 2000000 in
theorem sIsRecurrent_u (n : Int) (v : Value) (L : List Lnk) (q : Int) (u : Value) (d : List Int) (w : World) (h : RLinks w v L) (hd : RInts w u d) :
    Calls Try.prog 21 #[.int .i64 n, v, .int .i64 q, u] w (RetBC w (isrB n L q d)) := by
  have HR := hid h
  have HD := hid hd
  obtain ⟨a, cap, rfl⟩ := h.form
  obtain ⟨a2, cap2, rfl, _, _, hc⟩ := hd
  clear h hc
  rcases Bool.eq_false_or_eq_true (piAB n L q d) with t1 | t1
  · obtain ⟨m, k, hn, hq, hm, hk, hP, hl, hz, _⟩ := piAB_parts t1
    have HDL := hid (rints_lst HD.out hl)
    have hst := stB_iff hP.good (q := k) (f := fun i => d.getD i 0)
    have hsb : piSB n L q d = stB m L k (fun i => d.getD i 0) := by unfold piSB; rw [t1, hm, hk]; rfl
    subst hn
    subst hq
    have HZ := hid hz
    have HST := hid hst
    have HSB := hid hsb
    clear hm hk hl hz hst hsb
    go_enter Try.func21, Try.ntmps21
    go_wp2_with fail
    refine (piAsked_c _ _ _ _ L d _ HR.out HD.out).mono ?_
    rintro e w1 ⟨rfl, hb1⟩
    rw [t1]
    have HB1 := hid hb1
    clear hb1
    go_wp2_with fail
    refine (piNext_c m k _ _ L _ _ (HR.out.keep HB1.out) hP.good (HDL.out.keep HB1.out)).mono ?_
    rintro e w2 ⟨x, rfl, hx, hb2⟩
    have HB2 := hid (HB1.out.trans (hb2.mono HB1.out.size))
    clear hb2
    rcases hx with ⟨rfl, hs⟩ | ⟨v2, rfl, h1, h2, h3⟩
    · have hy := isrB_yes (n := (m : Int)) (L := L) (q := (k : Int)) (d := d) (by rw [HSB.out]; exact HST.out.2 hs)
      have HY := hid hy
      clear hy
      go_wp2_with fail
      refine (piRecurrent_c m k _ _ L _ _ (HR.out.keep HB2.out) hP (HDL.out.keep HB2.out) (HZ.out.mono (by decide)) hs).mono ?_
      rintro e w3 ⟨rfl, hb3⟩
      have HB3 := hid (HB2.out.trans (hb3.mono HB2.out.size))
      clear hb3 hs
      go_wp2
      go_ret2
      exact ⟨by rw [HY.out]; rfl, HB3.out⟩
    · have hy := isrB_no (n := (m : Int)) (L := L) (q := (k : Int)) (d := d) (by
        rw [HSB.out]
        cases hb : stB m L k (fun i => d.getD i 0) with
        | false => rfl
        | true => have := HST.out.1 hb v2 h1 h2; dsimp only at this h3; omega)
      have HY := hid hy
      clear hy h1 h2 h3
      go_wp2
      go_ret2
      exact ⟨by rw [HY.out]; rfl, HB2.out⟩
  · have HE := hid (isrB_no (piSB_no t1))
    go_enter Try.func21, Try.ntmps21
    go_wp2_with fail
    refine (piAsked_c _ _ _ _ L d _ HR.out HD.out).mono ?_
    rintro e w1 ⟨rfl, hb1⟩
    rw [t1]
    go_wp2
    go_ret2
    exact ⟨by rw [HE.out]; rfl, hb1⟩

/-- the identity of a valid graph -/
noncomputable def idL (n : Nat) (L : List Lnk) (q : Nat) : List Int := open Classical in if h : GoodL n L then lst n (idF n L q h) else []
theorem idL_eq {n : Nat} {L : List Lnk} {q : Nat} (h : GoodL n L) : idL n L q = lst n (idF n L q h) := by unfold idL; rw [dif_pos h]
noncomputable def idpB (n : Int) (L : List Lnk) (q : Int) : List Int × Bool := if piGB n L q then (idL n.toNat L q.toNat, true) else ([], false)
theorem idpB_yes {n : Int} {L : List Lnk} {q : Int} (h : piGB n L q = true) : idpB n L q = (idL n.toNat L q.toNat, true) := by unfold idpB; rw [h]; rfl
theorem idpB_no {n : Int} {L : List Lnk} {q : Int} (h : piGB n L q = false) : idpB n L q = ([], false) := by unfold idpB; rw [h]; rfl
theorem piGB_nat {n : Int} {L : List Lnk} {q : Int} (h : piGB n L q = true) : ∃ m k : Nat, n = m ∧ q = k ∧ n.toNat = m ∧ q.toNat = k ∧ PG m L k := by
  obtain ⟨hn, hq, hP, _⟩ := piGB_parts h
  exact ⟨n.toNat, q.toNat, hn, hq, rfl, rfl, hP⟩
theorem idpB_len (n : Int) (L : List Lnk) (q : Int) : (idpB n L q).1.length ≤ 1048576 := by
  rcases Bool.eq_false_or_eq_true (piGB n L q) with t | t
  · obtain ⟨m, k, _, _, hm, hk, hP⟩ := piGB_nat t
    rw [idpB_yes t, hm, hk, idL_eq hP.good, lst_len]
    have := hP.n5; omega
  · rw [idpB_no t]; simp

set_option maxRecDepth 100000 in
set_option maxHeartbeats 1000000 in
theorem sIdentityPile_u (n : Int) (v : Value) (L : List Lnk) (q : Int) (w : World) (h : RLinks w v L) :
    Calls Try.prog 23 #[.int .i64 n, v, .int .i64 q] w (RetIB w (idpB n L q)) := by
  have HR := hid h
  obtain ⟨a, cap, rfl⟩ := h.form
  clear h
  rcases Bool.eq_false_or_eq_true (piGB n L q) with t1 | t1
  · obtain ⟨m, k, hn, hq, hm, hk, hP⟩ := piGB_nat t1
    have hy := idpB_yes t1
    rw [hm, hk, idL_eq hP.good] at hy
    subst hn
    subst hq
    have HY := hid hy
    clear hm hk hy
    go_enter Try.func23, Try.ntmps23
    go_wp2_with fail
    refine (piGraph_c _ _ _ L _ HR.out).mono ?_
    rintro e w1 ⟨rfl, hb1⟩
    rw [t1]
    have HB1 := hid hb1
    clear hb1
    go_wp2_with fail
    refine (piIdentity_c m k _ L _ (HR.out.keep HB1.out) hP).mono ?_
    rintro e w2 ⟨u, rfl, hF, hb2⟩
    have HF := hid (hF.mono HB1.out.size (Nat.le_refl _))
    have HB2 := hid (HB1.out.trans (hb2.mono HB1.out.size))
    obtain ⟨a3, n3, c3, rfl⟩ := hF.form3
    clear hF hb2
    go_wp2
    go_ret2
    exact ⟨_, by rw [HY.out]; rfl, by rw [HY.out]; exact HF.out, HB2.out⟩
  · have HE := hid (idpB_no t1)
    go_enter Try.func23, Try.ntmps23
    go_wp2_with fail
    refine (piGraph_c _ _ _ L _ HR.out).mono ?_
    rintro e w1 ⟨rfl, hb1⟩
    rw [t1]
    go_wp2
    go_ret2
    exact ⟨_, by rw [HE.out]; rfl, by rw [HE.out]; exact ints_nil _ _ _, hb1⟩

noncomputable def repB (n : Int) (L : List Lnk) (q : Int) : List (List Int) × Bool := if piGB n L q then (recL n.toNat L q.toNat, true) else ([], false)
theorem repB_yes {n : Int} {L : List Lnk} {q : Int} (h : piGB n L q = true) : repB n L q = (recL n.toNat L q.toNat, true) := by unfold repB; rw [h]; rfl
theorem repB_no {n : Int} {L : List Lnk} {q : Int} (h : piGB n L q = false) : repB n L q = ([], false) := by unfold repB; rw [h]; rfl
theorem tot_le2 {b : Nat} : ∀ {M : List (List Int)}, (∀ r ∈ M, r.length ≤ b) → tot M ≤ M.length * b
  | [], _ => by simp [tot]
  | r :: rs, h => by
    have h1 := h r (by simp)
    have h2 := tot_le2 (M := rs) (fun x hx => h x (by simp [hx]))
    rw [List.length_cons, Nat.succ_mul]
    simp only [tot] at h2 ⊢
    omega
theorem repB_tot (n : Int) (L : List Lnk) (q : Int) : tot (repB n L q).1 ≤ 1099511627776 := by
  rcases Bool.eq_false_or_eq_true (piGB n L q) with t | t
  · obtain ⟨m, k, _, _, hm, hk, hP⟩ := piGB_nat t
    rw [repB_yes t, hm, hk]
    have h1 := tot_le2 (M := recL m L k) (b := 5) (fun r hr => by have := (recL_mem hP hr).1; have := hP.n5; omega)
    have h2 := recL_len hP
    simp only; omega
  · rw [repB_no t]; simp [tot]
theorem piM_nil (n : Nat) (L : List Lnk) (q : Nat) : piM n L q [] = recL n L q := by
  unfold piM recL; simp

set_option maxRecDepth 100000 in
set_option maxHeartbeats 1000000 in
theorem sRecurrentPiles_u (n : Int) (v : Value) (L : List Lnk) (q : Int) (w : World) (h : RLinks w v L) :
    Calls Try.prog 26 #[.int .i64 n, v, .int .i64 q] w (RetMatU w (repB n L q)) := by
  have HR := hid h
  obtain ⟨a, cap, rfl⟩ := h.form
  clear h
  rcases Bool.eq_false_or_eq_true (piGB n L q) with t1 | t1
  · obtain ⟨m, k, hn, hq, hm, hk, hP⟩ := piGB_nat t1
    have hy := repB_yes t1
    rw [hm, hk, ← piM_nil] at hy
    subst hn
    subst hq
    have HY := hid hy
    have hm1 := hP.n1
    clear hm hk hy
    go_enter Try.func26, Try.ntmps26
    go_wp2_with fail
    refine (piGraph_c _ _ _ L _ HR.out).mono ?_
    rintro e w1 ⟨rfl, hb1⟩
    rw [t1]
    have HB1 := hid hb1
    clear hb1
    go_wp2_with fail
    refine (piGreatest_c m k _ L _ (HR.out.keep HB1.out) hP.good).mono ?_
    rintro e w2 ⟨u, rfl, hF, hb2⟩
    have HF := hid hF.r
    have HB2 := hid (HB1.out.trans (hb2.mono HB1.out.size))
    obtain ⟨a3, n3, c3, rfl⟩ := hF.form3
    clear hF hb2
    go_wp2_with fail
    refine (piAll_c m k L hP m _ _ _ [] _ _ (by simp) (HR.out.keep HB2.out) HF.out (ints_nil _ _ _) (Nat.le_refl _) ⟨Nat.zero_le _, fun i hi => by simp at hi⟩).mono ?_
    rintro e w3 ⟨u3, Z, rfl, hZ, hO, hZp, hb3⟩
    have HFM := hid ((hO.f (fun g hg => (hO.lt g hg).2) hZp).mono HB2.out.size (Nat.le_refl _))
    have HB3 := hid (HB2.out.trans (hb3.mono HB2.out.size))
    have HZ := hid hZ
    obtain ⟨a5, c5, rfl⟩ := hO.form
    clear hZ hO hZp hb3
    go_wp2
    go_ret2
    exact ⟨_, by rw [HY.out]; rfl, by rw [HY.out, ← HZ.out]; exact HFM.out, HB3.out⟩
  · have HE := hid (repB_no t1)
    go_enter Try.func26, Try.ntmps26
    go_wp2_with fail
    refine (piGraph_c _ _ _ L _ HR.out).mono ?_
    rintro e w1 ⟨rfl, hb1⟩
    rw [t1]
    go_wp2
    go_ret2
    exact ⟨_, by rw [HE.out]; rfl, by rw [HE.out]; exact mat_nil _ _ _, hb1⟩

set_option maxRecDepth 100000 in
set_option maxHeartbeats 2000000 in
theorem piIs_c (n : Int) (v : Value) (L : List Lnk) (q : Int) (u : Value) (d : List Int) (w : World) (h : RLinks w v L) (hd : RInts w u d) :
    Calls Try.prog 54 #[.int .i64 n, v, .int .i64 q, u] w fun e w' => e = .returned (.bool (piRB n L q d)) ∧ Below w.heap.size w w' := by
  have HR := hid h
  have HD := hid hd
  obtain ⟨a, cap, rfl⟩ := h.form
  obtain ⟨a2, cap2, rfl, _, _, hc⟩ := hd
  clear h hc
  rcases Bool.eq_false_or_eq_true (piAB n L q d) with t1 | t1
  · obtain ⟨m, k, hn, hq, hm, hk, hP, hl, hz, _⟩ := piAB_parts t1
    have HDL := hid (rints_lst HD.out hl)
    have hst := stB_iff hP.good (q := k) (f := fun i => d.getD i 0)
    have hsb : piRB n L q d = (stB m L k (fun i => d.getD i 0) && recB m L k (fun i => d.getD i 0)) := by unfold piRB piSB; rw [t1, hm, hk]; rfl
    subst hn
    subst hq
    have HZ := hid hz
    have HST := hid hst
    have HSB := hid hsb
    clear hm hk hl hz hst hsb
    go_enter Try.func54, Try.ntmps54
    go_wp2_with fail
    refine (piAsked_c _ _ _ _ L d _ HR.out HD.out).mono ?_
    rintro e w1 ⟨rfl, hb1⟩
    rw [t1]
    have HB1 := hid hb1
    clear hb1
    go_wp2_with fail
    refine (piNext_c m k _ _ L _ _ (HR.out.keep HB1.out) hP.good (HDL.out.keep HB1.out)).mono ?_
    rintro e w2 ⟨x, rfl, hx, hb2⟩
    have HB2 := hid (HB1.out.trans (hb2.mono HB1.out.size))
    clear hb2
    rcases hx with ⟨rfl, hs⟩ | ⟨v2, rfl, h1, h2, h3⟩
    · have HY : Hid (piRB (m : Int) L (k : Int) d = recB m L k (fun i => d.getD i 0)) := by show _ = _; rw [HSB.out, HST.out.2 hs]; rfl
      go_wp2_with fail
      refine (piRecurrent_c m k _ _ L _ _ (HR.out.keep HB2.out) hP (HDL.out.keep HB2.out) (HZ.out.mono (by decide)) hs).mono ?_
      rintro e w3 ⟨rfl, hb3⟩
      have HB3 := hid (HB2.out.trans (hb3.mono HB2.out.size))
      rw [← HY.out]
      clear hb3 hs
      go_wp2
      go_ret
      exact ⟨rfl, HB3.out⟩
    · have HY : Hid (piRB (m : Int) L (k : Int) d = false) := by
        show _ = _
        rw [HSB.out]
        cases hb : stB m L k (fun i => d.getD i 0) with
        | false => rfl
        | true => have := HST.out.1 hb v2 h1 h2; dsimp only at this h3; omega
      clear h1 h2 h3
      go_wp2
      go_ret
      exact ⟨ret_bool HY.out.symm, HB2.out⟩
  · have HE : Hid (piRB n L q d = false) := by show _ = _; unfold piRB; rw [piSB_no t1]; rfl
    go_enter Try.func54, Try.ntmps54
    go_wp2_with fail
    refine (piAsked_c _ _ _ _ L d _ HR.out HD.out).mono ?_
    rintro e w1 ⟨rfl, hb1⟩
    rw [t1]
    go_wp2
    go_ret
    exact ⟨ret_bool HE.out.symm, hb1⟩

/-- a recurrent pile of a valid graph -/
theorem piRB_parts {n : Int} {L : List Lnk} {q : Int} {d : List Int} (h : piRB n L q d = true) : ∃ m k : Nat, n = m ∧ q = k ∧ n.toNat = m ∧ q.toNat = k ∧ ∃ hP : PG m L k, d.length = m ∧ PilZ m k 50 (fun i => d.getD i 0) ∧ Gr.Rec (grL m L hP.good) k (fun i => d.getD i 0) ∧ piSB n L q d = true := by
  have hs : piSB n L q d = true := by unfold piRB at h; simp only [Bool.and_eq_true] at h; exact h.1
  have ha : piAB n L q d = true := by have := hs; unfold piSB at this; simp only [Bool.and_eq_true] at this; exact this.1
  obtain ⟨m, k, hn, hq, hm, hk, hP, hl, hz, _⟩ := piAB_parts ha
  refine ⟨m, k, hn, hq, hm, hk, hP, hl, hz, ?_, hs⟩
  unfold piRB at h
  rw [hm, hk] at h
  simp only [Bool.and_eq_true] at h
  exact (recB_iff hP.good).1 h.2
/-- sums of a pile, and the identity with sums of it -/
theorem ms_pil {n q : Nat} {L : List Lnk} (hP : PG n L q) {f : Nat → Int} (hf : PilZ n q 50 f) : ∀ k, PilZ n q 50 (Gr.ms (grL n L hP.good) q f k)
  | 0 => hf
  | k + 1 => (stb_pil hP ((ms_pil hP hf k).add hf)).mono (by decide)
theorem op_pil {n q : Nat} {L : List Lnk} (hP : PG n L q) {f : Nat → Int} (hf : PilZ n q 50 f) : ∀ k, PilZ n q 50 (Gr.op (grL n L hP.good) q f k)
  | 0 => (id_pil hP).mono (by decide)
  | k + 1 => (stb_pil hP ((op_pil hP hf k).add hf)).mono (by decide)
theorem same_eqv {n q : Nat} {L : List Lnk} (hG : GoodL n L) {f g : Nat → Int} (h1 : f q = 0) (h2 : g q = 0) : (lst n f = lst n g) ↔ Gr.Eqv (grL n L hG) q f g :=
  ⟨fun h v hv _ => lst_inj h v hv, fun h => lst_eqv hG h (by rw [h1, h2])⟩
noncomputable def ordN (n : Nat) (L : List Lnk) (q : Nat) (f : Nat → Int) : Nat := open Classical in if h : GoodL n L then Gr.ord (grL n L h) q f else 0
theorem ordN_eq {n : Nat} {L : List Lnk} {q : Nat} {f : Nat → Int} (h : GoodL n L) : ordN n L q f = Gr.ord (grL n L h) q f := by unfold ordN; rw [dif_pos h]
theorem ord_facts {n q : Nat} {L : List Lnk} (hP : PG n L q) {f : Nat → Int} (hz : PilZ n q 50 f) (hr : Gr.Rec (grL n L hP.good) q f) :
    lst n (Gr.ms (grL n L hP.good) q f (ordN n L q f)) = lst n (idF n L q hP.good) ∧ (∀ j, j < ordN n L q f → ¬ lst n (Gr.ms (grL n L hP.good) q f j) = lst n (idF n L q hP.good)) ∧ ordN n L q f ≤ 60466176 := by
  obtain ⟨W, _⟩ := Gr.wt8 (G := grL n L hP.good) hP.hq hP.con
  have h := Gr.ord_spec (G := grL n L hP.good) hP.hq W hP.con hr
  have h2 := Gr.ord_lt (G := grL n L hP.good) hP.hq W hP.con hr
  rw [ordN_eq hP.good]
  refine ⟨(same_eqv hP.good (ms_pil hP hz _).2 (id_pil hP).2).2 h.1, fun j hj e => h.2 j hj ((same_eqv hP.good (ms_pil hP hz _).2 (id_pil hP).2).1 e), ?_⟩
  have h3 : 36 ^ (grL n L hP.good).n ≤ 36 ^ 5 := Nat.pow_le_pow_right (by decide) hP.n5
  have h4 : 36 ^ 5 = 60466176 := by decide
  omega
noncomputable def orpB (n : Int) (L : List Lnk) (q : Int) (d : List Int) : Int × Bool := if piRB n L q d then ((ordN n.toNat L q.toNat (fun i => d.getD i 0) : Int) + 1, true) else (0, false)
theorem orpB_yes {n : Int} {L : List Lnk} {q : Int} {d : List Int} (h : piRB n L q d = true) : orpB n L q d = ((ordN n.toNat L q.toNat (fun i => d.getD i 0) : Int) + 1, true) := by unfold orpB; rw [h]; rfl
theorem orpB_no {n : Int} {L : List Lnk} {q : Int} {d : List Int} (h : piRB n L q d = false) : orpB n L q d = (0, false) := by unfold orpB; rw [h]; rfl

set_option maxRecDepth 100000 in
set_option maxHeartbeats 2000000 in
theorem sOrderOfPile_u (n : Int) (v : Value) (L : List Lnk) (q : Int) (u : Value) (d : List Int) (w : World) (h : RLinks w v L) (hd : RInts w u d) :
    Calls Try.prog 19 #[.int .i64 n, v, .int .i64 q, u] w (RetZC w (orpB n L q d)) := by
  have HR := hid h
  have HD := hid hd
  obtain ⟨a, cap, rfl⟩ := h.form
  obtain ⟨a2, cap2, rfl, _, _, hc⟩ := hd
  clear h hc
  rcases Bool.eq_false_or_eq_true (piRB n L q d) with t1 | t1
  · obtain ⟨m, k, hn, hq, hm, hk, hP, hl, hz, hr, _⟩ := piRB_parts t1
    have HDL := hid (rints_lst HD.out hl)
    have hy := orpB_yes t1
    obtain ⟨o1, o2, o3⟩ := ord_facts hP hz hr
    rw [hm, hk] at hy
    obtain ⟨f, hf⟩ : ∃ f : Nat → Int, (fun i => d.getD i 0) = f := ⟨_, rfl⟩
    rw [hf] at hy hz o1 o2 o3 HDL
    obtain ⟨O, hO⟩ : ∃ O, ordN m L k f = O := ⟨_, rfl⟩
    rw [hO] at hy o1 o2 o3
    subst hn
    subst hq
    have HY := hid hy
    have HZ := hid hz
    have HO1 := hid o1
    have HO2 := hid o2
    have HO3 := hid o3
    have hmm := hP.n1
    clear hm hk hy hz hr hf hO o1 o2 o3 hl
    go_enter Try.func19, Try.ntmps19
    go_wp2_with fail
    refine (piIs_c _ _ L _ _ d _ HR.out HD.out).mono ?_
    rintro e w1 ⟨rfl, hb1⟩
    rw [t1]
    have HB1 := hid hb1
    clear hb1
    go_wp2
    go_loopg [10, 11] (O + 1) (fun gk sv cv wr => ∃ (j : Nat) (a : Option Addr) (n c : Nat), sv = .slice a n c ∧ cv = .int .i64 ((j : Int) + 1) ∧ j ≤ O ∧ gk = O + 1 - j ∧ RInts wr (.slice a n c) (lst m (Gr.ms (grL m L hP.good) k f j)) ∧ Below w.heap.size w wr)
    case atStart => exact ⟨0, _, _, _, rfl, rfl, Nat.zero_le _, rfl, HDL.out.keep HB1.out, HB1.out⟩
    case round =>
      obtain ⟨j, a3, n3, c3, rfl, rfl, hj, rfl, hx, hb⟩ := hrel
      have HX := hid hx
      have HB := hid hb
      clear hx hb
      go_wp2_with fail
      refine (piIdentity_c m k _ L _ (HR.out.keep HB.out) hP).mono ?_
      rintro e w2 ⟨ui, rfl, hF, hb2⟩
      have HF := hid hF.r
      have HX2 := hid (HX.out.keep hb2)
      have HB2 := hid (HB.out.trans (hb2.mono HB.out.size))
      obtain ⟨a4, n4, c4, rfl⟩ := hF.form3
      clear hF hb2
      go_wp2_with fail
      refine (l1Same_c _ _ _ _ _ HX2.out HF.out).mono ?_
      rintro e w3 ⟨rfl, nd, rfl⟩
      by_cases hjo : j = O
      · have h1 : decide (lst m (Gr.ms (grL m L hP.good) k f j) = lst m (idF m L k hP.good)) = true := decide_eq_true (by rw [hjo]; exact HO1.out)
        rw [h1]
        have HJ := hid hjo
        clear hjo h1
        go_wp2
        go_ret2
        exact ⟨by rw [HY.out, ← HJ.out]; rfl, below_drewN HB2.out nd⟩
      · have h1 : decide (lst m (Gr.ms (grL m L hP.good) k f j) = lst m (idF m L k hP.good)) = false := decide_eq_false (HO2.out j (by omega))
        rw [h1]
        clear h1
        have f1 : IntKind.i64.wrap ((j : Int) + 1 + 1) = (j : Int) + 1 + 1 := IntWalk.i64_in _ (by have := HO3.out; omega)
        go_wp2_with fail
        refine (piSum_c m k _ _ _ L _ f _ (RLinks.drewN (HR.out.keep HB2.out)) hP (HX2.out.drewN) ((HDL.out.keep HB2.out).drewN) ((ms_pil hP HZ.out j).mono (by decide)) (HZ.out.mono (by decide))).mono ?_
        rintro e w4 ⟨us, rfl, hF4, hb4⟩
        have HF4 := hid hF4.r
        have HB4 := hid ((below_drewN HB2.out nd).trans (hb4.mono (below_drewN HB2.out nd).size))
        obtain ⟨a5, n5, c5, rfl⟩ := hF4.form3
        clear hF4 hb4
        go_wp2
        go_roundg (O + 1 - (j + 1))
        case rel => exact ⟨j + 1, _, _, _, rfl, by rw [show ((j + 1 : Nat) : Int) + 1 = (j : Int) + 1 + 1 by omega], by omega, rfl, HF4.out, HB4.out⟩
        case measure => omega
  · have HE := hid (orpB_no t1)
    go_enter Try.func19, Try.ntmps19
    go_wp2_with fail
    refine (piIs_c _ _ L _ _ d _ HR.out HD.out).mono ?_
    rintro e w1 ⟨rfl, hb1⟩
    rw [t1]
    go_wp2
    go_ret2
    exact ⟨by rw [HE.out]; rfl, hb1⟩

noncomputable def oppL (n : Nat) (L : List Lnk) (q : Nat) (f : Nat → Int) : List Int := open Classical in if h : GoodL n L then lst n (Gr.opp (grL n L h) q f) else []
theorem oppL_eq {n : Nat} {L : List Lnk} {q : Nat} {f : Nat → Int} (h : GoodL n L) : oppL n L q f = lst n (Gr.opp (grL n L h) q f) := by unfold oppL; rw [dif_pos h]
noncomputable def oppB (n : Int) (L : List Lnk) (q : Int) (d : List Int) : List Int × Bool := if piRB n L q d then (oppL n.toNat L q.toNat (fun i => d.getD i 0), true) else ([], false)
theorem oppB_yes {n : Int} {L : List Lnk} {q : Int} {d : List Int} (h : piRB n L q d = true) : oppB n L q d = (oppL n.toNat L q.toNat (fun i => d.getD i 0), true) := by unfold oppB; rw [h]; rfl
theorem oppB_no {n : Int} {L : List Lnk} {q : Int} {d : List Int} (h : piRB n L q d = false) : oppB n L q d = ([], false) := by unfold oppB; rw [h]; rfl
theorem oppB_len (n : Int) (L : List Lnk) (q : Int) (d : List Int) : (oppB n L q d).1.length ≤ 1048576 := by
  rcases Bool.eq_false_or_eq_true (piRB n L q d) with t | t
  · obtain ⟨m, k, _, _, hm, hk, hP, _⟩ := piRB_parts t
    rw [oppB_yes t, hm, hk, oppL_eq hP.good, lst_len]
    have := hP.n5; omega
  · rw [oppB_no t]; simp
/-- the identity with j + 1 of a pile is the identity just if j + 1 of it are -/
theorem op_facts {n q : Nat} {L : List Lnk} (hP : PG n L q) {f : Nat → Int} (hz : PilZ n q 50 f) (hr : Gr.Rec (grL n L hP.good) q f) :
    oppL n L q f = lst n (Gr.op (grL n L hP.good) q f (ordN n L q f)) ∧ lst n (Gr.op (grL n L hP.good) q f (ordN n L q f + 1)) = lst n (idF n L q hP.good) ∧ (∀ j, j < ordN n L q f → ¬ lst n (Gr.op (grL n L hP.good) q f (j + 1)) = lst n (idF n L q hP.good)) := by
  obtain ⟨W, _⟩ := Gr.wt8 (G := grL n L hP.good) hP.hq hP.con
  obtain ⟨h1, h2, _⟩ := ord_facts hP hz hr
  have ho : ∀ j, lst n (Gr.op (grL n L hP.good) q f (j + 1)) = lst n (Gr.ms (grL n L hP.good) q f j) := fun j => (same_eqv hP.good (op_pil hP hz _).2 (ms_pil hP hz _).2).2 (Gr.op_ms (G := grL n L hP.good) hP.hq W hP.con hr j)
  refine ⟨by rw [oppL_eq hP.good, ordN_eq hP.good]; rfl, by rw [ho]; exact h1, fun j hj => by rw [ho]; exact h2 j hj⟩

set_option maxRecDepth 100000 in
set_option maxHeartbeats 2000000 in
theorem sOppositePile_u (n : Int) (v : Value) (L : List Lnk) (q : Int) (u : Value) (d : List Int) (w : World) (h : RLinks w v L) (hd : RInts w u d) :
    Calls Try.prog 17 #[.int .i64 n, v, .int .i64 q, u] w (RetIB w (oppB n L q d)) := by
  have HR := hid h
  have HD := hid hd
  obtain ⟨a, cap, rfl⟩ := h.form
  obtain ⟨a2, cap2, rfl, _, _, hc⟩ := hd
  clear h hc
  rcases Bool.eq_false_or_eq_true (piRB n L q d) with t1 | t1
  · obtain ⟨m, k, hn, hq, hm, hk, hP, hl, hz, hr, _⟩ := piRB_parts t1
    have HDL := hid (rints_lst HD.out hl)
    have hy := oppB_yes t1
    obtain ⟨o0, o1, o2⟩ := op_facts hP hz hr
    rw [hm, hk] at hy
    obtain ⟨f, hf⟩ : ∃ f : Nat → Int, (fun i => d.getD i 0) = f := ⟨_, rfl⟩
    rw [hf] at hy hz o0 o1 o2 HDL
    obtain ⟨O, hO⟩ : ∃ O, ordN m L k f = O := ⟨_, rfl⟩
    rw [hO] at o0 o1 o2
    rw [o0] at hy
    subst hn
    subst hq
    have HY := hid hy
    have HZ := hid hz
    have HO1 := hid o1
    have HO2 := hid o2
    have hmm := hP.n1
    clear hm hk hy hz hr hf hO o1 o2 o0 hl
    go_enter Try.func17, Try.ntmps17
    go_wp2_with fail
    refine (piIs_c _ _ L _ _ d _ HR.out HD.out).mono ?_
    rintro e w1 ⟨rfl, hb1⟩
    rw [t1]
    have HB1 := hid hb1
    clear hb1
    go_wp2_with fail
    refine (piIdentity_c m k _ L _ (HR.out.keep HB1.out) hP).mono ?_
    rintro e w2 ⟨ui, rfl, hF, hb2⟩
    have HF := hid (hF.mono HB1.out.size (Nat.le_refl _))
    have HB2 := hid (HB1.out.trans (hb2.mono HB1.out.size))
    obtain ⟨a4, n4, c4, rfl⟩ := hF.form3
    clear hF hb2
    go_wp2
    go_loopg [10] (O + 1) (fun gk sv wr => ∃ (j : Nat) (a : Option Addr) (n c : Nat), sv = .slice a n c ∧ j ≤ O ∧ gk = O + 1 - j ∧ FInts wr w.heap.size wr.heap.size (.slice a n c) (lst m (Gr.op (grL m L hP.good) k f j)) ∧ Below w.heap.size w wr)
    case atStart => exact ⟨0, _, _, _, rfl, Nat.zero_le _, rfl, HF.out, HB2.out⟩
    case round =>
      obtain ⟨j, a3, n3, c3, rfl, hj, rfl, hx, hb⟩ := hrel
      have HX := hid hx
      have HB := hid hb
      clear hx hb
      go_wp2_with fail
      refine (piSum_c m k _ _ _ L _ f _ (HR.out.keep HB.out) hP HX.out.r (HDL.out.keep HB.out) ((op_pil hP HZ.out j).mono (by decide)) (HZ.out.mono (by decide))).mono ?_
      rintro e w4 ⟨us, rfl, hF4, hb4⟩
      have HF4 := hid (hF4.mono HB.out.size (Nat.le_refl _))
      have HX4 := hid ((HX.out.keep hb4).mono (Nat.le_refl _) hb4.size)
      have HB4 := hid (HB.out.trans (hb4.mono HB.out.size))
      obtain ⟨a5, n5, c5, rfl⟩ := hF4.form3
      clear hF4 hb4
      go_wp2_with fail
      refine (piIdentity_c m k _ L _ (HR.out.keep HB4.out) hP).mono ?_
      rintro e w5 ⟨ui, rfl, hF5, hb5⟩
      have HI5 := hid hF5.r
      have HF5 := hid ((HF4.out.keep hb5).mono (Nat.le_refl _) hb5.size)
      have HX5 := hid ((HX4.out.keep hb5).mono (Nat.le_refl _) hb5.size)
      have HB5 := hid (HB4.out.trans (hb5.mono HB4.out.size))
      obtain ⟨a6, n6, c6, rfl⟩ := hF5.form3
      clear hF5 hb5
      go_wp2_with fail
      refine (l1Same_c _ _ _ _ _ HF5.out.r HI5.out).mono ?_
      rintro e w6 ⟨rfl, nd, rfl⟩
      by_cases hjo : j = O
      · have h1 : decide (lst m (Gr.stb (grL m L hP.good) k (fun i => Gr.op (grL m L hP.good) k f j i + f i)) = lst m (idF m L k hP.good)) = true := decide_eq_true (by rw [hjo]; exact HO1.out)
        rw [h1]
        have HJ := hid hjo
        clear hjo h1
        go_wp2
        go_ret2
        exact ⟨_, by rw [HY.out]; rfl, by rw [HY.out, ← HJ.out]; exact FInts.drewN HX5.out, below_drewN HB5.out nd⟩
      · have h1 : decide (lst m (Gr.stb (grL m L hP.good) k (fun i => Gr.op (grL m L hP.good) k f j i + f i)) = lst m (idF m L k hP.good)) = false := decide_eq_false (HO2.out j (by omega))
        rw [h1]
        clear h1
        go_wp2
        go_roundg (O + 1 - (j + 1))
        case rel => exact ⟨j + 1, _, _, _, rfl, by omega, rfl, FInts.drewN HF5.out, below_drewN HB5.out nd⟩
        case measure => omega
  · have HE := hid (oppB_no t1)
    go_enter Try.func17, Try.ntmps17
    go_wp2_with fail
    refine (piIs_c _ _ L _ _ d _ HR.out HD.out).mono ?_
    rintro e w1 ⟨rfl, hb1⟩
    rw [t1]
    go_wp2
    go_ret2
    exact ⟨_, by rw [HE.out]; rfl, by rw [HE.out]; exact ints_nil _ _ _, hb1⟩

end Go.Proofs.Ytifdhapaonideaa
