/- Firing a script, a set, a vertex: both programs' (printed by wip/firegen2.py). -/
import Derived.Test.YtlehhfmbdcmpoaaFireQ
namespace Go.Proofs.Ytlehhfmbdcmpoaa
open Go.RowKit
open Go.Lib (hid)

theorem risB_memF {lo hi : Int} : ∀ {p : Option Int} {l : List Int}, risB lo hi p l = true → ∀ x ∈ l, lo ≤ x ∧ x ≤ hi := by
  intro p l
  induction l generalizing p with
  | nil => intro _ x hx; simp at hx
  | cons y ys ih =>
    intro h x hx
    rw [risB_cons, Bool.and_eq_true, Bool.and_eq_true] at h
    rcases List.mem_cons.1 hx with rfl | hx
    · exact inB_iff.1 h.1
    · exact ih h.2.2 x hx
theorem ris_in {m : Nat} {l : List Int} (h : risB 0 ((m : Int) - 1) none l = true) : ∀ x ∈ l, 0 ≤ x ∧ x < (m : Int) := fun x hx => by
  have := risB_memF h x hx; omega
theorem lst_all {n : Nat} {f : Nat → Int} {B : Int} (h : allB (lst n f) (-B) B = true) : ∀ i, i < n → -B ≤ f i ∧ f i ≤ B := fun i hi => allB_mem h (f i) (by rw [mem_lst]; exact ⟨i, hi, rfl⟩)
set_option maxRecDepth 100000 in
set_option maxHeartbeats 4000000 in
theorem sFireScript_u (n : Int) (v u : Value) (L : List Lnk) (d : List Int) (x : Value) (s : List Int) (w : World) (h : RLinks w v L) (hd : RInts w u d) (hx : RInts w x s) :
    Calls Try.prog 22 #[.int .i64 n, v, u, x] w (RetIB w (fscB n L d s)) := by
  have HR := hid h
  have HD := hid hd
  obtain ⟨a, cap, rfl⟩ := h.form
  obtain ⟨a2, n2, cap2, rfl⟩ : ∃ a n c, u = .slice a n c := by obtain ⟨a, cap, rfl, _⟩ := hd; exact ⟨_, _, _, rfl⟩
  have HX := hid hx
  obtain ⟨a3, n3, cap3, rfl, HN⟩ : ∃ a n c, x = .slice a n c ∧ Hid (n = s.length) := by obtain ⟨a, cap, rfl, _⟩ := hx; exact ⟨_, _, _, rfl, rfl⟩
  clear h hd hx
  rcases Bool.eq_false_or_eq_true (divB n L d) with t | t
  · obtain ⟨m, hm, rfl, hG, _, hdl, hdb, _⟩ := divB_parts t
    have hm8 := hG.n8
    have hm1 := hG.n1
    have hm2 : ((m : Int)).toNat = m := by omega
    have HT := hid t
    have HDL := hid (rints_lst HD.out hdl)
    obtain ⟨f, hf⟩ : ∃ f : Nat → Int, (fun i => d.getD i 0) = f := ⟨_, rfl⟩
    have hbf : ∀ i, -1000 ≤ f i ∧ f i ≤ 1000 := fun i => by rw [← hf]; exact hdb i
    rw [hf] at HDL
    have HBF := hid hbf
    have f1 : IntKind.i64.wrap ((m : Int) - 1) = (m : Int) - 1 := IntWalk.i64_in _ (by omega)
    rcases Bool.eq_false_or_eq_true ((s.length : Int) == (m : Int)) with t1 | t1
    · have HC1 := hid t1
      have hz : ((n3 : Int) == (m : Int)) = true := by rw [HN.out]; exact t1
      have hz2 : ((n3 : Int) != (m : Int)) = false := by unfold bne; rw [hz]; rfl
      clear t1
      rcases Bool.eq_false_or_eq_true (allB s (-20) 20) with t2 | t2
      · have HC2 := hid t2
        clear t2
        obtain ⟨sc, hsc⟩ : ∃ sc : Nat → Int, (fun i => s.getD i 0) = sc := ⟨_, rfl⟩
        have HE : Hid (fscB (m : Int) L d s = toldB (lst m ((grL m L hG).after f sc))) := by
          show _ = _
          unfold fscB
          rw [HT.out, HC1.out, HC2.out, hm2, ← hsc, ← hf]; rfl
        have hsl : s.length = m := by have := beq_iff_eq.1 HC1.out; omega
        have HXL := hid (rints_lst HX.out hsl)
        rw [hsc] at HXL
        have HSB : Hid (∀ i, -20 ≤ sc i ∧ sc i ≤ 20) := fun i => by rw [← hsc]; exact getD_bound (allB_mem HC2.out) (by decide) i
        clear hf hbf hdb hdl hm hsc
        rcases Bool.eq_false_or_eq_true (allB (lst m ((grL m L hG).after f sc)) (-1000) 1000) with t3 | t3
        · have HA := hid t3
          have HT3 := hid (toldB_yes t3)
          clear t3
          go_enter Try.func22, Try.ntmps22
          go_wp2_with fail
          refine (chBoth_c (m : Int) _ _ L d _ HR.out HD.out).mono ?_
          rintro e w1 ⟨rfl, hb1⟩
          have HBw1 := hid hb1
          have R_w1 := hid (HR.out.keep hb1)
          have D_w1 := hid (HD.out.keep hb1)
          have DL_w1 := hid (HDL.out.keep hb1)
          have XL_w1 := hid (HXL.out.keep hb1)
          have X_w1 := hid (HX.out.keep hb1)
          clear hb1
          rw [HT.out]
          go_wp2_with fail
          refine (l1All_c _ s _ _ _ X_w1.out).mono ?_
          rintro e w' ⟨rfl, rfl⟩
          rw [HC2.out]
          have HW0 := hid HBw1.out.size
          go_wp2_with fail
          refine (chFire_c m _ _ _ L f sc _ R_w1.out hG DL_w1.out XL_w1.out (fun i _ => by have := HBF.out i; omega) (fun i _ => by have := HSB.out i; omega)).mono ?_
          rintro e w2 ⟨uf, rfl, hF2, hb2⟩
          have HBw2 := hid (HBw1.out.trans (hb2.mono HBw1.out.size))
          clear hb2
          have HF := hid (hF2.mono (lo' := w.heap.size) (hi' := w2.heap.size) (by have := HW0.out; omega) (Nat.le_refl _))
          clear hF2
          obtain ⟨a7, n7, c7, rfl⟩ := HF.out.form3
          go_wp2_with fail
          refine (chIf_t m _ _ w _ HBw2.out HF.out HA.out).mono ?_
          rintro e w' ⟨y, he, hf, hb⟩
          rw [HT3.out] at he hf
          subst he
          obtain ⟨a9, n9, c9, rfl⟩ := hf.form3
          have HO := hid (And.intro hf hb)
          clear hf hb
          go_wp2
          go_ret2
          exact ⟨_, by rw [HE.out, HT3.out]; rfl, by rw [HE.out, HT3.out]; exact HO.out.1, HO.out.2⟩
        · have HA := hid t3
          have HT3 := hid (toldB_no t3)
          clear t3
          go_enter Try.func22, Try.ntmps22
          go_wp2_with fail
          refine (chBoth_c (m : Int) _ _ L d _ HR.out HD.out).mono ?_
          rintro e w1 ⟨rfl, hb1⟩
          have HBw1 := hid hb1
          have R_w1 := hid (HR.out.keep hb1)
          have D_w1 := hid (HD.out.keep hb1)
          have DL_w1 := hid (HDL.out.keep hb1)
          have XL_w1 := hid (HXL.out.keep hb1)
          have X_w1 := hid (HX.out.keep hb1)
          clear hb1
          rw [HT.out]
          go_wp2_with fail
          refine (l1All_c _ s _ _ _ X_w1.out).mono ?_
          rintro e w' ⟨rfl, rfl⟩
          rw [HC2.out]
          have HW0 := hid HBw1.out.size
          go_wp2_with fail
          refine (chFire_c m _ _ _ L f sc _ R_w1.out hG DL_w1.out XL_w1.out (fun i _ => by have := HBF.out i; omega) (fun i _ => by have := HSB.out i; omega)).mono ?_
          rintro e w2 ⟨uf, rfl, hF2, hb2⟩
          have HBw2 := hid (HBw1.out.trans (hb2.mono HBw1.out.size))
          clear hb2
          have HF := hid (hF2.mono (lo' := w.heap.size) (hi' := w2.heap.size) (by have := HW0.out; omega) (Nat.le_refl _))
          clear hF2
          obtain ⟨a7, n7, c7, rfl⟩ := HF.out.form3
          go_wp2_with fail
          refine (chIf_f m _ _ w _ HBw2.out HF.out HA.out).mono ?_
          rintro e w' ⟨y, he, hf, hb⟩
          rw [HT3.out] at he hf
          subst he
          obtain ⟨a9, n9, c9, rfl⟩ := hf.form3
          have HO := hid (And.intro hf hb)
          clear hf hb
          go_wp2
          go_ret2
          exact ⟨_, by rw [HE.out, HT3.out]; rfl, by rw [HE.out, HT3.out]; exact HO.out.1, HO.out.2⟩
      · have HC2 := hid t2
        clear t2
        have HE : Hid (fscB (m : Int) L d s = ([], false)) := by show _ = _; unfold fscB; rw [HT.out, HC1.out, HC2.out]; rfl
        clear hG hdl hdb hf hbf hm
        go_enter Try.func22, Try.ntmps22
        go_wp2_with fail
        refine (chBoth_c (m : Int) _ _ L d _ HR.out HD.out).mono ?_
        rintro e w1 ⟨rfl, hb1⟩
        have HBw1 := hid hb1
        have R_w1 := hid (HR.out.keep hb1)
        have D_w1 := hid (HD.out.keep hb1)
        have DL_w1 := hid (HDL.out.keep hb1)
        have X_w1 := hid (HX.out.keep hb1)
        clear hb1
        rw [HT.out]
        go_wp2_with fail
        refine (l1All_c _ s _ _ _ X_w1.out).mono ?_
        rintro e w' ⟨rfl, rfl⟩
        rw [HC2.out]
        go_wp2
        go_ret2
        exact ⟨_, by rw [HE.out]; rfl, by rw [HE.out]; exact ints_nil _ _ _, HBw1.out⟩
    · have HC1 := hid t1
      have hz : ((n3 : Int) == (m : Int)) = false := by rw [HN.out]; exact t1
      have hz2 : ((n3 : Int) != (m : Int)) = true := by unfold bne; rw [hz]; rfl
      clear t1
      have HE : Hid (fscB (m : Int) L d s = ([], false)) := by show _ = _; unfold fscB; rw [HT.out, HC1.out]; rfl
      clear hG hdl hdb hf hbf hm
      go_enter Try.func22, Try.ntmps22
      go_wp2_with fail
      refine (chBoth_c (m : Int) _ _ L d _ HR.out HD.out).mono ?_
      rintro e w1 ⟨rfl, hb1⟩
      have HBw1 := hid hb1
      have R_w1 := hid (HR.out.keep hb1)
      have D_w1 := hid (HD.out.keep hb1)
      have DL_w1 := hid (HDL.out.keep hb1)
      have X_w1 := hid (HX.out.keep hb1)
      clear hb1
      rw [HT.out]
      go_wp2
      go_ret2
      exact ⟨_, by rw [HE.out]; rfl, by rw [HE.out]; exact ints_nil _ _ _, HBw1.out⟩
  · have HE : Hid (fscB n L d s = ([], false)) := by show _ = _; unfold fscB; rw [t]; rfl
    go_enter Try.func22, Try.ntmps22
    go_wp2_with fail
    refine (chBoth_c n _ _ L d _ HR.out HD.out).mono ?_
    rintro e w1 ⟨rfl, hb1⟩
    have HBw1 := hid hb1
    clear hb1
    rw [t]
    go_wp2
    go_ret2
    exact ⟨_, by rw [HE.out]; rfl, by rw [HE.out]; exact ints_nil _ _ _, HBw1.out⟩
set_option maxRecDepth 100000 in
set_option maxHeartbeats 4000000 in
theorem iFireScript_u (n : Int) (v u : Value) (L : List Lnk) (d : List Int) (x : Value) (s : List Int) (w : World) (h : RLinks w v L) (hd : RInts w u d) (hx : RInts w x s) :
    Calls Try.prog 21 #[.int .i64 n, v, u, x] w (RetIB w (fscB n L d s)) := by
  have HR := hid h
  have HD := hid hd
  obtain ⟨a, cap, rfl⟩ := h.form
  obtain ⟨a2, n2, cap2, rfl⟩ : ∃ a n c, u = .slice a n c := by obtain ⟨a, cap, rfl, _⟩ := hd; exact ⟨_, _, _, rfl⟩
  have HX := hid hx
  obtain ⟨a3, n3, cap3, rfl, HN⟩ : ∃ a n c, x = .slice a n c ∧ Hid (n = s.length) := by obtain ⟨a, cap, rfl, _⟩ := hx; exact ⟨_, _, _, rfl, rfl⟩
  clear h hd hx
  rcases Bool.eq_false_or_eq_true (divB n L d) with t | t
  · obtain ⟨m, hm, rfl, hG, _, hdl, hdb, _⟩ := divB_parts t
    have hm8 := hG.n8
    have hm1 := hG.n1
    have hm2 : ((m : Int)).toNat = m := by omega
    have HT := hid t
    have HDL := hid (rints_lst HD.out hdl)
    obtain ⟨f, hf⟩ : ∃ f : Nat → Int, (fun i => d.getD i 0) = f := ⟨_, rfl⟩
    have hbf : ∀ i, -1000 ≤ f i ∧ f i ≤ 1000 := fun i => by rw [← hf]; exact hdb i
    rw [hf] at HDL
    have HBF := hid hbf
    have f1 : IntKind.i64.wrap ((m : Int) - 1) = (m : Int) - 1 := IntWalk.i64_in _ (by omega)
    rcases Bool.eq_false_or_eq_true ((s.length : Int) == (m : Int)) with t1 | t1
    · have HC1 := hid t1
      have hz : ((n3 : Int) == (m : Int)) = true := by rw [HN.out]; exact t1
      have hz2 : ((n3 : Int) != (m : Int)) = false := by unfold bne; rw [hz]; rfl
      clear t1
      rcases Bool.eq_false_or_eq_true (allB s (-20) 20) with t2 | t2
      · have HC2 := hid t2
        clear t2
        obtain ⟨sc, hsc⟩ : ∃ sc : Nat → Int, (fun i => s.getD i 0) = sc := ⟨_, rfl⟩
        have HE : Hid (fscB (m : Int) L d s = toldB (lst m ((grL m L hG).after f sc))) := by
          show _ = _
          unfold fscB
          rw [HT.out, HC1.out, HC2.out, hm2, ← hsc, ← hf]; rfl
        have hsl : s.length = m := by have := beq_iff_eq.1 HC1.out; omega
        have HXL := hid (rints_lst HX.out hsl)
        rw [hsc] at HXL
        have HSB : Hid (∀ i, -20 ≤ sc i ∧ sc i ≤ 20) := fun i => by rw [← hsc]; exact getD_bound (allB_mem HC2.out) (by decide) i
        clear hf hbf hdb hdl hm hsc
        rcases Bool.eq_false_or_eq_true (allB (lst m ((grL m L hG).after f sc)) (-1000) 1000) with t3 | t3
        · have HA := hid t3
          have HT3 := hid (toldB_yes t3)
          clear t3
          go_enter Try.func21, Try.ntmps21
          go_wp2_with fail
          refine (withDiv_yes m _ _ L d _ HR.out HD.out HT.out).mono ?_
          rintro e w1 ⟨g, rfl, hg1, hb1⟩
          have HBw1 := hid hb1
          have R_w1 := hid (HR.out.keep hb1)
          have D_w1 := hid (HD.out.keep hb1)
          have DL_w1 := hid (HDL.out.keep hb1)
          have XL_w1 := hid (HXL.out.keep hb1)
          have X_w1 := hid (HX.out.keep hb1)
          have G_w1 := hid hg1
          clear hb1 hg1
          go_wp2_with fail
          refine (areChips_c m _ L _ s 20 _ G_w1.out X_w1.out (by decide)).mono ?_
          rintro e w2 ⟨rfl, hb2⟩
          have HBw2 := hid (HBw1.out.trans (hb2.mono HBw1.out.size))
          have R_w2 := hid (R_w1.out.keep hb2)
          have D_w2 := hid (D_w1.out.keep hb2)
          have DL_w2 := hid (DL_w1.out.keep hb2)
          have XL_w2 := hid (XL_w1.out.keep hb2)
          have X_w2 := hid (X_w1.out.keep hb2)
          have G_w2 := hid (G_w1.out.keep hb2)
          clear hb2
          rw [HC1.out, HC2.out]
          have HW0 := hid HBw2.out.size
          go_wp2_with fail
          refine (fireScript_c m L hG _ _ _ _ G_w2.out f sc DL_w2.out XL_w2.out (fun i _ => HBF.out i) (fun i _ => HSB.out i)).mono ?_
          rintro e w3 ⟨uf, rfl, hF3, hb3⟩
          have HBw3 := hid (HBw2.out.trans (hb3.mono HBw2.out.size))
          have G_w3 := hid (G_w2.out.keep hb3)
          clear hb3
          have HF := hid (hF3.mono (lo' := w.heap.size) (hi' := w3.heap.size) (by have := HW0.out; omega) (Nat.le_refl _))
          clear hF3
          obtain ⟨a7, n7, c7, rfl⟩ := HF.out.form3
          go_wp2_with fail
          refine (told_t m _ L _ _ w _ G_w3.out HBw3.out HF.out HA.out).mono ?_
          rintro e w' ⟨y, he, hf, hb⟩
          rw [HT3.out] at he hf
          subst he
          obtain ⟨a9, n9, c9, rfl⟩ := hf.form3
          have HO := hid (And.intro hf hb)
          clear hf hb
          go_wp2
          go_ret2
          exact ⟨_, by rw [HE.out, HT3.out]; rfl, by rw [HE.out, HT3.out]; exact HO.out.1, HO.out.2⟩
        · have HA := hid t3
          have HT3 := hid (toldB_no t3)
          clear t3
          go_enter Try.func21, Try.ntmps21
          go_wp2_with fail
          refine (withDiv_yes m _ _ L d _ HR.out HD.out HT.out).mono ?_
          rintro e w1 ⟨g, rfl, hg1, hb1⟩
          have HBw1 := hid hb1
          have R_w1 := hid (HR.out.keep hb1)
          have D_w1 := hid (HD.out.keep hb1)
          have DL_w1 := hid (HDL.out.keep hb1)
          have XL_w1 := hid (HXL.out.keep hb1)
          have X_w1 := hid (HX.out.keep hb1)
          have G_w1 := hid hg1
          clear hb1 hg1
          go_wp2_with fail
          refine (areChips_c m _ L _ s 20 _ G_w1.out X_w1.out (by decide)).mono ?_
          rintro e w2 ⟨rfl, hb2⟩
          have HBw2 := hid (HBw1.out.trans (hb2.mono HBw1.out.size))
          have R_w2 := hid (R_w1.out.keep hb2)
          have D_w2 := hid (D_w1.out.keep hb2)
          have DL_w2 := hid (DL_w1.out.keep hb2)
          have XL_w2 := hid (XL_w1.out.keep hb2)
          have X_w2 := hid (X_w1.out.keep hb2)
          have G_w2 := hid (G_w1.out.keep hb2)
          clear hb2
          rw [HC1.out, HC2.out]
          have HW0 := hid HBw2.out.size
          go_wp2_with fail
          refine (fireScript_c m L hG _ _ _ _ G_w2.out f sc DL_w2.out XL_w2.out (fun i _ => HBF.out i) (fun i _ => HSB.out i)).mono ?_
          rintro e w3 ⟨uf, rfl, hF3, hb3⟩
          have HBw3 := hid (HBw2.out.trans (hb3.mono HBw2.out.size))
          have G_w3 := hid (G_w2.out.keep hb3)
          clear hb3
          have HF := hid (hF3.mono (lo' := w.heap.size) (hi' := w3.heap.size) (by have := HW0.out; omega) (Nat.le_refl _))
          clear hF3
          obtain ⟨a7, n7, c7, rfl⟩ := HF.out.form3
          go_wp2_with fail
          refine (told_f m _ L _ _ w _ G_w3.out HBw3.out HF.out HA.out).mono ?_
          rintro e w' ⟨y, he, hf, hb⟩
          rw [HT3.out] at he hf
          subst he
          obtain ⟨a9, n9, c9, rfl⟩ := hf.form3
          have HO := hid (And.intro hf hb)
          clear hf hb
          go_wp2
          go_ret2
          exact ⟨_, by rw [HE.out, HT3.out]; rfl, by rw [HE.out, HT3.out]; exact HO.out.1, HO.out.2⟩
      · have HC2 := hid t2
        clear t2
        have HE : Hid (fscB (m : Int) L d s = ([], false)) := by show _ = _; unfold fscB; rw [HT.out, HC1.out, HC2.out]; rfl
        clear hG hdl hdb hf hbf hm
        go_enter Try.func21, Try.ntmps21
        go_wp2_with fail
        refine (withDiv_yes m _ _ L d _ HR.out HD.out HT.out).mono ?_
        rintro e w1 ⟨g, rfl, hg1, hb1⟩
        have HBw1 := hid hb1
        have R_w1 := hid (HR.out.keep hb1)
        have D_w1 := hid (HD.out.keep hb1)
        have DL_w1 := hid (HDL.out.keep hb1)
        have X_w1 := hid (HX.out.keep hb1)
        have G_w1 := hid hg1
        clear hb1 hg1
        go_wp2_with fail
        refine (areChips_c m _ L _ s 20 _ G_w1.out X_w1.out (by decide)).mono ?_
        rintro e w2 ⟨rfl, hb2⟩
        have HBw2 := hid (HBw1.out.trans (hb2.mono HBw1.out.size))
        have R_w2 := hid (R_w1.out.keep hb2)
        have D_w2 := hid (D_w1.out.keep hb2)
        have DL_w2 := hid (DL_w1.out.keep hb2)
        have X_w2 := hid (X_w1.out.keep hb2)
        have G_w2 := hid (G_w1.out.keep hb2)
        clear hb2
        rw [HC1.out, HC2.out]
        go_wp2
        go_ret2
        exact ⟨_, by rw [HE.out]; rfl, by rw [HE.out]; exact ints_nil _ _ _, HBw2.out⟩
    · have HC1 := hid t1
      have hz : ((n3 : Int) == (m : Int)) = false := by rw [HN.out]; exact t1
      have hz2 : ((n3 : Int) != (m : Int)) = true := by unfold bne; rw [hz]; rfl
      clear t1
      have HE : Hid (fscB (m : Int) L d s = ([], false)) := by show _ = _; unfold fscB; rw [HT.out, HC1.out]; rfl
      clear hG hdl hdb hf hbf hm
      go_enter Try.func21, Try.ntmps21
      go_wp2_with fail
      refine (withDiv_yes m _ _ L d _ HR.out HD.out HT.out).mono ?_
      rintro e w1 ⟨g, rfl, hg1, hb1⟩
      have HBw1 := hid hb1
      have R_w1 := hid (HR.out.keep hb1)
      have D_w1 := hid (HD.out.keep hb1)
      have DL_w1 := hid (HDL.out.keep hb1)
      have X_w1 := hid (HX.out.keep hb1)
      have G_w1 := hid hg1
      clear hb1 hg1
      go_wp2_with fail
      refine (areChips_c m _ L _ s 20 _ G_w1.out X_w1.out (by decide)).mono ?_
      rintro e w2 ⟨rfl, hb2⟩
      have HBw2 := hid (HBw1.out.trans (hb2.mono HBw1.out.size))
      have R_w2 := hid (R_w1.out.keep hb2)
      have D_w2 := hid (D_w1.out.keep hb2)
      have DL_w2 := hid (DL_w1.out.keep hb2)
      have X_w2 := hid (X_w1.out.keep hb2)
      have G_w2 := hid (G_w1.out.keep hb2)
      clear hb2
      rw [HC1.out, Bool.false_and]
      go_wp2
      go_ret2
      exact ⟨_, by rw [HE.out]; rfl, by rw [HE.out]; exact ints_nil _ _ _, HBw2.out⟩
  · have HE : Hid (fscB n L d s = ([], false)) := by show _ = _; unfold fscB; rw [t]; rfl
    go_enter Try.func21, Try.ntmps21
    go_wp2_with fail
    refine (withDiv_no n _ _ L d _ HR.out HD.out t).mono ?_
    rintro e w1 ⟨g, rfl, hb1⟩
    have HB1 := hid hb1
    clear hb1
    go_wp2
    go_ret2
    exact ⟨_, by rw [HE.out]; rfl, by rw [HE.out]; exact ints_nil _ _ _, HB1.out⟩
set_option maxRecDepth 100000 in
set_option maxHeartbeats 4000000 in
theorem sFireSet_u (n : Int) (v u : Value) (L : List Lnk) (d : List Int) (x : Value) (s : List Int) (w : World) (h : RLinks w v L) (hd : RInts w u d) (hx : RInts w x s) :
    Calls Try.prog 36 #[.int .i64 n, v, u, x] w (RetIB w (fstB n L d s)) := by
  have HR := hid h
  have HD := hid hd
  obtain ⟨a, cap, rfl⟩ := h.form
  obtain ⟨a2, n2, cap2, rfl⟩ : ∃ a n c, u = .slice a n c := by obtain ⟨a, cap, rfl, _⟩ := hd; exact ⟨_, _, _, rfl⟩
  have HX := hid hx
  obtain ⟨a3, n3, cap3, rfl, HN⟩ : ∃ a n c, x = .slice a n c ∧ Hid (n = s.length) := by obtain ⟨a, cap, rfl, _⟩ := hx; exact ⟨_, _, _, rfl, rfl⟩
  clear h hd hx
  rcases Bool.eq_false_or_eq_true (divB n L d) with t | t
  · obtain ⟨m, hm, rfl, hG, _, hdl, hdb, _⟩ := divB_parts t
    have hm8 := hG.n8
    have hm1 := hG.n1
    have hm2 : ((m : Int)).toNat = m := by omega
    have HT := hid t
    have HDL := hid (rints_lst HD.out hdl)
    obtain ⟨f, hf⟩ : ∃ f : Nat → Int, (fun i => d.getD i 0) = f := ⟨_, rfl⟩
    have hbf : ∀ i, -1000 ≤ f i ∧ f i ≤ 1000 := fun i => by rw [← hf]; exact hdb i
    rw [hf] at HDL
    have HBF := hid hbf
    have f1 : IntKind.i64.wrap ((m : Int) - 1) = (m : Int) - 1 := IntWalk.i64_in _ (by omega)
    rcases Bool.eq_false_or_eq_true (risB 0 ((m : Int) - 1) none s) with t1 | t1
    · have HC1 := hid t1
      clear t1
      obtain ⟨sc, hsc⟩ : ∃ sc : Nat → Int, (setF s) = sc := ⟨_, rfl⟩
      have HE : Hid (fstB (m : Int) L d s = toldB (lst m ((grL m L hG).after f sc))) := by
        show _ = _
        unfold fstB
        rw [HT.out, HC1.out, hm2, ← hsc, ← hf]; rfl
      have HSB : Hid (∀ i, -20 ≤ sc i ∧ sc i ≤ 20) := fun i => by rw [← hsc]; exact set_at _ i
      have HIN := hid (ris_in HC1.out)
      have HSC := hid hsc
      clear hf hbf hdb hdl hm hsc
      rcases Bool.eq_false_or_eq_true (allB (lst m ((grL m L hG).after f sc)) (-1000) 1000) with t3 | t3
      · have HA := hid t3
        have HT3 := hid (toldB_yes t3)
        clear t3
        go_enter Try.func36, Try.ntmps36
        go_wp2_with fail
        refine (chBoth_c (m : Int) _ _ L d _ HR.out HD.out).mono ?_
        rintro e w1 ⟨rfl, hb1⟩
        have HBw1 := hid hb1
        have R_w1 := hid (HR.out.keep hb1)
        have D_w1 := hid (HD.out.keep hb1)
        have DL_w1 := hid (HDL.out.keep hb1)
        have X_w1 := hid (HX.out.keep hb1)
        clear hb1
        rw [HT.out]
        go_wp2_with fail
        refine (l1Rising_c _ s _ _ _ X_w1.out).mono ?_
        rintro e w' ⟨rfl, rfl⟩
        rw [HC1.out]
        go_wp2_with fail
        refine (chSet_c m _ s _ (by omega) X_w1.out HIN.out).mono ?_
        rintro e w2 ⟨u2, rfl, hF2, hb2⟩
        have HBw2 := hid (HBw1.out.trans (hb2.mono HBw1.out.size))
        have R_w2 := hid (R_w1.out.keep hb2)
        have DL_w2 := hid (DL_w1.out.keep hb2)
        have XL_w2 := hid hF2.r 
        clear hb2
        clear hF2
        have HXL := hid XL_w2.out
        have HXM : Hid (RInts w2 u2 (lst m sc)) := by rw [← HSC.out]; exact HXL.out
        obtain ⟨a5, n5, c5, rfl⟩ : ∃ a n c, u2 = .slice a n c := by obtain ⟨a, c, h, _⟩ := HXM.out; exact ⟨_, _, _, h⟩
        have HW0 := hid HBw2.out.size
        go_wp2_with fail
        refine (chFire_c m _ _ _ L f sc _ R_w2.out hG DL_w2.out HXM.out (fun i _ => by have := HBF.out i; omega) (fun i _ => by have := HSB.out i; omega)).mono ?_
        rintro e w3 ⟨uf, rfl, hF3, hb3⟩
        have HBw3 := hid (HBw2.out.trans (hb3.mono HBw2.out.size))
        clear hb3
        have HF := hid (hF3.mono (lo' := w.heap.size) (hi' := w3.heap.size) (by have := HW0.out; omega) (Nat.le_refl _))
        clear hF3
        obtain ⟨a7, n7, c7, rfl⟩ := HF.out.form3
        go_wp2_with fail
        refine (chIf_t m _ _ w _ HBw3.out HF.out HA.out).mono ?_
        rintro e w' ⟨y, he, hf, hb⟩
        rw [HT3.out] at he hf
        subst he
        obtain ⟨a9, n9, c9, rfl⟩ := hf.form3
        have HO := hid (And.intro hf hb)
        clear hf hb
        go_wp2
        go_ret2
        exact ⟨_, by rw [HE.out, HT3.out]; rfl, by rw [HE.out, HT3.out]; exact HO.out.1, HO.out.2⟩
      · have HA := hid t3
        have HT3 := hid (toldB_no t3)
        clear t3
        go_enter Try.func36, Try.ntmps36
        go_wp2_with fail
        refine (chBoth_c (m : Int) _ _ L d _ HR.out HD.out).mono ?_
        rintro e w1 ⟨rfl, hb1⟩
        have HBw1 := hid hb1
        have R_w1 := hid (HR.out.keep hb1)
        have D_w1 := hid (HD.out.keep hb1)
        have DL_w1 := hid (HDL.out.keep hb1)
        have X_w1 := hid (HX.out.keep hb1)
        clear hb1
        rw [HT.out]
        go_wp2_with fail
        refine (l1Rising_c _ s _ _ _ X_w1.out).mono ?_
        rintro e w' ⟨rfl, rfl⟩
        rw [HC1.out]
        go_wp2_with fail
        refine (chSet_c m _ s _ (by omega) X_w1.out HIN.out).mono ?_
        rintro e w2 ⟨u2, rfl, hF2, hb2⟩
        have HBw2 := hid (HBw1.out.trans (hb2.mono HBw1.out.size))
        have R_w2 := hid (R_w1.out.keep hb2)
        have DL_w2 := hid (DL_w1.out.keep hb2)
        have XL_w2 := hid hF2.r 
        clear hb2
        clear hF2
        have HXL := hid XL_w2.out
        have HXM : Hid (RInts w2 u2 (lst m sc)) := by rw [← HSC.out]; exact HXL.out
        obtain ⟨a5, n5, c5, rfl⟩ : ∃ a n c, u2 = .slice a n c := by obtain ⟨a, c, h, _⟩ := HXM.out; exact ⟨_, _, _, h⟩
        have HW0 := hid HBw2.out.size
        go_wp2_with fail
        refine (chFire_c m _ _ _ L f sc _ R_w2.out hG DL_w2.out HXM.out (fun i _ => by have := HBF.out i; omega) (fun i _ => by have := HSB.out i; omega)).mono ?_
        rintro e w3 ⟨uf, rfl, hF3, hb3⟩
        have HBw3 := hid (HBw2.out.trans (hb3.mono HBw2.out.size))
        clear hb3
        have HF := hid (hF3.mono (lo' := w.heap.size) (hi' := w3.heap.size) (by have := HW0.out; omega) (Nat.le_refl _))
        clear hF3
        obtain ⟨a7, n7, c7, rfl⟩ := HF.out.form3
        go_wp2_with fail
        refine (chIf_f m _ _ w _ HBw3.out HF.out HA.out).mono ?_
        rintro e w' ⟨y, he, hf, hb⟩
        rw [HT3.out] at he hf
        subst he
        obtain ⟨a9, n9, c9, rfl⟩ := hf.form3
        have HO := hid (And.intro hf hb)
        clear hf hb
        go_wp2
        go_ret2
        exact ⟨_, by rw [HE.out, HT3.out]; rfl, by rw [HE.out, HT3.out]; exact HO.out.1, HO.out.2⟩
    · have HC1 := hid t1
      clear t1
      have HE : Hid (fstB (m : Int) L d s = ([], false)) := by show _ = _; unfold fstB; rw [HT.out, HC1.out]; rfl
      clear hG hdl hdb hf hbf hm
      go_enter Try.func36, Try.ntmps36
      go_wp2_with fail
      refine (chBoth_c (m : Int) _ _ L d _ HR.out HD.out).mono ?_
      rintro e w1 ⟨rfl, hb1⟩
      have HBw1 := hid hb1
      have R_w1 := hid (HR.out.keep hb1)
      have D_w1 := hid (HD.out.keep hb1)
      have DL_w1 := hid (HDL.out.keep hb1)
      have X_w1 := hid (HX.out.keep hb1)
      clear hb1
      rw [HT.out]
      go_wp2_with fail
      refine (l1Rising_c _ s _ _ _ X_w1.out).mono ?_
      rintro e w' ⟨rfl, rfl⟩
      rw [HC1.out]
      go_wp2
      go_ret2
      exact ⟨_, by rw [HE.out]; rfl, by rw [HE.out]; exact ints_nil _ _ _, HBw1.out⟩
  · have HE : Hid (fstB n L d s = ([], false)) := by show _ = _; unfold fstB; rw [t]; rfl
    go_enter Try.func36, Try.ntmps36
    go_wp2_with fail
    refine (chBoth_c n _ _ L d _ HR.out HD.out).mono ?_
    rintro e w1 ⟨rfl, hb1⟩
    have HBw1 := hid hb1
    clear hb1
    rw [t]
    go_wp2
    go_ret2
    exact ⟨_, by rw [HE.out]; rfl, by rw [HE.out]; exact ints_nil _ _ _, HBw1.out⟩
set_option maxRecDepth 100000 in
set_option maxHeartbeats 4000000 in
theorem iFireSet_u (n : Int) (v u : Value) (L : List Lnk) (d : List Int) (x : Value) (s : List Int) (w : World) (h : RLinks w v L) (hd : RInts w u d) (hx : RInts w x s) :
    Calls Try.prog 27 #[.int .i64 n, v, u, x] w (RetIB w (fstB n L d s)) := by
  have HR := hid h
  have HD := hid hd
  obtain ⟨a, cap, rfl⟩ := h.form
  obtain ⟨a2, n2, cap2, rfl⟩ : ∃ a n c, u = .slice a n c := by obtain ⟨a, cap, rfl, _⟩ := hd; exact ⟨_, _, _, rfl⟩
  have HX := hid hx
  obtain ⟨a3, n3, cap3, rfl, HN⟩ : ∃ a n c, x = .slice a n c ∧ Hid (n = s.length) := by obtain ⟨a, cap, rfl, _⟩ := hx; exact ⟨_, _, _, rfl, rfl⟩
  clear h hd hx
  rcases Bool.eq_false_or_eq_true (divB n L d) with t | t
  · obtain ⟨m, hm, rfl, hG, _, hdl, hdb, _⟩ := divB_parts t
    have hm8 := hG.n8
    have hm1 := hG.n1
    have hm2 : ((m : Int)).toNat = m := by omega
    have HT := hid t
    have HDL := hid (rints_lst HD.out hdl)
    obtain ⟨f, hf⟩ : ∃ f : Nat → Int, (fun i => d.getD i 0) = f := ⟨_, rfl⟩
    have hbf : ∀ i, -1000 ≤ f i ∧ f i ≤ 1000 := fun i => by rw [← hf]; exact hdb i
    rw [hf] at HDL
    have HBF := hid hbf
    have f1 : IntKind.i64.wrap ((m : Int) - 1) = (m : Int) - 1 := IntWalk.i64_in _ (by omega)
    rcases Bool.eq_false_or_eq_true (risB 0 ((m : Int) - 1) none s) with t1 | t1
    · have HC1 := hid t1
      clear t1
      obtain ⟨sc, hsc⟩ : ∃ sc : Nat → Int, (setF s) = sc := ⟨_, rfl⟩
      have HE : Hid (fstB (m : Int) L d s = toldB (lst m ((grL m L hG).after f sc))) := by
        show _ = _
        unfold fstB
        rw [HT.out, HC1.out, hm2, ← hsc, ← hf]; rfl
      have HSB : Hid (∀ i, -20 ≤ sc i ∧ sc i ≤ 20) := fun i => by rw [← hsc]; exact set_at _ i
      have HIN := hid (ris_in HC1.out)
      have HSC := hid hsc
      clear hf hbf hdb hdl hm hsc
      rcases Bool.eq_false_or_eq_true (allB (lst m ((grL m L hG).after f sc)) (-1000) 1000) with t3 | t3
      · have HA := hid t3
        have HT3 := hid (toldB_yes t3)
        clear t3
        go_enter Try.func27, Try.ntmps27
        go_wp2_with fail
        refine (withDiv_yes m _ _ L d _ HR.out HD.out HT.out).mono ?_
        rintro e w1 ⟨g, rfl, hg1, hb1⟩
        have HBw1 := hid hb1
        have R_w1 := hid (HR.out.keep hb1)
        have D_w1 := hid (HD.out.keep hb1)
        have DL_w1 := hid (HDL.out.keep hb1)
        have X_w1 := hid (HX.out.keep hb1)
        have G_w1 := hid hg1
        clear hb1 hg1
        go_wp2_with fail
        refine (isSet_c m _ L _ s _ G_w1.out X_w1.out hm1 hm8).mono ?_
        rintro e w' ⟨rfl, rfl⟩
        rw [HC1.out]
        go_wp2_with fail
        refine (scriptOf_c m _ _ L s _ G_w1.out (by omega) X_w1.out HIN.out).mono ?_
        rintro e w2 ⟨u2, rfl, hF2, hb2⟩
        have HBw2 := hid (HBw1.out.trans (hb2.mono HBw1.out.size))
        have R_w2 := hid (R_w1.out.keep hb2)
        have DL_w2 := hid (DL_w1.out.keep hb2)
        have G_w2 := hid (G_w1.out.keep hb2)
        have XL_w2 := hid hF2.r 
        clear hb2
        clear hF2
        have HXL := hid XL_w2.out
        have HXM : Hid (RInts w2 u2 (lst m sc)) := by rw [← HSC.out]; exact HXL.out
        obtain ⟨a5, n5, c5, rfl⟩ : ∃ a n c, u2 = .slice a n c := by obtain ⟨a, c, h, _⟩ := HXM.out; exact ⟨_, _, _, h⟩
        have HW0 := hid HBw2.out.size
        go_wp2_with fail
        refine (fireScript_c m L hG _ _ _ _ G_w2.out f sc DL_w2.out HXM.out (fun i _ => HBF.out i) (fun i _ => HSB.out i)).mono ?_
        rintro e w3 ⟨uf, rfl, hF3, hb3⟩
        have HBw3 := hid (HBw2.out.trans (hb3.mono HBw2.out.size))
        have G_w3 := hid (G_w2.out.keep hb3)
        clear hb3
        have HF := hid (hF3.mono (lo' := w.heap.size) (hi' := w3.heap.size) (by have := HW0.out; omega) (Nat.le_refl _))
        clear hF3
        obtain ⟨a7, n7, c7, rfl⟩ := HF.out.form3
        go_wp2_with fail
        refine (told_t m _ L _ _ w _ G_w3.out HBw3.out HF.out HA.out).mono ?_
        rintro e w' ⟨y, he, hf, hb⟩
        rw [HT3.out] at he hf
        subst he
        obtain ⟨a9, n9, c9, rfl⟩ := hf.form3
        have HO := hid (And.intro hf hb)
        clear hf hb
        go_wp2
        go_ret2
        exact ⟨_, by rw [HE.out, HT3.out]; rfl, by rw [HE.out, HT3.out]; exact HO.out.1, HO.out.2⟩
      · have HA := hid t3
        have HT3 := hid (toldB_no t3)
        clear t3
        go_enter Try.func27, Try.ntmps27
        go_wp2_with fail
        refine (withDiv_yes m _ _ L d _ HR.out HD.out HT.out).mono ?_
        rintro e w1 ⟨g, rfl, hg1, hb1⟩
        have HBw1 := hid hb1
        have R_w1 := hid (HR.out.keep hb1)
        have D_w1 := hid (HD.out.keep hb1)
        have DL_w1 := hid (HDL.out.keep hb1)
        have X_w1 := hid (HX.out.keep hb1)
        have G_w1 := hid hg1
        clear hb1 hg1
        go_wp2_with fail
        refine (isSet_c m _ L _ s _ G_w1.out X_w1.out hm1 hm8).mono ?_
        rintro e w' ⟨rfl, rfl⟩
        rw [HC1.out]
        go_wp2_with fail
        refine (scriptOf_c m _ _ L s _ G_w1.out (by omega) X_w1.out HIN.out).mono ?_
        rintro e w2 ⟨u2, rfl, hF2, hb2⟩
        have HBw2 := hid (HBw1.out.trans (hb2.mono HBw1.out.size))
        have R_w2 := hid (R_w1.out.keep hb2)
        have DL_w2 := hid (DL_w1.out.keep hb2)
        have G_w2 := hid (G_w1.out.keep hb2)
        have XL_w2 := hid hF2.r 
        clear hb2
        clear hF2
        have HXL := hid XL_w2.out
        have HXM : Hid (RInts w2 u2 (lst m sc)) := by rw [← HSC.out]; exact HXL.out
        obtain ⟨a5, n5, c5, rfl⟩ : ∃ a n c, u2 = .slice a n c := by obtain ⟨a, c, h, _⟩ := HXM.out; exact ⟨_, _, _, h⟩
        have HW0 := hid HBw2.out.size
        go_wp2_with fail
        refine (fireScript_c m L hG _ _ _ _ G_w2.out f sc DL_w2.out HXM.out (fun i _ => HBF.out i) (fun i _ => HSB.out i)).mono ?_
        rintro e w3 ⟨uf, rfl, hF3, hb3⟩
        have HBw3 := hid (HBw2.out.trans (hb3.mono HBw2.out.size))
        have G_w3 := hid (G_w2.out.keep hb3)
        clear hb3
        have HF := hid (hF3.mono (lo' := w.heap.size) (hi' := w3.heap.size) (by have := HW0.out; omega) (Nat.le_refl _))
        clear hF3
        obtain ⟨a7, n7, c7, rfl⟩ := HF.out.form3
        go_wp2_with fail
        refine (told_f m _ L _ _ w _ G_w3.out HBw3.out HF.out HA.out).mono ?_
        rintro e w' ⟨y, he, hf, hb⟩
        rw [HT3.out] at he hf
        subst he
        obtain ⟨a9, n9, c9, rfl⟩ := hf.form3
        have HO := hid (And.intro hf hb)
        clear hf hb
        go_wp2
        go_ret2
        exact ⟨_, by rw [HE.out, HT3.out]; rfl, by rw [HE.out, HT3.out]; exact HO.out.1, HO.out.2⟩
    · have HC1 := hid t1
      clear t1
      have HE : Hid (fstB (m : Int) L d s = ([], false)) := by show _ = _; unfold fstB; rw [HT.out, HC1.out]; rfl
      clear hG hdl hdb hf hbf hm
      go_enter Try.func27, Try.ntmps27
      go_wp2_with fail
      refine (withDiv_yes m _ _ L d _ HR.out HD.out HT.out).mono ?_
      rintro e w1 ⟨g, rfl, hg1, hb1⟩
      have HBw1 := hid hb1
      have R_w1 := hid (HR.out.keep hb1)
      have D_w1 := hid (HD.out.keep hb1)
      have DL_w1 := hid (HDL.out.keep hb1)
      have X_w1 := hid (HX.out.keep hb1)
      have G_w1 := hid hg1
      clear hb1 hg1
      go_wp2_with fail
      refine (isSet_c m _ L _ s _ G_w1.out X_w1.out hm1 hm8).mono ?_
      rintro e w' ⟨rfl, rfl⟩
      rw [HC1.out]
      go_wp2
      go_ret2
      exact ⟨_, by rw [HE.out]; rfl, by rw [HE.out]; exact ints_nil _ _ _, HBw1.out⟩
  · have HE : Hid (fstB n L d s = ([], false)) := by show _ = _; unfold fstB; rw [t]; rfl
    go_enter Try.func27, Try.ntmps27
    go_wp2_with fail
    refine (withDiv_no n _ _ L d _ HR.out HD.out t).mono ?_
    rintro e w1 ⟨g, rfl, hb1⟩
    have HB1 := hid hb1
    clear hb1
    go_wp2
    go_ret2
    exact ⟨_, by rw [HE.out]; rfl, by rw [HE.out]; exact ints_nil _ _ _, HB1.out⟩
set_option maxRecDepth 100000 in
set_option maxHeartbeats 4000000 in
theorem sFireVertex_u (n : Int) (v u : Value) (L : List Lnk) (d : List Int) (x : Int) (w : World) (h : RLinks w v L) (hd : RInts w u d) :
    Calls Try.prog 34 #[.int .i64 n, v, u, .int .i64 x] w (RetIB w (fvtB n L d x)) := by
  have HR := hid h
  have HD := hid hd
  obtain ⟨a, cap, rfl⟩ := h.form
  obtain ⟨a2, n2, cap2, rfl⟩ : ∃ a n c, u = .slice a n c := by obtain ⟨a, cap, rfl, _⟩ := hd; exact ⟨_, _, _, rfl⟩
  clear h hd
  rcases Bool.eq_false_or_eq_true (divB n L d) with t | t
  · obtain ⟨m, hm, rfl, hG, _, hdl, hdb, _⟩ := divB_parts t
    have hm8 := hG.n8
    have hm1 := hG.n1
    have hm2 : ((m : Int)).toNat = m := by omega
    have HT := hid t
    have HDL := hid (rints_lst HD.out hdl)
    obtain ⟨f, hf⟩ : ∃ f : Nat → Int, (fun i => d.getD i 0) = f := ⟨_, rfl⟩
    have hbf : ∀ i, -1000 ≤ f i ∧ f i ≤ 1000 := fun i => by rw [← hf]; exact hdb i
    rw [hf] at HDL
    have HBF := hid hbf
    have f1 : IntKind.i64.wrap ((m : Int) - 1) = (m : Int) - 1 := IntWalk.i64_in _ (by omega)
    rcases Bool.eq_false_or_eq_true (inB x 0 ((m : Int) - 1)) with t1 | t1
    · have HC1 := hid t1
      clear t1
      obtain ⟨sc, hsc⟩ : ∃ sc : Nat → Int, (setF [x]) = sc := ⟨_, rfl⟩
      have HE : Hid (fvtB (m : Int) L d x = toldB (lst m ((grL m L hG).after f sc))) := by
        show _ = _
        unfold fvtB
        rw [HT.out, HC1.out, hm2, ← hsc, ← hf]; rfl
      have HSB : Hid (∀ i, -20 ≤ sc i ∧ sc i ≤ 20) := fun i => by rw [← hsc]; exact set_at _ i
      have hxi := inB_iff.1 HC1.out
      have HIN : Hid (∀ y ∈ [x], 0 ≤ y ∧ y < (m : Int)) := fun y hy => by rw [List.mem_singleton] at hy; omega
      have HSC := hid hsc
      clear hf hbf hdb hdl hm hsc
      rcases Bool.eq_false_or_eq_true (allB (lst m ((grL m L hG).after f sc)) (-1000) 1000) with t3 | t3
      · have HA := hid t3
        have HT3 := hid (toldB_yes t3)
        clear t3
        go_enter Try.func34, Try.ntmps34
        go_wp2_with fail
        refine (chBoth_c (m : Int) _ _ L d _ HR.out HD.out).mono ?_
        rintro e w1 ⟨rfl, hb1⟩
        have HBw1 := hid hb1
        have R_w1 := hid (HR.out.keep hb1)
        have D_w1 := hid (HD.out.keep hb1)
        have DL_w1 := hid (HDL.out.keep hb1)
        clear hb1
        rw [HT.out]
        go_wp2_with fail
        refine (l1In_c x _ _ _).mono ?_
        rintro e w' ⟨rfl, rfl⟩
        rw [HC1.out]
        have hlit := ints_lit w1 w1.heap.size (Nat.le_refl _) [x] (by simp)
        have hal : Below w1.heap.size w1 (w1.alloc (.cells #[.int .i64 x] 3)) := (Below.refl _ _).alloc (Nat.le_refl _) _
        have HLIT := hid hlit.r
        have HAL := hid hal
        clear hlit hal
        have HBL := hid (HBw1.out.trans (HAL.out.mono HBw1.out.size))
        have R_w1_L := hid (R_w1.out.keep HAL.out)
        have DL_w1_L := hid (DL_w1.out.keep HAL.out)
        go_wp2_with fail
        refine (chSet_c m _ [x] _ (by omega) HLIT.out HIN.out).mono ?_
        rintro e w2 ⟨u2, rfl, hF2, hb2⟩
        have HBw2 := hid (HBL.out.trans (hb2.mono HBL.out.size))
        have R_w2 := hid (R_w1_L.out.keep hb2)
        have DL_w2 := hid (DL_w1_L.out.keep hb2)
        have XL_w2 := hid hF2.r 
        clear hb2
        clear hF2
        have HXL := hid XL_w2.out
        have HXM : Hid (RInts w2 u2 (lst m sc)) := by rw [← HSC.out]; exact HXL.out
        obtain ⟨a5, n5, c5, rfl⟩ : ∃ a n c, u2 = .slice a n c := by obtain ⟨a, c, h, _⟩ := HXM.out; exact ⟨_, _, _, h⟩
        have HW0 := hid HBw2.out.size
        go_wp2_with fail
        refine (chFire_c m _ _ _ L f sc _ R_w2.out hG DL_w2.out HXM.out (fun i _ => by have := HBF.out i; omega) (fun i _ => by have := HSB.out i; omega)).mono ?_
        rintro e w3 ⟨uf, rfl, hF3, hb3⟩
        have HBw3 := hid (HBw2.out.trans (hb3.mono HBw2.out.size))
        clear hb3
        have HF := hid (hF3.mono (lo' := w.heap.size) (hi' := w3.heap.size) (by have := HW0.out; omega) (Nat.le_refl _))
        clear hF3
        obtain ⟨a7, n7, c7, rfl⟩ := HF.out.form3
        go_wp2_with fail
        refine (chIf_t m _ _ w _ HBw3.out HF.out HA.out).mono ?_
        rintro e w' ⟨y, he, hf, hb⟩
        rw [HT3.out] at he hf
        subst he
        obtain ⟨a9, n9, c9, rfl⟩ := hf.form3
        have HO := hid (And.intro hf hb)
        clear hf hb
        go_wp2
        go_ret2
        exact ⟨_, by rw [HE.out, HT3.out]; rfl, by rw [HE.out, HT3.out]; exact HO.out.1, HO.out.2⟩
      · have HA := hid t3
        have HT3 := hid (toldB_no t3)
        clear t3
        go_enter Try.func34, Try.ntmps34
        go_wp2_with fail
        refine (chBoth_c (m : Int) _ _ L d _ HR.out HD.out).mono ?_
        rintro e w1 ⟨rfl, hb1⟩
        have HBw1 := hid hb1
        have R_w1 := hid (HR.out.keep hb1)
        have D_w1 := hid (HD.out.keep hb1)
        have DL_w1 := hid (HDL.out.keep hb1)
        clear hb1
        rw [HT.out]
        go_wp2_with fail
        refine (l1In_c x _ _ _).mono ?_
        rintro e w' ⟨rfl, rfl⟩
        rw [HC1.out]
        have hlit := ints_lit w1 w1.heap.size (Nat.le_refl _) [x] (by simp)
        have hal : Below w1.heap.size w1 (w1.alloc (.cells #[.int .i64 x] 3)) := (Below.refl _ _).alloc (Nat.le_refl _) _
        have HLIT := hid hlit.r
        have HAL := hid hal
        clear hlit hal
        have HBL := hid (HBw1.out.trans (HAL.out.mono HBw1.out.size))
        have R_w1_L := hid (R_w1.out.keep HAL.out)
        have DL_w1_L := hid (DL_w1.out.keep HAL.out)
        go_wp2_with fail
        refine (chSet_c m _ [x] _ (by omega) HLIT.out HIN.out).mono ?_
        rintro e w2 ⟨u2, rfl, hF2, hb2⟩
        have HBw2 := hid (HBL.out.trans (hb2.mono HBL.out.size))
        have R_w2 := hid (R_w1_L.out.keep hb2)
        have DL_w2 := hid (DL_w1_L.out.keep hb2)
        have XL_w2 := hid hF2.r 
        clear hb2
        clear hF2
        have HXL := hid XL_w2.out
        have HXM : Hid (RInts w2 u2 (lst m sc)) := by rw [← HSC.out]; exact HXL.out
        obtain ⟨a5, n5, c5, rfl⟩ : ∃ a n c, u2 = .slice a n c := by obtain ⟨a, c, h, _⟩ := HXM.out; exact ⟨_, _, _, h⟩
        have HW0 := hid HBw2.out.size
        go_wp2_with fail
        refine (chFire_c m _ _ _ L f sc _ R_w2.out hG DL_w2.out HXM.out (fun i _ => by have := HBF.out i; omega) (fun i _ => by have := HSB.out i; omega)).mono ?_
        rintro e w3 ⟨uf, rfl, hF3, hb3⟩
        have HBw3 := hid (HBw2.out.trans (hb3.mono HBw2.out.size))
        clear hb3
        have HF := hid (hF3.mono (lo' := w.heap.size) (hi' := w3.heap.size) (by have := HW0.out; omega) (Nat.le_refl _))
        clear hF3
        obtain ⟨a7, n7, c7, rfl⟩ := HF.out.form3
        go_wp2_with fail
        refine (chIf_f m _ _ w _ HBw3.out HF.out HA.out).mono ?_
        rintro e w' ⟨y, he, hf, hb⟩
        rw [HT3.out] at he hf
        subst he
        obtain ⟨a9, n9, c9, rfl⟩ := hf.form3
        have HO := hid (And.intro hf hb)
        clear hf hb
        go_wp2
        go_ret2
        exact ⟨_, by rw [HE.out, HT3.out]; rfl, by rw [HE.out, HT3.out]; exact HO.out.1, HO.out.2⟩
    · have HC1 := hid t1
      clear t1
      have HE : Hid (fvtB (m : Int) L d x = ([], false)) := by show _ = _; unfold fvtB; rw [HT.out, HC1.out]; rfl
      clear hG hdl hdb hf hbf hm
      go_enter Try.func34, Try.ntmps34
      go_wp2_with fail
      refine (chBoth_c (m : Int) _ _ L d _ HR.out HD.out).mono ?_
      rintro e w1 ⟨rfl, hb1⟩
      have HBw1 := hid hb1
      have R_w1 := hid (HR.out.keep hb1)
      have D_w1 := hid (HD.out.keep hb1)
      have DL_w1 := hid (HDL.out.keep hb1)
      clear hb1
      rw [HT.out]
      go_wp2_with fail
      refine (l1In_c x _ _ _).mono ?_
      rintro e w' ⟨rfl, rfl⟩
      rw [HC1.out]
      go_wp2
      go_ret2
      exact ⟨_, by rw [HE.out]; rfl, by rw [HE.out]; exact ints_nil _ _ _, HBw1.out⟩
  · have HE : Hid (fvtB n L d x = ([], false)) := by show _ = _; unfold fvtB; rw [t]; rfl
    go_enter Try.func34, Try.ntmps34
    go_wp2_with fail
    refine (chBoth_c n _ _ L d _ HR.out HD.out).mono ?_
    rintro e w1 ⟨rfl, hb1⟩
    have HBw1 := hid hb1
    clear hb1
    rw [t]
    go_wp2
    go_ret2
    exact ⟨_, by rw [HE.out]; rfl, by rw [HE.out]; exact ints_nil _ _ _, HBw1.out⟩
set_option maxRecDepth 100000 in
set_option maxHeartbeats 4000000 in
theorem iFireVertex_u (n : Int) (v u : Value) (L : List Lnk) (d : List Int) (x : Int) (w : World) (h : RLinks w v L) (hd : RInts w u d) :
    Calls Try.prog 33 #[.int .i64 n, v, u, .int .i64 x] w (RetIB w (fvtB n L d x)) := by
  have HR := hid h
  have HD := hid hd
  obtain ⟨a, cap, rfl⟩ := h.form
  obtain ⟨a2, n2, cap2, rfl⟩ : ∃ a n c, u = .slice a n c := by obtain ⟨a, cap, rfl, _⟩ := hd; exact ⟨_, _, _, rfl⟩
  clear h hd
  rcases Bool.eq_false_or_eq_true (divB n L d) with t | t
  · obtain ⟨m, hm, rfl, hG, _, hdl, hdb, _⟩ := divB_parts t
    have hm8 := hG.n8
    have hm1 := hG.n1
    have hm2 : ((m : Int)).toNat = m := by omega
    have HT := hid t
    have HDL := hid (rints_lst HD.out hdl)
    obtain ⟨f, hf⟩ : ∃ f : Nat → Int, (fun i => d.getD i 0) = f := ⟨_, rfl⟩
    have hbf : ∀ i, -1000 ≤ f i ∧ f i ≤ 1000 := fun i => by rw [← hf]; exact hdb i
    rw [hf] at HDL
    have HBF := hid hbf
    have f1 : IntKind.i64.wrap ((m : Int) - 1) = (m : Int) - 1 := IntWalk.i64_in _ (by omega)
    rcases Bool.eq_false_or_eq_true (inB x 0 ((m : Int) - 1)) with t1 | t1
    · have HC1 := hid t1
      clear t1
      obtain ⟨sc, hsc⟩ : ∃ sc : Nat → Int, (setF [x]) = sc := ⟨_, rfl⟩
      have HE : Hid (fvtB (m : Int) L d x = toldB (lst m ((grL m L hG).after f sc))) := by
        show _ = _
        unfold fvtB
        rw [HT.out, HC1.out, hm2, ← hsc, ← hf]; rfl
      have HSB : Hid (∀ i, -20 ≤ sc i ∧ sc i ≤ 20) := fun i => by rw [← hsc]; exact set_at _ i
      have hxi := inB_iff.1 HC1.out
      have HIN : Hid (∀ y ∈ [x], 0 ≤ y ∧ y < (m : Int)) := fun y hy => by rw [List.mem_singleton] at hy; omega
      have HSC := hid hsc
      clear hf hbf hdb hdl hm hsc
      rcases Bool.eq_false_or_eq_true (allB (lst m ((grL m L hG).after f sc)) (-1000) 1000) with t3 | t3
      · have HA := hid t3
        have HT3 := hid (toldB_yes t3)
        clear t3
        go_enter Try.func33, Try.ntmps33
        go_wp2_with fail
        refine (withDiv_yes m _ _ L d _ HR.out HD.out HT.out).mono ?_
        rintro e w1 ⟨g, rfl, hg1, hb1⟩
        have HBw1 := hid hb1
        have R_w1 := hid (HR.out.keep hb1)
        have D_w1 := hid (HD.out.keep hb1)
        have DL_w1 := hid (HDL.out.keep hb1)
        have G_w1 := hid hg1
        clear hb1 hg1
        go_wp2_with fail
        refine (isVertex_c m x _ L _ G_w1.out hm1 hm8).mono ?_
        rintro e w' ⟨rfl, rfl⟩
        rw [HC1.out]
        have hlit := ints_lit w1 w1.heap.size (Nat.le_refl _) [x] (by simp)
        have hal : Below w1.heap.size w1 (w1.alloc (.cells #[.int .i64 x] 3)) := (Below.refl _ _).alloc (Nat.le_refl _) _
        have HLIT := hid hlit.r
        have HAL := hid hal
        clear hlit hal
        have HBL := hid (HBw1.out.trans (HAL.out.mono HBw1.out.size))
        have R_w1_L := hid (R_w1.out.keep HAL.out)
        have DL_w1_L := hid (DL_w1.out.keep HAL.out)
        have G_w1_L := hid (G_w1.out.keep HAL.out)
        go_wp2_with fail
        refine (scriptOf_c m _ _ L [x] _ G_w1_L.out (by omega) HLIT.out HIN.out).mono ?_
        rintro e w2 ⟨u2, rfl, hF2, hb2⟩
        have HBw2 := hid (HBL.out.trans (hb2.mono HBL.out.size))
        have R_w2 := hid (R_w1_L.out.keep hb2)
        have DL_w2 := hid (DL_w1_L.out.keep hb2)
        have G_w2 := hid (G_w1_L.out.keep hb2)
        have XL_w2 := hid hF2.r 
        clear hb2
        clear hF2
        have HXL := hid XL_w2.out
        have HXM : Hid (RInts w2 u2 (lst m sc)) := by rw [← HSC.out]; exact HXL.out
        obtain ⟨a5, n5, c5, rfl⟩ : ∃ a n c, u2 = .slice a n c := by obtain ⟨a, c, h, _⟩ := HXM.out; exact ⟨_, _, _, h⟩
        have HW0 := hid HBw2.out.size
        go_wp2_with fail
        refine (fireScript_c m L hG _ _ _ _ G_w2.out f sc DL_w2.out HXM.out (fun i _ => HBF.out i) (fun i _ => HSB.out i)).mono ?_
        rintro e w3 ⟨uf, rfl, hF3, hb3⟩
        have HBw3 := hid (HBw2.out.trans (hb3.mono HBw2.out.size))
        have G_w3 := hid (G_w2.out.keep hb3)
        clear hb3
        have HF := hid (hF3.mono (lo' := w.heap.size) (hi' := w3.heap.size) (by have := HW0.out; omega) (Nat.le_refl _))
        clear hF3
        obtain ⟨a7, n7, c7, rfl⟩ := HF.out.form3
        go_wp2_with fail
        refine (told_t m _ L _ _ w _ G_w3.out HBw3.out HF.out HA.out).mono ?_
        rintro e w' ⟨y, he, hf, hb⟩
        rw [HT3.out] at he hf
        subst he
        obtain ⟨a9, n9, c9, rfl⟩ := hf.form3
        have HO := hid (And.intro hf hb)
        clear hf hb
        go_wp2
        go_ret2
        exact ⟨_, by rw [HE.out, HT3.out]; rfl, by rw [HE.out, HT3.out]; exact HO.out.1, HO.out.2⟩
      · have HA := hid t3
        have HT3 := hid (toldB_no t3)
        clear t3
        go_enter Try.func33, Try.ntmps33
        go_wp2_with fail
        refine (withDiv_yes m _ _ L d _ HR.out HD.out HT.out).mono ?_
        rintro e w1 ⟨g, rfl, hg1, hb1⟩
        have HBw1 := hid hb1
        have R_w1 := hid (HR.out.keep hb1)
        have D_w1 := hid (HD.out.keep hb1)
        have DL_w1 := hid (HDL.out.keep hb1)
        have G_w1 := hid hg1
        clear hb1 hg1
        go_wp2_with fail
        refine (isVertex_c m x _ L _ G_w1.out hm1 hm8).mono ?_
        rintro e w' ⟨rfl, rfl⟩
        rw [HC1.out]
        have hlit := ints_lit w1 w1.heap.size (Nat.le_refl _) [x] (by simp)
        have hal : Below w1.heap.size w1 (w1.alloc (.cells #[.int .i64 x] 3)) := (Below.refl _ _).alloc (Nat.le_refl _) _
        have HLIT := hid hlit.r
        have HAL := hid hal
        clear hlit hal
        have HBL := hid (HBw1.out.trans (HAL.out.mono HBw1.out.size))
        have R_w1_L := hid (R_w1.out.keep HAL.out)
        have DL_w1_L := hid (DL_w1.out.keep HAL.out)
        have G_w1_L := hid (G_w1.out.keep HAL.out)
        go_wp2_with fail
        refine (scriptOf_c m _ _ L [x] _ G_w1_L.out (by omega) HLIT.out HIN.out).mono ?_
        rintro e w2 ⟨u2, rfl, hF2, hb2⟩
        have HBw2 := hid (HBL.out.trans (hb2.mono HBL.out.size))
        have R_w2 := hid (R_w1_L.out.keep hb2)
        have DL_w2 := hid (DL_w1_L.out.keep hb2)
        have G_w2 := hid (G_w1_L.out.keep hb2)
        have XL_w2 := hid hF2.r 
        clear hb2
        clear hF2
        have HXL := hid XL_w2.out
        have HXM : Hid (RInts w2 u2 (lst m sc)) := by rw [← HSC.out]; exact HXL.out
        obtain ⟨a5, n5, c5, rfl⟩ : ∃ a n c, u2 = .slice a n c := by obtain ⟨a, c, h, _⟩ := HXM.out; exact ⟨_, _, _, h⟩
        have HW0 := hid HBw2.out.size
        go_wp2_with fail
        refine (fireScript_c m L hG _ _ _ _ G_w2.out f sc DL_w2.out HXM.out (fun i _ => HBF.out i) (fun i _ => HSB.out i)).mono ?_
        rintro e w3 ⟨uf, rfl, hF3, hb3⟩
        have HBw3 := hid (HBw2.out.trans (hb3.mono HBw2.out.size))
        have G_w3 := hid (G_w2.out.keep hb3)
        clear hb3
        have HF := hid (hF3.mono (lo' := w.heap.size) (hi' := w3.heap.size) (by have := HW0.out; omega) (Nat.le_refl _))
        clear hF3
        obtain ⟨a7, n7, c7, rfl⟩ := HF.out.form3
        go_wp2_with fail
        refine (told_f m _ L _ _ w _ G_w3.out HBw3.out HF.out HA.out).mono ?_
        rintro e w' ⟨y, he, hf, hb⟩
        rw [HT3.out] at he hf
        subst he
        obtain ⟨a9, n9, c9, rfl⟩ := hf.form3
        have HO := hid (And.intro hf hb)
        clear hf hb
        go_wp2
        go_ret2
        exact ⟨_, by rw [HE.out, HT3.out]; rfl, by rw [HE.out, HT3.out]; exact HO.out.1, HO.out.2⟩
    · have HC1 := hid t1
      clear t1
      have HE : Hid (fvtB (m : Int) L d x = ([], false)) := by show _ = _; unfold fvtB; rw [HT.out, HC1.out]; rfl
      clear hG hdl hdb hf hbf hm
      go_enter Try.func33, Try.ntmps33
      go_wp2_with fail
      refine (withDiv_yes m _ _ L d _ HR.out HD.out HT.out).mono ?_
      rintro e w1 ⟨g, rfl, hg1, hb1⟩
      have HBw1 := hid hb1
      have R_w1 := hid (HR.out.keep hb1)
      have D_w1 := hid (HD.out.keep hb1)
      have DL_w1 := hid (HDL.out.keep hb1)
      have G_w1 := hid hg1
      clear hb1 hg1
      go_wp2_with fail
      refine (isVertex_c m x _ L _ G_w1.out hm1 hm8).mono ?_
      rintro e w' ⟨rfl, rfl⟩
      rw [HC1.out]
      go_wp2
      go_ret2
      exact ⟨_, by rw [HE.out]; rfl, by rw [HE.out]; exact ints_nil _ _ _, HBw1.out⟩
  · have HE : Hid (fvtB n L d x = ([], false)) := by show _ = _; unfold fvtB; rw [t]; rfl
    go_enter Try.func33, Try.ntmps33
    go_wp2_with fail
    refine (withDiv_no n _ _ L d _ HR.out HD.out t).mono ?_
    rintro e w1 ⟨g, rfl, hb1⟩
    have HB1 := hid hb1
    clear hb1
    go_wp2
    go_ret2
    exact ⟨_, by rw [HE.out]; rfl, by rw [HE.out]; exact ints_nil _ _ _, HB1.out⟩

end Go.Proofs.Ytlehhfmbdcmpoaa
