/- Piles: the program's identity; IdentityPile of the program. -/
import Derived.Test.YtifdhapaonideaaPileR3
namespace Go.Proofs.Ytifdhapaonideaa
open Go.RowKit
open Go.Lib (hid)

variable {n q p : Nat} {L : List Lnk}
theorem recL_ne (hP : PG n L q) : ∃ x0 xs, recL n L q = x0 :: xs := by
  cases h : recL n L q with
  | nil => have := id_mem hP; rw [h] at this; simp at this
  | cons x xs => exact ⟨x, xs, rfl⟩

set_option maxRecDepth 100000 in
set_option maxHeartbeats 2000000 in
theorem identity_c (hP : PG n L q) (w : World) (hp : RG w (.pointer (some ⟨p, 0, none⟩)) n L) :
    Calls Try.prog 49 #[.agg #[.pointer (some ⟨p, 0, none⟩), .int .i64 q]] w (RetInts w (lst n (idF n L q hP.good))) := by
  have hn8 := hP.good.n8
  have hn1 := hP.good.n1
  obtain ⟨x0, xs, hcons⟩ := recL_ne hP
  have hm0 : x0 ∈ recL n L q := by rw [hcons]; simp
  obtain ⟨k, hk1, hk2, hk3⟩ := findB_at (askId (grL n L hP.good) n q x0) [] _ (recL n L q) 0 (id_find hP hm0)
  rw [Nat.zero_add] at hk1
  have hx0 : (recL n L q).getD 0 [] = x0 := by rw [hcons]; rfl
  have HK := hid (And.intro hk1 hk3)
  have HX0 := hid (And.intro hx0 hm0)
  obtain ⟨b0, b1, hal⟩ := tpar w p q
  obtain ⟨wb, hwb⟩ : ∃ wb : World, wb = w.alloc (.cells #[.pointer (some ⟨p, 0, none⟩), .int .i64 q] 54) := ⟨_, rfl⟩
  rw [← hwb] at b0 b1 hal
  have HWB := hid hwb
  have HAL := hid hal
  have HPB := hid (hp.keep hal)
  have HBX := hid (And.intro b0 b1)
  clear hp hwb hal hcons hm0 hk1 hk3 hx0
  go_enter Try.func49, Try.ntmps49
  go_wp2_with fail
  rw [← HWB.out]
  refine (recurrent_c hP _ HPB.out).mono ?_
  rintro e w1 ⟨u, rfl, hF, hb1⟩
  obtain ⟨gL, cL, rfl, hg1, hg2⟩ := hF.form_some (by omega)
  obtain ⟨len, hlen⟩ : ∃ len, (recL n L q).length = len := ⟨_, rfl⟩
  have hF' := hF
  rw [hlen] at hk2 hF' ⊢
  have hal2 : Below w1.heap.size w1 (w1.alloc (.cells #[.slice (some ⟨gL, 0, none⟩) len cL] 44)) := (Below.refl _ _).alloc (Nat.le_refl _) _
  obtain ⟨w2, hw2⟩ : ∃ w2 : World, w2 = w1.alloc (.cells #[.slice (some ⟨gL, 0, none⟩) len cL] 44) := ⟨_, rfl⟩
  have tl : w2.cell? ⟨w1.heap.size, 0, none⟩ = some (.slice (some ⟨gL, 0, none⟩) len cL) := by rw [hw2]; exact cell_new _ _ _
  rw [← hw2] at hal2
  have HW2 := hid hw2
  have hb02 := hb1.trans (hal2.mono hb1.size)
  have HB2 := hid hb02
  have HF2 := hid ((hF.keep hal2).mono (Nat.le_refl _) hal2.size)
  obtain ⟨g0, r0, y0, he0, _, _, tr, _, hr0, HY0, _⟩ := (HF2.out).at (i := 0) (by omega)
  simp only [Option.some.injEq, Addr.mk.injEq, and_true] at he0
  subst he0
  obtain ⟨gk, rk, yk, hek, _, _, trk, _, hrk, HYK, _⟩ := (HF2.out).at (i := k) (by omega)
  simp only [Option.some.injEq, Addr.mk.injEq, and_true] at hek
  subst hek
  have hy0 : y0 = x0 := by rw [← HY0.out]; exact HX0.out.1
  have hyk : yk = lst n (idF n L q hP.good) := by rw [← HYK.out]; exact HK.out.2
  subst hy0
  subst hyk
  have HR0 := hid hr0.r
  have HRK := hid hrk
  have HTR := hid (And.intro tl (And.intro tr trk))
  have hkz : (k : Int) < (len : Int) := by omega
  have hlen0 : 0 < len := by omega
  have c0 := (hb02.cell (p := ⟨w.heap.size, 0, none⟩) (cell_lt HBX.out.1)).trans HBX.out.1
  have c1 := (hb02.cell (p := ⟨w.heap.size, 1, none⟩) (cell_lt HBX.out.2)).trans HBX.out.2
  have HCC := hid (And.intro c0 c1)
  have HPW := hid (HPB.out.keep hb02)
  have hl1 := cell_lt tl
  have hl2 := cell_lt trk
  have HMR := hid (show RMat w2.drew (.slice (some ⟨gL, 0, none⟩) len cL) (recL n L q) by have := HF2.out.r; rw [← hlen]; exact this)
  have hforms : ∃ ak ck, rk = .slice (some ⟨ak, 0, none⟩) n ck := by obtain ⟨ak, ck, h, _⟩ := fi_form hrk (by omega); exact ⟨ak, ck, h⟩
  obtain ⟨ak, ck, rfl⟩ := hforms
  obtain ⟨LB, hLB⟩ : ∃ LB, w1.heap.size = LB := ⟨_, rfl⟩
  rw [hLB] at tl HTR hl1
  have HLEN := hid hlen
  have hcl : ∀ r x w', Below w2.drew.heap.size w2.drew w' → RInts w' r x → x ∈ recL n L q → Calls Try.prog 82 (#[r] ++ #[.pointer (some ⟨w.heap.size, 0, none⟩), .pointer (some ⟨LB, 0, none⟩)]) w' fun e w'' => e = .returned (.bool (askId (grL n L hP.good) n q y0 x)) ∧ Below w'.heap.size w' w'' := fun r x w' hbw hr hx => by
    have hbw' : Below w2.heap.size w2 w' := below_of_drew hbw
    exact identityF_c hP w.heap.size LB _ r r0 x y0 gL 0 len cL w' rfl hlen0 (HPW.out.keep hbw') ((hbw'.cell (p := ⟨w.heap.size, 0, none⟩) (cell_lt HCC.out.1)).trans HCC.out.1) ((hbw'.cell (p := ⟨w.heap.size, 1, none⟩) (cell_lt HCC.out.2)).trans HCC.out.2) ((hbw'.cell (p := ⟨LB, 0, none⟩) hl1).trans HTR.out.1) ((hbw'.cell (p := ⟨gL, 0, none⟩) (cell_lt HTR.out.2.1)).trans HTR.out.2.1) hr (HR0.out.keep hbw') hx HX0.out.2
  have HCL := hid hcl
  clear hF hF' hb1 hw2 hal2 hb02 hr0 hrk HY0 HYK hlen hcl tr
  go_upto_region 2 with fail
  rw [← HW2.out]
  clear hLB
  go_region_held3 (fun w' => w'.cell? ⟨LB, 0, none⟩ = some (.slice (some ⟨gL, 0, none⟩) len cL) ∧ w'.cell? ⟨gL, k, none⟩ = some (.slice (some ⟨ak, 0, none⟩) n ck))
    (first | go_keep | exact ⟨e6, e5⟩)
    ((go_at_call 51; (with_reducible refine (indexFuncMB_c _ (recL n L q) _ _ _ (askId (grL n L hP.good) n q y0) HMR.out Try.call82 HCL.out).mono ?_); rintro e w5 ⟨rfl, hb5⟩; rw [HK.out.1]; have e5 := (hb5.cell (p := ⟨gL, k, none⟩) hl2).trans HTR.out.2.2; have e6 := (hb5.cell (p := ⟨LB, 0, none⟩) hl1).trans HTR.out.1))
  have hb5' : Below w2.heap.size w2 w5 := below_of_drew hb5
  have HEND := hid (HAL.out.trans ((HB2.out.trans (hb5'.mono HB2.out.size)).mono HAL.out.size))
  have hz := HAL.out.size
  have HRE := hid (show FInts w5 w.heap.size w5.heap.size (.slice (some ⟨ak, 0, none⟩) n ck) (lst n (idF n L q hP.good)) from (HRK.out.keep hb5').mono hz hb5'.size)
  clear hb5'
  all_goals go_wp2
  all_goals go_ret
  all_goals exact ⟨_, rfl, HRE.out, HEND.out⟩

set_option maxRecDepth 100000 in
set_option maxHeartbeats 1000000 in
theorem iIdentityPile_u (n : Int) (v : Value) (L : List Lnk) (q : Int) (w : World) (h : RLinks w v L) :
    Calls Try.prog 22 #[.int .i64 n, v, .int .i64 q] w (RetIB w (idpB n L q)) := by
  have HR := hid h
  obtain ⟨a, cap, rfl⟩ := h.form
  clear h
  rcases Bool.eq_false_or_eq_true (piGB n L q) with t1 | t1
  · obtain ⟨m, k, hn, hq, hm, hk, hP⟩ := piGB_nat t1
    have hy := idpB_yes t1
    rw [hm, hk, idL_eq hP.good] at hy
    subst hn
    subst hq
    have HY := hid hy
    clear hm hk hy
    go_enter Try.func22, Try.ntmps22
    go_wp2_with fail
    refine (tableOf_yes m k _ L _ HR.out t1).mono ?_
    rintro e w1 ⟨g, rfl, hg, hb1, -⟩
    have hal : Below w1.heap.size w1 (w1.alloc (.cells #[.pointer (some ⟨g, 0, none⟩), .int .i64 k] 54)) := (Below.refl _ _).alloc (Nat.le_refl _) _
    have HG := hid (hg.keep hal)
    have HB1 := hid (hb1.trans (hal.mono hb1.size))
    clear hg hb1 hal
    go_wp2_with fail
    refine (identity_c hP _ HG.out).mono ?_
    rintro e w2 ⟨u, rfl, hF, hb2⟩
    have HF := hid (hF.mono HB1.out.size (Nat.le_refl _))
    have HB2 := hid (HB1.out.trans (hb2.mono HB1.out.size))
    obtain ⟨a3, n3, c3, rfl⟩ := hF.form3
    clear hF hb2
    go_wp2
    go_ret2
    exact ⟨_, by rw [HY.out]; rfl, by rw [HY.out]; exact HF.out, HB2.out⟩
  · have HE := hid (idpB_no t1)
    go_enter Try.func22, Try.ntmps22
    go_wp2_with fail
    refine (tableOf_no n q _ L _ HR.out t1).mono ?_
    rintro e w1 ⟨ap, x, rfl, hb1⟩
    have HB := hid (hb1.alloc hb1.size (.cells #[.pointer ap, .int .i64 x] 54))
    clear hb1
    go_wp2
    go_ret2
    exact ⟨_, by rw [HE.out]; rfl, by rw [HE.out]; exact ints_nil _ _ _, HB.out⟩

end Go.Proofs.Ytifdhapaonideaa
