/- OppositePile: the program's search for the opposite. -/
import Derived.Test.YtifdhapaonideaaPileR6
namespace Go.Proofs.Ytifdhapaonideaa
open Go.RowKit
open Go.Lib (hid)

section
variable {n q p : Nat} {L : List Lnk}
/-- what the search for the opposite asks -/
noncomputable def askOp (G : Gr) (n q : Nat) (d : Nat → Int) (e : List Int) (x : List Int) : Bool := decide (lst n (Gr.stb G q (fun i => x.getD i 0 + d i)) = e)
theorem opp_find (hP : PG n L q) {f : Nat → Int} (hz : PilZ n q 50 f) (hr : Gr.Rec (grL n L hP.good) q f) : (recL n L q).find? (askOp (grL n L hP.good) n q f (lst n (idF n L q hP.good))) = some (oppL n L q f) := by
  obtain ⟨W, _⟩ := Gr.wt8 (G := grL n L hP.good) hP.hq hP.con
  have ho := Gr.op_rec (G := grL n L hP.good) hP.hq W hP.con hr (Gr.ord (grL n L hP.good) q f)
  have hoz := op_pil hP hz (Gr.ord (grL n L hP.good) q f)
  have key : ∀ y, y ∈ recL n L q → (askOp (grL n L hP.good) n q f (lst n (idF n L q hP.good)) y = true ↔ Gr.Eqv (grL n L hP.good) q (fun i => y.getD i 0) (Gr.opp (grL n L hP.good) q f)) := fun y hy => by
    obtain ⟨k1, k2, k3⟩ := recL_mem hP hy
    unfold askOp
    rw [decide_eq_true_iff, ← Gr.opp_iff (G := grL n L hP.good) hP.hq W hP.con hr k2]
    exact same_eqv hP.good (Gr.stb_sink _) (id_pil hP).2
  rw [oppL_eq hP.good]
  refine find_only (rec_mem hP ho hoz.2) ((key _ (rec_mem hP ho hoz.2)).2 (fun v hv _ => lst_at _ hv)) (fun y hy hp => ?_)
  obtain ⟨k1, k2, k3⟩ := recL_mem hP hy
  rw [lst_of k1]
  refine lst_eqv hP.good ((key y hy).1 hp) ?_
  have : Gr.opp (grL n L hP.good) q f q = 0 := hoz.2
  rw [this]; exact k3

set_option maxRecDepth 100000 in
set_option maxHeartbeats 2000000 in
theorem oppositeF_c (hP : PG n L q) (bt db eb : Nat) (dv ev r : Value) (x el : List Int) (f : Nat → Int) (w : World)
    (hp : RG w (.pointer (some ⟨p, 0, none⟩)) n L) (t0 : w.cell? ⟨bt, 0, none⟩ = some (.pointer (some ⟨p, 0, none⟩))) (t1 : w.cell? ⟨bt, 1, none⟩ = some (.int .i64 q)) (td : w.cell? ⟨db, 0, none⟩ = some dv) (te : w.cell? ⟨eb, 0, none⟩ = some ev)
    (hr : RInts w r x) (hd : RInts w dv (lst n f)) (he : RInts w ev el) (hx : x ∈ recL n L q) (hz : PilZ n q 50 f) :
    Calls Try.prog 52 (#[r] ++ #[.pointer (some ⟨bt, 0, none⟩), .pointer (some ⟨db, 0, none⟩), .pointer (some ⟨eb, 0, none⟩)]) w fun e w' => e = .returned (.bool (askOp (grL n L hP.good) n q f el x)) ∧ Below w.heap.size w w' := by
  show Calls Try.prog 52 #[r, .pointer (some ⟨bt, 0, none⟩), .pointer (some ⟨db, 0, none⟩), .pointer (some ⟨eb, 0, none⟩)] w _
  have hn8 := hP.good.n8
  have hn1 := hP.good.n1
  obtain ⟨z1, e1⟩ := recL_pil hP hx
  have HPW : Hid (RG w.drew (.pointer (some ⟨p, 0, none⟩)) n L) := hp
  have HX : Hid (RInts w.drew r (lst n (fun i => x.getD i 0))) := by rw [← e1]; exact hr
  have HD : Hid (RInts w.drew dv (lst n f)) := hd
  have HZ := hid (And.intro z1 (hz.mono (show (50 : Int) ≤ 1000 by decide)))
  have HE := hid he
  obtain ⟨gd, od, cd, rfl, _, _, _⟩ := ri_open hd (by omega)
  obtain ⟨a1, c1, rfl, _, _, hc1⟩ := hr
  obtain ⟨a2, c2, rfl, _, _, hc2⟩ := he
  have hl0 := cell_lt t0
  have hl1 := cell_lt td
  have hl2 := cell_lt te
  clear hp z1 e1 hx hd hc1 hc2 hz
  go_enter Try.func52, Try.ntmps52
  go_upto_region 1 with fail
  go_region_held3 (fun w' => w'.cell? ⟨bt, 0, none⟩ = some (.pointer (some ⟨p, 0, none⟩)) ∧ w'.cell? ⟨bt, 1, none⟩ = some (.int .i64 q) ∧ w'.cell? ⟨db, 0, none⟩ = some (.slice (some ⟨gd, od, none⟩) n cd) ∧ w'.cell? ⟨eb, 0, none⟩ = some (.slice a2 el.length c2))
    (first | go_keep | exact ⟨m0, m1, m2, m3⟩ | exact ⟨n0, n1, n2, n3⟩)
    (first
      | (go_at_call 44; (with_reducible refine (sum_c n q p _ _ L _ _ _ hP HPW.out HX.out HD.out HZ.out.1 HZ.out.2).mono ?_); rintro e w5 ⟨u5, rfl, hF5, hb5⟩; have hb5' : Below w.heap.size w w5 := below_of_drew hb5; have HF5 := hid hF5.r; have HE5 := hid (HE.out.keep hb5'); have m0 := (hb5'.cell (p := ⟨bt, 0, none⟩) hl0).trans t0; have m1 := (hb5'.cell (p := ⟨bt, 1, none⟩) hl0).trans t1; have m2 := (hb5'.cell (p := ⟨db, 0, none⟩) hl1).trans td; have m3 := (hb5'.cell (p := ⟨eb, 0, none⟩) hl2).trans te; obtain ⟨a5, n5, c5, rfl⟩ := hF5.form3; clear hF5)
      | (go_at_call 53; (with_reducible refine (equal_c _ _ _ el _ HF5.out HE5.out).mono ?_); rintro e w6 ⟨rfl, nd, rfl⟩; have hb6 : Below w5.heap.size w5 (w5.drewN nd) := below_drewN (Below.refl _ _) nd; have n0 : (w5.drewN nd).cell? ⟨bt, 0, none⟩ = _ := m0; have n1 : (w5.drewN nd).cell? ⟨bt, 1, none⟩ = _ := m1; have n2 : (w5.drewN nd).cell? ⟨db, 0, none⟩ = _ := m2; have n3 : (w5.drewN nd).cell? ⟨eb, 0, none⟩ = _ := m3))
  have HBE := hid (hb5'.trans (hb6.mono (show w.heap.size ≤ w5.heap.size from hb5'.size)))
  go_wp2
  go_ret
  exact ⟨rfl, HBE.out⟩
end

set_option maxRecDepth 100000 in
set_option maxHeartbeats 4000000 in
theorem iOppositePile_u (n : Int) (v : Value) (L : List Lnk) (q : Int) (u : Value) (d : List Int) (w : World) (h : RLinks w v L) (hd : RInts w u d) :
    Calls Try.prog 16 #[.int .i64 n, v, .int .i64 q, u] w (RetIB w (oppB n L q d)) := by
  have HR := hid h
  have HD := hid hd
  obtain ⟨a, cap, rfl⟩ := h.form
  obtain ⟨a2, cap2, rfl, _, _, hc⟩ := hd
  have hal : Below w.heap.size w (w.alloc (.cells #[.slice a2 d.length cap2] 25)) := (Below.refl _ _).alloc (Nat.le_refl _) _
  have dbx : (w.alloc (.cells #[.slice a2 d.length cap2] 25)).cell? ⟨w.heap.size, 0, none⟩ = some (.slice a2 d.length cap2) := cell_new _ _ _
  have HAL := hid hal
  have HDB := hid dbx
  clear h hc hal dbx
  rcases Bool.eq_false_or_eq_true (piRB n L q d) with t1 | t1
  · obtain ⟨m, k, hn, hq, hm, hk, hP, hl, hz, hr, _⟩ := piRB_parts t1
    have HDL := hid (rints_lst HD.out hl)
    have hy := oppB_yes t1
    have hfind := opp_find hP hz hr
    rw [hm, hk] at hy
    obtain ⟨f, hf⟩ : ∃ f : Nat → Int, (fun i => d.getD i 0) = f := ⟨_, rfl⟩
    rw [hf] at hy hz hfind HDL
    obtain ⟨ix, hk1, hk2, hk3⟩ := findB_at (askOp (grL m L hP.good) m k f (lst m (idF m L k hP.good))) [] _ (recL m L k) 0 hfind
    rw [Nat.zero_add] at hk1
    have hol : (oppL m L k f).length = m := by rw [oppL_eq hP.good, lst_len]
    have HK := hid (And.intro hk1 (And.intro hk2 (And.intro hk3 hol)))
    subst hn
    subst hq
    have HY := hid hy
    have HZ := hid hz
    have hmm := hP.n1
    have HT := hid t1
    clear hm hk hy hz hr hf hfind hk1 hk2 hk3 hol hl t1
    go_enter Try.func16, Try.ntmps16
    go_wp2_with fail
    refine (withRec_yes m k _ _ L d _ (HR.out.keep HAL.out) (HD.out.keep HAL.out) HT.out).mono ?_
    rintro e w1 ⟨g, rfl, hg, hb1, -⟩
    obtain ⟨c0, c1, hw2⟩ := tnew w1 (some ⟨g, 0, none⟩) k
    obtain ⟨w2, hww⟩ : ∃ w2 : World, w2 = (w1.alloc (.cells #[.pointer (some ⟨g, 0, none⟩), .int .i64 k] 54)) := ⟨_, rfl⟩
    rw [← hww] at hw2 c0 c1
    have HWW := hid hww
    have hb2 := hb1.trans (hw2.mono hb1.size)
    have HG : Hid (RG w2.drew (.pointer (some ⟨g, 0, none⟩)) m L) := by have := hg.keep hw2; exact this
    have HB2 := hid hb2
    have hlt1 := cell_lt c0
    obtain ⟨BX, hBX⟩ : ∃ BX, w1.heap.size = BX := ⟨_, rfl⟩
    rw [hBX] at c0 c1 hlt1
    have HC := hid (And.intro c0 c1)
    have hneE : BX ≠ w2.heap.size := by omega
    have hneE' : w2.heap.size ≠ BX := fun e => hneE e.symm
    have HALE : Hid (Below w2.heap.size w2 (w2.alloc (.cells #[.slice none 0 0] 25))) := (Below.refl _ _).alloc (Nat.le_refl _) _
    have HGE : Hid (RG (w2.alloc (.cells #[.slice none 0 0] 25)).drew (.pointer (some ⟨g, 0, none⟩)) m L) := by have := (show RG w2 (.pointer (some ⟨g, 0, none⟩)) m L from HG.out).keep HALE.out; exact this
    have HEX0 : Hid (w2.heap.size < (w2.alloc (.cells #[.slice none 0 0] 25)).heap.size ∧ (w2.alloc (.cells #[.slice none 0 0] 25)).heap[w2.heap.size]? = some (.cells #[.slice none 0 0] 25 (0, 0))) := ⟨(by rw [World.size_alloc]; omega), heap_alloc_new _ _⟩
    clear hg hb1 hw2 hww hb2
    go_upto_region 4 with fail
    rw [← HWW.out]
    clear hBX
    go_cut [12, 13] from 24 to 27 (fun s12 s13 wx => ∃ (EB : Nat) (ev : Value) (gL cL : Nat), s12 = .pointer (some ⟨EB, 0, none⟩) ∧ s13 = .slice (some ⟨gL, 0, none⟩) (recL m L k).length cL ∧ wx.cell? ⟨EB, 0, none⟩ = some ev ∧ RInts wx ev (lst m (idF m L k hP.good)) ∧ FMat wx w2.heap.size wx.heap.size (.slice (some ⟨gL, 0, none⟩) (recL m L k).length cL) (recL m L k) ∧ Below w2.heap.size w2 wx)
    case first =>
      go_region_held3 (fun w' => w'.cell? ⟨BX, 0, none⟩ = some (.pointer (some ⟨g, 0, none⟩)) ∧ w'.cell? ⟨BX, 1, none⟩ = some (.int .i64 k))
        (first | go_keep | exact ⟨m0, m1⟩ | exact ⟨n0, n1⟩)
        (first
          | (go_at_call 49; (with_reducible refine (identity_c hP _ HG.out).mono ?_); rintro e w5 ⟨u5, rfl, hF5, hb5⟩; have hb5' : Below w2.heap.size w2 w5 := below_of_drew hb5; have hneX : BX ≠ w5.heap.size := (by have := hb5'.size; omega); have hneX' : w5.heap.size ≠ BX := fun e => hneX e.symm; have HF5 := hid (show FInts w5 w2.heap.size w5.heap.size u5 (lst m (idF m L k hP.good)) from hF5); have HG5 := hid (HG.out.keep hb5); have HAL5 : Hid (Below w5.heap.size w5 (w5.alloc (.cells #[.slice none 0 0] 25))) := (Below.refl _ _).alloc (Nat.le_refl _) _; have HG5A := hid ((HG.out.keep hb5).keep HAL5.out); have HE5 : Hid (w5.heap.size < (w5.alloc (.cells #[.slice none 0 0] 25)).heap.size ∧ (w5.alloc (.cells #[.slice none 0 0] 25)).heap[w5.heap.size]? = some (.cells #[.slice none 0 0] 25 (0, 0))) := ⟨(by rw [World.size_alloc]; omega), heap_alloc_new _ _⟩; have m0 := (hb5'.cell (p := ⟨BX, 0, none⟩) hlt1).trans HC.out.1; have m1 := (hb5'.cell (p := ⟨BX, 1, none⟩) hlt1).trans HC.out.2; obtain ⟨a5, n5, c5, rfl⟩ := hF5.form3; clear hF5)
          | (go_at_call 49; (with_reducible refine (identity_c hP _ HGE.out).mono ?_); rintro e w5 ⟨u5, rfl, hF5, hb5⟩; have hb51 : Below (w2.alloc (.cells #[.slice none 0 0] 25)).heap.size (w2.alloc (.cells #[.slice none 0 0] 25)) w5 := below_of_drew hb5; have hb5' : Below w2.heap.size w2 w5 := HALE.out.trans (hb51.mono HALE.out.size); have HEX5 := hid (And.intro (Nat.lt_of_lt_of_le HEX0.out.1 hb51.size) ((hb51.block _ HEX0.out.1).trans HEX0.out.2)); have hneX : BX ≠ w5.heap.size := (by have := hb5'.size; omega); have hneX' : w5.heap.size ≠ BX := fun e => hneX e.symm; have HF5 := hid (show FInts w5 (w2.heap.size + 1) w5.heap.size u5 (lst m (idF m L k hP.good)) by have := hF5; simpa using this); have HG5 := hid (HGE.out.keep hb5); have HAL5 : Hid (Below w5.heap.size w5 (w5.alloc (.cells #[.slice none 0 0] 25))) := (Below.refl _ _).alloc (Nat.le_refl _) _; have HG5A := hid ((HGE.out.keep hb5).keep HAL5.out); have HE5 : Hid (w5.heap.size < (w5.alloc (.cells #[.slice none 0 0] 25)).heap.size ∧ (w5.alloc (.cells #[.slice none 0 0] 25)).heap[w5.heap.size]? = some (.cells #[.slice none 0 0] 25 (0, 0))) := ⟨(by rw [World.size_alloc]; omega), heap_alloc_new _ _⟩; have m0 := (hb5'.cell (p := ⟨BX, 0, none⟩) hlt1).trans HC.out.1; have m1 := (hb5'.cell (p := ⟨BX, 1, none⟩) hlt1).trans HC.out.2; obtain ⟨a5, n5, c5, rfl⟩ := hF5.form3; clear hF5)
          | (go_at_call 50; (with_reducible refine (recurrent_c hP (w5.alloc (.cells #[.slice none 0 0] 25)) HG5A.out).mono ?_); rintro e w6 ⟨u6, rfl, hF6, hb6⟩; have hb6' : Below w2.heap.size w2 w6 := hb5'.trans ((HAL5.out.trans (hb6.mono HAL5.out.size)).mono hb5'.size); have HI6 := hid ((HF5.out.keep HAL5.out).keep hb6); have HF6 := hid hF6; have n0 := (hb6'.cell (p := ⟨BX, 0, none⟩) hlt1).trans HC.out.1; have n1 := (hb6'.cell (p := ⟨BX, 1, none⟩) hlt1).trans HC.out.2; have e6 := (hb6.block _ HE5.out.1).trans HE5.out.2; have x0 : w6.cell? ⟨w5.heap.size, 0, none⟩ = some (.slice none 0 0) := (by rw [cell_of_row _ _ _ _ _ _ e6]; rfl); have x1 := frozen_of_row w6 w5.heap.size 0 _ _ e6; obtain ⟨gL, cL, rfl, -, -⟩ := hF6.form_some (by have := HK.out.2.1; omega); clear hF6)
          | (go_at_call 50; (with_reducible refine (recurrent_c hP w5 HG5.out).mono ?_); rintro e w6 ⟨u6, rfl, hF6, hb6⟩; have hb6' : Below w2.heap.size w2 w6 := hb5'.trans (hb6.mono hb5'.size); have HI6 := hid (HF5.out.keep hb6); have HF6 := hid hF6; have n0 := (hb6'.cell (p := ⟨BX, 0, none⟩) hlt1).trans HC.out.1; have n1 := (hb6'.cell (p := ⟨BX, 1, none⟩) hlt1).trans HC.out.2; have e6 := (hb6.block _ HEX5.out.1).trans HEX5.out.2; have x0 : w6.cell? ⟨w2.heap.size, 0, none⟩ = some (.slice none 0 0) := (by rw [cell_of_row _ _ _ _ _ _ e6]; rfl); have x1 := frozen_of_row w6 w2.heap.size 0 _ _ e6; obtain ⟨gL, cL, rfl, -, -⟩ := hF6.form_some (by have := HK.out.2.1; omega); clear hF6)
          | (go_at_call 50; (with_reducible refine (recurrent_c hP w5 HG5.out).mono ?_); rintro e w6 ⟨u6, rfl, hF6, hb6⟩; have hb6' : Below w2.heap.size w2 w6 := hb5'.trans (hb6.mono hb5'.size); have HI6 := hid (HF5.out.keep hb6); have HF6 := hid hF6; have n0 := (hb6'.cell (p := ⟨BX, 0, none⟩) hlt1).trans HC.out.1; have n1 := (hb6'.cell (p := ⟨BX, 1, none⟩) hlt1).trans HC.out.2; obtain ⟨gL, cL, rfl, -, -⟩ := hF6.form_some (by have := HK.out.2.1; omega); clear hF6))
      · have hal6 : Below w6.heap.size w6 (w6.alloc (.cells #[.slice a5 n5 c5] 25)) := (Below.refl _ _).alloc (Nat.le_refl _) _
        have HR6 := hid (show ∃ (EB : Nat) (ev : Value) (gL' cL' : Nat), Value.pointer (some ⟨w6.heap.size, 0, none⟩) = .pointer (some ⟨EB, 0, none⟩) ∧ Value.slice (some ⟨gL, 0, none⟩) (recL m L k).length cL = .slice (some ⟨gL', 0, none⟩) (recL m L k).length cL' ∧ (w6.alloc (.cells #[.slice a5 n5 c5] 25)).cell? ⟨EB, 0, none⟩ = some ev ∧ RInts (w6.alloc (.cells #[.slice a5 n5 c5] 25)) ev (lst m (idF m L k hP.good)) ∧ FMat (w6.alloc (.cells #[.slice a5 n5 c5] 25)) w2.heap.size (w6.alloc (.cells #[.slice a5 n5 c5] 25)).heap.size (.slice (some ⟨gL', 0, none⟩) (recL m L k).length cL') (recL m L k) ∧ Below w2.heap.size w2 (w6.alloc (.cells #[.slice a5 n5 c5] 25)) from
          ⟨w6.heap.size, _, gL, cL, rfl, rfl, cell_new _ _ _, (HI6.out.keep hal6).r, (HF6.out.keep hal6).mono hb5'.size hal6.size, hb6'.trans (hal6.mono hb6'.size)⟩)
        clear hal6 m0 m1 n0 n1
        go_wp2_with fail
        go_meet
        exact HR6.out
      · have hzz := hb5'.size
        have hz6 := hb6'.size
        have hz56 : w5.heap.size ≤ w6.heap.size := by have := hb6.size; first | omega | (simp at this; omega)
        have hsz : (w6.setCell ⟨w5.heap.size, 0, none⟩ (.slice a5 n5 c5)).heap.size = w6.heap.size := by simp [World.setCell]
        have hoth : ∀ b, b ≠ w5.heap.size → (w6.setCell ⟨w5.heap.size, 0, none⟩ (.slice a5 n5 c5)).heap[b]? = w6.heap[b]? := fun b hb => heap_setCell_other _ _ _ _ hb
        have hce : (w6.setCell ⟨w5.heap.size, 0, none⟩ (.slice a5 n5 c5)).cell? ⟨w5.heap.size, 0, none⟩ = some (.slice a5 n5 c5) := by
          rw [cell_of_row _ _ _ _ _ _ (heap_setCell_same w6 w5.heap.size 0 _ _ (.slice a5 n5 c5) e6)]; rfl
        have hfm := (HF6.out.same (w' := w6.setCell ⟨w5.heap.size, 0, none⟩ (.slice a5 n5 c5)) (fun b h1 _ _ => hoth b (by simp at h1; omega))).mono (lo' := w2.heap.size) (hi' := w6.heap.size) (by simp; omega) (Nat.le_refl _)
        have hfi := (HI6.out.same (w' := w6.setCell ⟨w5.heap.size, 0, none⟩ (.slice a5 n5 c5)) (fun b _ h2 _ => hoth b (by omega))).r
        have hbl := hb6'.setCell (p := ⟨w5.heap.size, 0, none⟩) (show w2.heap.size ≤ w5.heap.size by omega) (.slice a5 n5 c5)
        have HR6 := hid (show ∃ (EB : Nat) (ev : Value) (gL' cL' : Nat), Value.pointer (some ⟨w5.heap.size, 0, none⟩) = .pointer (some ⟨EB, 0, none⟩) ∧ Value.slice (some ⟨gL, 0, none⟩) (recL m L k).length cL = .slice (some ⟨gL', 0, none⟩) (recL m L k).length cL' ∧ (w6.setCell ⟨w5.heap.size, 0, none⟩ (.slice a5 n5 c5)).cell? ⟨EB, 0, none⟩ = some ev ∧ RInts (w6.setCell ⟨w5.heap.size, 0, none⟩ (.slice a5 n5 c5)) ev (lst m (idF m L k hP.good)) ∧ FMat (w6.setCell ⟨w5.heap.size, 0, none⟩ (.slice a5 n5 c5)) w2.heap.size (w6.setCell ⟨w5.heap.size, 0, none⟩ (.slice a5 n5 c5)).heap.size (.slice (some ⟨gL', 0, none⟩) (recL m L k).length cL') (recL m L k) ∧ Below w2.heap.size w2 (w6.setCell ⟨w5.heap.size, 0, none⟩ (.slice a5 n5 c5)) from
          ⟨_, _, gL, cL, rfl, rfl, hce, hfi, by rw [hsz]; exact hfm, hbl⟩)
        clear m0 m1 n0 n1 x0 x1 hsz hoth hce hfm hfi hbl hz6 hzz hz56
        go_wp2_with fail
        go_meet
        exact HR6.out
      · have hzz := hb5'.size
        have hz6 := hb6'.size
        have hz56 : w5.heap.size ≤ w6.heap.size := by have := hb6.size; first | omega | (simp at this; omega)
        have hsz : (w6.setCell ⟨w2.heap.size, 0, none⟩ (.slice a5 n5 c5)).heap.size = w6.heap.size := by simp [World.setCell]
        have hoth : ∀ b, b ≠ w2.heap.size → (w6.setCell ⟨w2.heap.size, 0, none⟩ (.slice a5 n5 c5)).heap[b]? = w6.heap[b]? := fun b hb => heap_setCell_other _ _ _ _ hb
        have hce : (w6.setCell ⟨w2.heap.size, 0, none⟩ (.slice a5 n5 c5)).cell? ⟨w2.heap.size, 0, none⟩ = some (.slice a5 n5 c5) := by
          rw [cell_of_row _ _ _ _ _ _ (heap_setCell_same w6 w2.heap.size 0 _ _ (.slice a5 n5 c5) e6)]; rfl
        have hw25 : w2.heap.size < w5.heap.size := HEX5.out.1
        have hfm := (HF6.out.same (w' := w6.setCell ⟨w2.heap.size, 0, none⟩ (.slice a5 n5 c5)) (fun b h1 _ _ => hoth b (by omega))).mono (lo' := w2.heap.size) (hi' := w6.heap.size) (by omega) (Nat.le_refl _)
        have hfi := (HI6.out.same (w' := w6.setCell ⟨w2.heap.size, 0, none⟩ (.slice a5 n5 c5)) (fun b h1 _ _ => hoth b (by omega))).r
        have hbl := hb6'.setCell (p := ⟨w2.heap.size, 0, none⟩) (show w2.heap.size ≤ w2.heap.size by omega) (.slice a5 n5 c5)
        have HR6 := hid (show ∃ (EB : Nat) (ev : Value) (gL' cL' : Nat), Value.pointer (some ⟨w2.heap.size, 0, none⟩) = .pointer (some ⟨EB, 0, none⟩) ∧ Value.slice (some ⟨gL, 0, none⟩) (recL m L k).length cL = .slice (some ⟨gL', 0, none⟩) (recL m L k).length cL' ∧ (w6.setCell ⟨w2.heap.size, 0, none⟩ (.slice a5 n5 c5)).cell? ⟨EB, 0, none⟩ = some ev ∧ RInts (w6.setCell ⟨w2.heap.size, 0, none⟩ (.slice a5 n5 c5)) ev (lst m (idF m L k hP.good)) ∧ FMat (w6.setCell ⟨w2.heap.size, 0, none⟩ (.slice a5 n5 c5)) w2.heap.size (w6.setCell ⟨w2.heap.size, 0, none⟩ (.slice a5 n5 c5)).heap.size (.slice (some ⟨gL', 0, none⟩) (recL m L k).length cL') (recL m L k) ∧ Below w2.heap.size w2 (w6.setCell ⟨w2.heap.size, 0, none⟩ (.slice a5 n5 c5)) from
          ⟨_, _, gL, cL, rfl, rfl, hce, hfi, by rw [hsz]; exact hfm, hbl⟩)
        clear m0 m1 n0 n1 x0 x1 hsz hoth hce hfm hfi hbl hz6 hzz hz56
        go_wp2_with fail
        go_meet
        exact HR6.out
    case rest =>
      obtain ⟨EB, ev, gL, cL, rfl, rfl, he, hev, hFM, hbc⟩ := hcut
      obtain ⟨w3, rfl⟩ : ∃ w3 : World, w3 = wc := ⟨_, rfl⟩
      obtain ⟨len, hlen⟩ : ∃ len, (recL m L k).length = len := ⟨_, rfl⟩
      have hix := HK.out.2.1
      rw [hlen] at hix ⊢
      obtain ⟨gk, rk, yk, hek, _, _, trk, _, hrk, HYK, _⟩ := hFM.at (i := ix) (by omega)
      simp only [Option.some.injEq, Addr.mk.injEq, and_true] at hek
      subst hek
      have hyk : yk = oppL m L k f := by rw [← HYK.out]; exact HK.out.2.2.1
      subst hyk
      have HRK := hid hrk
      obtain ⟨ak, ck, rfl⟩ : ∃ ak ck, rk = .slice ak m ck := by obtain ⟨ak, ck, h⟩ := hrk.form; exact ⟨ak, ck, by rw [h, HK.out.2.2.2]⟩
      have HTK := hid trk
      have hMR : RMat w3 (.slice (some ⟨gL, 0, none⟩) len cL) (recL m L k) := by rw [← hlen]; exact hFM.r
      have HMR := hid hMR
      have HB3 := hid hbc
      have HG3 := hid ((show RG w2 (.pointer (some ⟨g, 0, none⟩)) m L from HG.out).keep hbc)
      have d0 := (hbc.cell (p := ⟨BX, 0, none⟩) hlt1).trans HC.out.1
      have d1 := (hbc.cell (p := ⟨BX, 1, none⟩) hlt1).trans HC.out.2
      have hb3 := HB2.out.trans (hbc.mono HB2.out.size)
      have d2 := (hb3.cell (p := ⟨w.heap.size, 0, none⟩) (cell_lt HDB.out)).trans HDB.out
      have HALL := hid (HAL.out.trans (hb3.mono HAL.out.size))
      have hdl : RInts w3 (.slice a2 d.length cap2) (lst m f) := HDL.out.keep HALL.out
      have hcl : ∀ r x w', Below w3.heap.size w3 w' → RInts w' r x → x ∈ recL m L k → Calls Try.prog 52 (#[r] ++ #[.pointer (some ⟨BX, 0, none⟩), .pointer (some ⟨w.heap.size, 0, none⟩), .pointer (some ⟨EB, 0, none⟩)]) w' fun e w'' => e = .returned (.bool (askOp (grL m L hP.good) m k f (lst m (idF m L k hP.good)) x)) ∧ Below w'.heap.size w' w'' := fun r x w' hbw hr hx =>
        oppositeF_c hP BX w.heap.size EB _ ev r x _ f w' (HG3.out.keep hbw) ((hbw.cell (p := ⟨BX, 0, none⟩) (cell_lt d0)).trans d0) ((hbw.cell (p := ⟨BX, 1, none⟩) (cell_lt d1)).trans d1) ((hbw.cell (p := ⟨w.heap.size, 0, none⟩) (cell_lt d2)).trans d2) ((hbw.cell (p := ⟨EB, 0, none⟩) (cell_lt he)).trans he) hr (hdl.keep hbw) (hev.keep hbw) hx HZ.out
      have HCL := hid hcl
      have hxz : (ix : Int) < (len : Int) := by omega
      clear hcl hdl hev hFM hbc hb3 hrk HYK hMR d0 d1 d2 he hlen hix
      go_wp2_with fail
      refine (indexFuncMB_c _ (recL m L k) _ _ _ (askOp (grL m L hP.good) m k f (lst m (idF m L k hP.good))) HMR.out Try.call52 HCL.out).mono ?_
      rintro e w4 ⟨rfl, hb4⟩
      rw [HK.out.1]
      have e5 := (hb4.cell (p := ⟨gL, ix, none⟩) (cell_lt HTK.out)).trans HTK.out
      have HEND := hid (HALL.out.trans (hb4.mono HALL.out.size))
      have HRE := hid (show FInts w4 w.heap.size w4.heap.size (.slice ak m ck) (oppL m L k f) from (HRK.out.keep hb4).mono (Nat.le_trans HAL.out.size HB2.out.size) hb4.size)
      clear hb4 trk
      go_wp2
      go_ret2
      exact ⟨_, by rw [HY.out]; rfl, by rw [HY.out]; exact HRE.out, HEND.out⟩
  · have HE := hid (oppB_no t1)
    go_enter Try.func16, Try.ntmps16
    go_wp2_with fail
    refine (withRec_no n q _ _ L d _ (HR.out.keep HAL.out) (HD.out.keep HAL.out) t1).mono ?_
    rintro e w1 ⟨ap, x, rfl, hb1⟩
    have HB := hid (HAL.out.trans ((hb1.alloc hb1.size (.cells #[.pointer ap, .int .i64 x] 54)).mono HAL.out.size))
    clear hb1
    go_wp2
    go_ret2
    exact ⟨_, by rw [HE.out]; rfl, by rw [HE.out]; exact ints_nil _ _ _, HB.out⟩

end Go.Proofs.Ytifdhapaonideaa
