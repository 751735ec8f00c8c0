/- Piles: the program's topple. -/
import Derived.Test.YtifdhapaonideaaPileI2
import Derived.Deep.CutRange
namespace Go.Proofs.Ytifdhapaonideaa
open Go.RowKit
open Go.Lib (hid)

set_option maxRecDepth 100000 in
set_option maxHeartbeats 4000000 in
theorem topple_c (n q p : Nat) (u : Value) (L : List Lnk) (f : Nat → Int) (w : World) (hP : PG n L q) (hp : RG w (.pointer (some ⟨p, 0, none⟩)) n L) (hd : RInts w u (lst n f)) (hf : PilF n q f) :
    Calls Try.prog 38 #[.agg #[.pointer (some ⟨p, 0, none⟩), .int .i64 q], u] w (RetTop w (lst n (Gr.stb (grL n L hP.good) q f)) (lst n (Gr.odo (grL n L hP.good) q f))) := by
  have hn8 := hP.good.n8
  have hn1 := hP.good.n1
  have hq := hP.hq
  have hqz : (q : Int) < (n : Int) := by omega
  obtain ⟨W, _⟩ := Gr.wt8 (G := grL n L hP.good) hq hP.con
  have HG := hid hP.good
  have HC : Hid ((grL n L HG.out).Conn q) := hP.con
  have HPF := hid hf
  have hal0 : Below w.heap.size w (w.alloc (.cells #[.pointer (some ⟨p, 0, none⟩), .int .i64 q] 54)) := (Below.refl _ _).alloc (Nat.le_refl _) _
  obtain ⟨gd, od, cd, rfl, _, _, _⟩ := ri_open hd (by omega)
  have hbx : (w.alloc (.cells #[.pointer (some ⟨p, 0, none⟩), .int .i64 q] 54)).heap[w.heap.size]? = some (.cells #[.pointer (some ⟨p, 0, none⟩), .int .i64 q] 54 (0, 0)) := heap_alloc_new _ _
  have hsz0 : (w.alloc (.cells #[.pointer (some ⟨p, 0, none⟩), .int .i64 q] 54)).heap.size = w.heap.size + 1 := by simp
  go_enter Try.func38, Try.ntmps38
  obtain ⟨wb, hwb⟩ : ∃ wb : World, wb = w.alloc (.cells #[.pointer (some ⟨p, 0, none⟩), .int .i64 q] 54) := ⟨_, rfl⟩
  rw [← hwb] at hal0 hbx hsz0
  have HWB := hid hwb
  have HSZ0 := hid hsz0
  clear hsz0
  have HP := hid (hp.keep hal0)
  have HD := hid (hd.keep hal0)
  have HAL0 := hid hal0
  have HBX := hid (show wb.cell? ⟨w.heap.size, 0, none⟩ = some (.pointer (some ⟨p, 0, none⟩)) ∧ wb.cell? ⟨w.heap.size, 1, none⟩ = some (.int .i64 q) from ⟨by rw [cell_of_row _ _ _ _ _ _ hbx]; rfl, by rw [cell_of_row _ _ _ _ _ _ hbx]; rfl⟩)
  have hc0 : wb.cell? ⟨p, 0, none⟩ = some (.int .i64 n) := by
    obtain ⟨g2, bt, vt, hgg, c0, _⟩ := HP.out
    simp only [Value.pointer.injEq, Option.some.injEq, Addr.mk.injEq, and_true] at hgg
    subst hgg
    exact c0
  have HC0 := hid hc0
  have hmk := run_make_row' (P := Try.prog) 25 3 (.int .i64 0) 8 Try.underlying25 Try.infoInt rfl .i64 .i64 n (by omega) (by omega)
  have hll : (lst n f).length ≤ 1048576 := by rw [lst_len]; omega
  have HDA : Hid (RInts wb.drew (.slice (some ⟨gd, od, none⟩) n cd) (lst n f)) := HD.out
  have HDB : Hid (RInts (wb.alloc (.cells (madeCells #[.int .i64 0] n) 3)).drew (.slice (some ⟨gd, od, none⟩) n cd) (lst n f)) := HD.out.keep ((Below.refl wb.heap.size wb).alloc (Nat.le_refl _) _).drew
  have d0 : ∀ wO : World, Below wb.drew.heap.size wb.drew wO → wO.cell? ⟨p, 0, none⟩ = some (.int .i64 n) ∧ wO.cell? ⟨w.heap.size, 0, none⟩ = some (.pointer (some ⟨p, 0, none⟩)) := fun wO hb => ⟨((below_of_drew hb).cell (p := ⟨p, 0, none⟩) (cell_lt HC0.out)).trans HC0.out, ((below_of_drew hb).cell (p := ⟨w.heap.size, 0, none⟩) (cell_lt HBX.out.1)).trans HBX.out.1⟩
  have HDD := hid d0
  have e1 := HBX.out.1
  obtain ⟨gv, ov, cv, hcv1, hcv2, c20, hvc0⟩ : ∃ gv ov cv : Nat, n ≤ cv ∧ cv ≤ 9223372036854775807 ∧ wb.cell? ⟨p, 2, none⟩ = some (.slice (some ⟨gv, ov, none⟩) n cv) ∧ ∀ i, i < n → wb.cell? ⟨gv, ov + i, none⟩ = some (.int .i64 (valV n L i)) := by
    obtain ⟨g2, bt, vt, hgg, _, _, c2, _, _, hv⟩ := HP.out
    simp only [Value.pointer.injEq, Option.some.injEq, Addr.mk.injEq, and_true] at hgg
    subst hgg
    obtain ⟨gv, ov, cv, rfl, h1, h2, h3⟩ := ri_open hv (by omega)
    exact ⟨gv, ov, cv, h1, h2, c2, h3⟩
  have HV := hid (And.intro c20 hvc0)
  clear hp hd hal0 hbx d0 hf hwb c20 hvc0
  go_upto_region 1 with fail
  rw [← HWB.out]
  go_cut [6, 7] from 9 to 16 (fun s6 s7 wx => ∃ gO cO gB loO hiO : Nat, s6 = .slice (some ⟨gO, 0, none⟩) n cO ∧ s7 = .slice (some ⟨gB, 0, none⟩) n n ∧ FInts wx loO hiO (.slice (some ⟨gO, 0, none⟩) n cO) (lst n f) ∧ FInts wx gB (gB + 1) (.slice (some ⟨gB, 0, none⟩) n n) (lst n (fun _ => 0)) ∧
    Below wb.heap.size wb wx ∧ (hiO ≤ gB ∨ gB + 1 ≤ loO) ∧ wb.heap.size ≤ loO ∧ wb.heap.size ≤ gB ∧ hiO ≤ wx.heap.size ∧ gB + 1 ≤ wx.heap.size)
  case first =>
    go_region_with (first
      | (go_at_call 72; (with_reducible refine (clone_c _ (lst n f) _ HDA.out hll).mono ?_); rintro e wO ⟨uO, rfl, hFO, hbO⟩; obtain ⟨d1, d2⟩ := HDD.out _ hbO)
      | (go_at_call 72; (with_reducible refine (clone_c _ (lst n f) _ HDB.out hll).mono ?_); rintro e wO ⟨uO, rfl, hFO, hbO⟩))
    -- A
    · have hbO' : Below wb.heap.size wb wO := below_of_drew hbO
      have hal : Below wO.heap.size wO (wO.alloc (.cells (madeCells #[.int .i64 0] n) 3)) := (Below.refl _ _).alloc (Nat.le_refl _) _
      have hFO1 : FInts wO wb.heap.size wO.heap.size uO (lst n f) := hFO
      obtain ⟨gO, cO, rfl, hlo, hhi⟩ := fi_form hFO1 (by omega)
      have hszz := hbO'.size
      have HR := hid (show ∃ gO' cO' gB loO hiO : Nat, Value.slice (some ⟨gO, 0, none⟩) n cO = .slice (some ⟨gO', 0, none⟩) n cO' ∧ Value.slice (some ⟨wO.heap.size, 0, none⟩) n n = .slice (some ⟨gB, 0, none⟩) n n ∧ FInts (wO.alloc (.cells (madeCells #[.int .i64 0] n) 3)) loO hiO (.slice (some ⟨gO', 0, none⟩) n cO') (lst n f) ∧ FInts (wO.alloc (.cells (madeCells #[.int .i64 0] n) 3)) gB (gB + 1) (.slice (some ⟨gB, 0, none⟩) n n) (lst n (fun _ => 0)) ∧
    Below wb.heap.size wb (wO.alloc (.cells (madeCells #[.int .i64 0] n) 3)) ∧ (hiO ≤ gB ∨ gB + 1 ≤ loO) ∧ wb.heap.size ≤ loO ∧ wb.heap.size ≤ gB ∧ hiO ≤ (wO.alloc (.cells (madeCells #[.int .i64 0] n) 3)).heap.size ∧ gB + 1 ≤ (wO.alloc (.cells (madeCells #[.int .i64 0] n) 3)).heap.size from
        ⟨gO, cO, wO.heap.size, wb.heap.size, wO.heap.size, rfl, rfl, hFO1.keep hal, fi_made wO n (by omega), hbO'.trans (hal.mono hszz), .inl (Nat.le_refl _), Nat.le_refl _, hszz, by simp, by simp⟩)
      clear hFO hFO1 hbO hbO' hal hmk HDA HDB
      go_wp2_with fail
      go_meet
      exact HR.out
    -- C
    · have hbO' : Below wb.heap.size wb wO := below_of_drew hbO
      have hal : Below wO.heap.size wO (wO.alloc (.cells (madeCells #[.int .i64 0] n) 3)) := (Below.refl _ _).alloc (Nat.le_refl _) _
      have hFO1 : FInts wO wb.heap.size wO.heap.size uO (lst n f) := hFO
      obtain ⟨gO, cO, rfl, hlo, hhi⟩ := fi_form hFO1 (by omega)
      have hszz := hbO'.size
      have HR := hid (show ∃ gO' cO' gB loO hiO : Nat, Value.slice (some ⟨gO, 0, none⟩) n cO = .slice (some ⟨gO', 0, none⟩) n cO' ∧ Value.slice (some ⟨wO.heap.size, 0, none⟩) n n = .slice (some ⟨gB, 0, none⟩) n n ∧ FInts (wO.alloc (.cells (madeCells #[.int .i64 0] n) 3)) loO hiO (.slice (some ⟨gO', 0, none⟩) n cO') (lst n f) ∧ FInts (wO.alloc (.cells (madeCells #[.int .i64 0] n) 3)) gB (gB + 1) (.slice (some ⟨gB, 0, none⟩) n n) (lst n (fun _ => 0)) ∧
    Below wb.heap.size wb (wO.alloc (.cells (madeCells #[.int .i64 0] n) 3)) ∧ (hiO ≤ gB ∨ gB + 1 ≤ loO) ∧ wb.heap.size ≤ loO ∧ wb.heap.size ≤ gB ∧ hiO ≤ (wO.alloc (.cells (madeCells #[.int .i64 0] n) 3)).heap.size ∧ gB + 1 ≤ (wO.alloc (.cells (madeCells #[.int .i64 0] n) 3)).heap.size from
        ⟨gO, cO, wO.heap.size, wb.heap.size, wO.heap.size, rfl, rfl, hFO1.keep hal, fi_made wO n (by omega), hbO'.trans (hal.mono hszz), .inl (Nat.le_refl _), Nat.le_refl _, hszz, by simp, by simp⟩)
      clear hFO hFO1 hbO hbO' hal hmk HDA HDB
      go_wp2_with fail
      go_meet
      exact HR.out
    -- D
    · have hbO' : Below wb.heap.size wb wO := below_of_drew hbO
      have hal : Below wO.heap.size wO (wO.alloc (.cells (madeCells #[.int .i64 0] n) 3)) := (Below.refl _ _).alloc (Nat.le_refl _) _
      have hFO1 : FInts wO wb.heap.size wO.heap.size uO (lst n f) := hFO
      obtain ⟨gO, cO, rfl, hlo, hhi⟩ := fi_form hFO1 (by omega)
      have hszz := hbO'.size
      have HR := hid (show ∃ gO' cO' gB loO hiO : Nat, Value.slice (some ⟨gO, 0, none⟩) n cO = .slice (some ⟨gO', 0, none⟩) n cO' ∧ Value.slice (some ⟨wO.heap.size, 0, none⟩) n n = .slice (some ⟨gB, 0, none⟩) n n ∧ FInts (wO.alloc (.cells (madeCells #[.int .i64 0] n) 3)) loO hiO (.slice (some ⟨gO', 0, none⟩) n cO') (lst n f) ∧ FInts (wO.alloc (.cells (madeCells #[.int .i64 0] n) 3)) gB (gB + 1) (.slice (some ⟨gB, 0, none⟩) n n) (lst n (fun _ => 0)) ∧
    Below wb.heap.size wb (wO.alloc (.cells (madeCells #[.int .i64 0] n) 3)) ∧ (hiO ≤ gB ∨ gB + 1 ≤ loO) ∧ wb.heap.size ≤ loO ∧ wb.heap.size ≤ gB ∧ hiO ≤ (wO.alloc (.cells (madeCells #[.int .i64 0] n) 3)).heap.size ∧ gB + 1 ≤ (wO.alloc (.cells (madeCells #[.int .i64 0] n) 3)).heap.size from
        ⟨gO, cO, wO.heap.size, wb.heap.size, wO.heap.size, rfl, rfl, hFO1.keep hal, fi_made wO n (by omega), hbO'.trans (hal.mono hszz), .inl (Nat.le_refl _), Nat.le_refl _, hszz, by simp, by simp⟩)
      clear hFO hFO1 hbO hbO' hal hmk HDA HDB
      go_wp2_with fail
      go_meet
      exact HR.out
    · have hal : Below wb.heap.size wb (wb.alloc (.cells (madeCells #[.int .i64 0] n) 3)) := (Below.refl _ _).alloc (Nat.le_refl _) _
      have hbO' : Below (wb.alloc (.cells (madeCells #[.int .i64 0] n) 3)).heap.size (wb.alloc (.cells (madeCells #[.int .i64 0] n) 3)) wO := below_of_drew hbO
      have hsa : (wb.alloc (.cells (madeCells #[.int .i64 0] n) 3)).heap.size = wb.heap.size + 1 := by simp
      have hFO1 : FInts wO (wb.heap.size + 1) wO.heap.size uO (lst n f) := by rw [← hsa]; exact hFO
      obtain ⟨gO, cO, rfl, hlo, hhi⟩ := fi_form hFO1 (by omega)
      have hszz := hbO'.size
      have HR := hid (show ∃ gO' cO' gB loO hiO : Nat, Value.slice (some ⟨gO, 0, none⟩) n cO = .slice (some ⟨gO', 0, none⟩) n cO' ∧ Value.slice (some ⟨wb.heap.size, 0, none⟩) n n = .slice (some ⟨gB, 0, none⟩) n n ∧ FInts wO loO hiO (.slice (some ⟨gO', 0, none⟩) n cO') (lst n f) ∧ FInts wO gB (gB + 1) (.slice (some ⟨gB, 0, none⟩) n n) (lst n (fun _ => 0)) ∧
    Below wb.heap.size wb wO ∧ (hiO ≤ gB ∨ gB + 1 ≤ loO) ∧ wb.heap.size ≤ loO ∧ wb.heap.size ≤ gB ∧ hiO ≤ wO.heap.size ∧ gB + 1 ≤ wO.heap.size from
        ⟨gO, cO, wb.heap.size, wb.heap.size + 1, wO.heap.size, rfl, rfl, hFO1, (fi_made wb n (by omega)).keep hbO', hal.trans (hbO'.mono (by omega)), .inr (Nat.le_refl _), by omega, Nat.le_refl _, Nat.le_refl _, by omega⟩)
      clear hFO hFO1 hbO hbO' hal hmk HDA HDB hsa
      go_wp2_with fail
      go_meet
      exact HR.out
  case rest =>
    obtain ⟨gO, cO, gB, loO, hiO, rfl, rfl, h1, h2, h3, h4, h5, h6, h7, h8⟩ := hcut
    obtain ⟨w2, rfl⟩ : ∃ w2 : World, w2 = wc := ⟨_, rfl⟩
    have HX := hid (And.intro h1 (And.intro h2 h3))
    have hdj' : hiO ≤ gB ∨ gB + 1 ≤ loO := h4
    have hdj : gB + 1 ≤ loO ∨ hiO ≤ gB := h4.symm
    clear HDA HDB HDD hmk h1 h2 h3 h4 e1 hc0
    go_wp2_with fail
    have HST : Hid (∀ g : Nat → Int, stB n L q g = true ↔ (grL n L HG.out).Stab q g) := fun g => stB_iff HG.out
    have HGN : Hid ((grL n L HG.out).n = n) := rfl
    go_loopg [8] (Gr.muT W ((grL n L HG.out).after f Gr.none0)) (fun gk v8 wr => ∃ (c : Nat → Int) (z : Value), v8 = z ∧ (grL n L HG.out).Lg q f c ∧ gk = Gr.muT W ((grL n L HG.out).after f c) ∧ FInts wr loO hiO (.slice (some ⟨gO, 0, none⟩) n cO) (lst n ((grL n L HG.out).after f c)) ∧ FInts wr gB (gB + 1) (.slice (some ⟨gB, 0, none⟩) n n) (lst n c) ∧ Below wb.heap.size wb wr ∧ w2.heap.size ≤ wr.heap.size)
    case atStart => exact ⟨Gr.none0, _, rfl, .nil, rfl, by rw [Gr.after_none]; exact HX.out.1, HX.out.2.1, HX.out.2.2, Nat.le_refl _⟩
    case round =>
      obtain ⟨c0, z0, rfl, hl0, rfl, hF, hFs, hb, hsw⟩ := hrel
      obtain ⟨wo, rfl⟩ : ∃ wo : World, wo = wr := ⟨_, rfl⟩
      have HL0 := hid hl0
      have HF := hid hF
      have HFS := hid hFs
      have HBW := hid hb
      have b0 := (hb.cell (p := ⟨w.heap.size, 0, none⟩) (cell_lt HBX.out.1)).trans HBX.out.1
      have b1 := (hb.cell (p := ⟨w.heap.size, 1, none⟩) (cell_lt HBX.out.2)).trans HBX.out.2
      clear hl0 hF hFs hb HX
      go_wp2_with fail
      refine (isStable_c n q p L _ _ _ (HP.out.keep HBW.out) HG.out HF.out.r).mono ?_
      rintro e w3 ⟨rfl, hb3⟩
      have HF3 := hid (HF.out.keep hb3)
      have HFS3 := hid (HFS.out.keep hb3)
      have HBW3 := hid (HBW.out.trans (hb3.mono HBW.out.size))
      have hsw3 := Nat.le_trans hsw hb3.size
      clear hb3 b0 b1
      rcases Bool.eq_false_or_eq_true (stB n L q ((grL n L HG.out).after f c0)) with hst | hst
      · rw [hst]
        have hs := (HST.out _).1 hst
        have HE : Hid (lst n (Gr.stb (grL n L HG.out) q f) = lst n (pinF q ((grL n L HG.out).after f c0)) ∧ Gr.odo (grL n L HG.out) q f = c0) := ⟨stb_pin HL0.out hs, Gr.odo_eq HL0.out hs⟩
        have b1 := (HBW3.out.cell (p := ⟨w.heap.size, 1, none⟩) (cell_lt HBX.out.2)).trans HBX.out.2
        obtain ⟨hc5, _, hset5⟩ := fi_open HF3.out
        have c1 := (hc5 q hq).1
        have c2 := (hc5 q hq).2
        have hst5 := hset5 q 0 hq
        rw [show lst n (upd ((grL n L HG.out).after f c0) q 0) = lst n (pinF q ((grL n L HG.out).after f c0)) from lst_congr fun i _ => by unfold upd pinF; rfl] at hst5
        have HEND := hid (And.intro (hst5.1.mono (Nat.le_trans (HAL0.out.size) h5) (Nat.le_trans h7 (Nat.le_trans hsw3 hst5.2.size))) (And.intro ((HFS3.out.same (.of_touch hst5.2 hdj)).mono (Nat.le_trans (HAL0.out.size) h6) (Nat.le_trans h8 (Nat.le_trans hsw3 hst5.2.size))) (HAL0.out.trans ((HBW3.out.trans (hst5.2.below h5 HBW3.out.size)).mono HAL0.out.size))))
        obtain ⟨y, hy⟩ : ∃ y, (grL n L HG.out).after f c0 q = y := ⟨_, rfl⟩
        rw [hy] at c1
        clear hs hc5 hset5 hst5 hst hy
        go_wp2
        go_ret2
        exact ⟨_, _, rfl, by rw [HE.out.1]; exact HEND.out.1, by rw [HE.out.2]; exact HEND.out.2.1, HEND.out.2.2⟩
      · rw [hst]
        have hns : ¬ (grL n L HG.out).Stab q ((grL n L HG.out).after f c0) := fun h => by rw [(HST.out _).2 h] at hst; cases hst
        have HNS := hid hns
        clear hns hst
        obtain ⟨g0, hg0⟩ : ∃ g0, (grL n L HG.out).after f c0 = g0 := ⟨_, rfl⟩
        rw [hg0] at HNS HF3
        have HG0 := hid hg0
        clear hg0
        go_wp2
        go_loopg [8, 23] n (fun gk v8 vv wr => ∃ (k : Nat) (c : Nat → Int) (z : Value), v8 = z ∧ k ≤ n ∧ gk = n - k ∧ vv = .int .i64 k ∧ (grL n L HG.out).Lg q f c ∧ (Gr.muT W ((grL n L HG.out).after f c) < Gr.muT W g0 ∨ ((grL n L HG.out).after f c = g0 ∧ ∀ v, v < k → v ≠ q → g0 v < (grL n L HG.out).val v)) ∧
          FInts wr loO hiO (.slice (some ⟨gO, 0, none⟩) n cO) (lst n ((grL n L HG.out).after f c)) ∧ FInts wr gB (gB + 1) (.slice (some ⟨gB, 0, none⟩) n n) (lst n c) ∧ Below wb.heap.size wb wr ∧ w2.heap.size ≤ wr.heap.size)
        case atStart => exact ⟨0, c0, _, rfl, Nat.zero_le _, rfl, rfl, HL0.out, .inr ⟨HG0.out, fun v hv => by omega⟩, by rw [HG0.out]; exact HF3.out, HFS3.out, HBW3.out, hsw3⟩
        case round =>
          obtain ⟨k, c, z, rfl, hk, rfl, rfl, hl, hor, hF, hFs, hb, hsw4⟩ := hrel
          obtain ⟨wi, rfl⟩ : ∃ wi : World, wi = wr := ⟨_, rfl⟩
          have HL := hid hl
          have HOR := hid hor
          have HFi := hid hF
          have HFSi := hid hFs
          have HBi := hid hb
          clear hl hor hF hFs hb HF3 HFS3 HBW3 HF HFS HBW
          by_cases hlt : k < n
          · have hkz : (k : Int) < (n : Int) := by omega
            go_wp2
            go_loopg [26] (Gr.muT W ((grL n L HG.out).after f c)) (fun gk v26 wr => ∃ (c : Nat → Int) (z : Value), v26 = z ∧ (grL n L HG.out).Lg q f c ∧ gk = Gr.muT W ((grL n L HG.out).after f c) ∧ (Gr.muT W ((grL n L HG.out).after f c) < Gr.muT W g0 ∨ ((grL n L HG.out).after f c = g0 ∧ ∀ v, v < k → v ≠ q → g0 v < (grL n L HG.out).val v)) ∧
              FInts wr loO hiO (.slice (some ⟨gO, 0, none⟩) n cO) (lst n ((grL n L HG.out).after f c)) ∧ FInts wr gB (gB + 1) (.slice (some ⟨gB, 0, none⟩) n n) (lst n c) ∧ Below wb.heap.size wb wr ∧ w2.heap.size ≤ wr.heap.size)
            case atStart => exact ⟨c, _, rfl, HL.out, rfl, HOR.out, HFi.out, HFSi.out, HBi.out, hsw4⟩
            case round =>
              obtain ⟨c, z, rfl, hl, rfl, hor, hF, hFs, hb, hsw5⟩ := hrel
              obtain ⟨wj, rfl⟩ : ∃ wj : World, wj = wr := ⟨_, rfl⟩
              have HL := hid hl
              have HOR := hid hor
              have HFj := hid hF
              have HFSj := hid hFs
              have HBj := hid hb
              have b0 := (hb.cell (p := ⟨w.heap.size, 0, none⟩) (cell_lt HBX.out.1)).trans HBX.out.1
              have b1 := (hb.cell (p := ⟨w.heap.size, 1, none⟩) (cell_lt HBX.out.2)).trans HBX.out.2
              have b2 := (hb.cell (p := ⟨p, 2, none⟩) (cell_lt HV.out.1)).trans HV.out.1
              have b3 := (hb.cell (p := ⟨gv, ov + k, none⟩) (cell_lt (HV.out.2 k hlt))).trans (HV.out.2 k hlt)
              obtain ⟨hc, _, hset⟩ := fi_open hF
              have c1 := (hc k hlt).1
              have hval : (grL n L HG.out).val k = valV n L k := rfl
              obtain ⟨x, hx⟩ : ∃ x, valV n L k = x := ⟨_, rfl⟩
              obtain ⟨y, hy⟩ : ∃ y, (grL n L HG.out).after f c k = y := ⟨_, rfl⟩
              rw [hx] at b3 hval
              rw [hy] at c1
              have HVAL := hid hval
              have HY := hid hy
              clear hl hor hF hFs hb hc hset hval hx hy HFi HFSi HBi
              by_cases hkq : k = q
              · have t1 : ((k : Int) == (q : Int)) = true := beq_nat_true hkq
                have t2 : ((k : Int) != (q : Int)) = false := bne_of_true t1
                have HOR2 : Hid (Gr.muT W ((grL n L HG.out).after f c) < Gr.muT W g0 ∨ ((grL n L HG.out).after f c = g0 ∧ ∀ v, v < k + 1 → v ≠ q → g0 v < (grL n L HG.out).val v)) := by
                  rcases HOR.out with h | ⟨h1, h2⟩
                  · exact .inl h
                  · refine .inr ⟨h1, fun v hv hne => h2 v ?_ hne⟩
                    have : v ≠ k := fun e => hne (e.trans hkq)
                    omega
                clear hkq
                go_wp2
                go_quiet (fail)
                go_wp2
                go_roundg (n - (k + 1))
                case rel => exact ⟨k + 1, c, _, rfl, by omega, rfl, by go_num, HL.out, HOR2.out, FInts.drewN HFj.out, FInts.drewN HFSj.out, below_drewN HBj.out _, hsw5⟩
                case measure => omega
              · have t1 : ((k : Int) == (q : Int)) = false := beq_nat_false hkq
                have t2 : ((k : Int) != (q : Int)) = true := bne_of_false t1
                by_cases hge : x ≤ y
                · have hge' : (grL n L HG.out).val k ≤ (grL n L HG.out).after f c k := by rw [HVAL.out, HY.out]; exact hge
                  have HL2 : Hid ((grL n L HG.out).Lg q f (Gr.bump c k)) := .step HL.out hlt hkq hge'
                  have hpo := pil_after (hG := HG.out) hq HPF.out HL.out
                  have hmu : Gr.muT W ((grL n L HG.out).after f (Gr.bump c k)) < Gr.muT W ((grL n L HG.out).after f c) := by
                    rw [Gr.after_bump _ hlt]
                    exact Gr.topple_mu W (fun v h1 h2 => (hpo v h1).1 h2) hlt hkq hge'
                  have HMU := hid hmu
                  have HOR2 : Hid (Gr.muT W ((grL n L HG.out).after f (Gr.bump c k)) < Gr.muT W g0) := by
                    show _ < _
                    rcases HOR.out with h | ⟨h1, _⟩
                    · omega
                    · rw [h1] at hmu; exact hmu
                  have hfew := HL.out.few (G := grL n L HG.out) hq HC.out (fun v h1 h2 => (HPF.out.1 v h1 h2).1) (fun v h1 h2 => (HPF.out.1 v h1 h2).2) k hlt
                  have hck := HL.out.nonneg k
                  have HFEW := hid (And.intro hfew hck)
                  have hgb : ∀ i, i < n → -100000 ≤ (grL n L HG.out).after f c i ∧ (grL n L HG.out).after f c i ≤ 100000 := fun i hi => by
                    have := hpo i hi
                    omega
                  have HGB := hid hgb
                  have HAB : Hid ((grL n L HG.out).fire ((grL n L HG.out).after f c) k 1 = (grL n L HG.out).after f (Gr.bump c k)) := (Gr.after_bump _ hlt f c).symm
                  clear hge' hpo hmu hfew hck hgb
                  go_wp2
                  go_quiet (fail)
                  clear c1 b2 b3
                  go_wp2_with fail
                  refine (fire_c n L HG.out wb _ _ HP.out loO hiO h5 (below_drewN HBj.out _) gO cO k 1 _ (FInts.drewN HFj.out) hlt (.inl rfl) HGB.out).mono ?_
                  rintro e w6 ⟨rfl, hF6, hT6⟩
                  rw [HAB.out] at hF6
                  have HF6 := hid hF6
                  have hFs6 := (FInts.drewN (n := nq) HFSj.out).same (.of_touch hT6 hdj)
                  have HB6 := hid ((below_drewN HBj.out nq).trans (hT6.below h5 (below_drewN HBj.out nq).size))
                  have hsw6 := Nat.le_trans hsw5 hT6.size
                  obtain ⟨hsc, _, hsset⟩ := fi_open hFs6
                  have d1 := (hsc k hlt).1
                  have d2 := (hsc k hlt).2
                  have hset7 := hsset k (c k + 1) hlt
                  rw [bump_upd] at hset7
                  obtain ⟨y7, hy7⟩ : ∃ y7, c k = y7 := ⟨_, rfl⟩
                  have hfw := HFEW.out
                  rw [hy7] at d1 hset7 hfw
                  have f1 : IntKind.i64.wrap (y7 + 1) = y7 + 1 := IntWalk.i64_in _ (by omega)
                  have HF7 := hid (And.intro (HF6.out.same (.of_touch hset7.2 hdj')) (And.intro hset7.1 (And.intro (HB6.out.trans (hset7.2.below h6 HB6.out.size)) (Nat.le_trans hsw6 hset7.2.size))))
                  clear hF6 hT6 hFs6 hsc hsset hset7 hy7 hfw b0 b1
                  go_wp2
                  go_roundg (Gr.muT W ((grL n L HG.out).after f (Gr.bump c k)))
                  case rel => exact ⟨Gr.bump c k, _, rfl, HL2.out, rfl, .inl HOR2.out, HF7.out⟩
                  case measure => exact HMU.out
                · have HOR2 : Hid (Gr.muT W ((grL n L HG.out).after f c) < Gr.muT W g0 ∨ ((grL n L HG.out).after f c = g0 ∧ ∀ v, v < k + 1 → v ≠ q → g0 v < (grL n L HG.out).val v)) := by
                    rcases HOR.out with h | ⟨h1, h2⟩
                    · exact .inl h
                    · refine .inr ⟨h1, fun v hv hne => ?_⟩
                      by_cases e : v = k
                      · rw [e, HVAL.out, ← h1, HY.out]; omega
                      · exact h2 v (by omega) hne
                  clear hkq
                  go_wp2
                  go_quiet (fail)
                  go_wp2
                  go_roundg (n - (k + 1))
                  case rel => exact ⟨k + 1, c, _, rfl, by omega, rfl, by go_num, HL.out, HOR2.out, FInts.drewN HFj.out, FInts.drewN HFSj.out, below_drewN HBj.out _, hsw5⟩
                  case measure => omega
          · have hkn : k = n := by omega
            have HLE : Hid (Gr.muT W ((grL n L HG.out).after f c) < Gr.muT W g0) := by
              rcases HOR.out with h | ⟨_, h2⟩
              · exact h
              · exact (HNS.out (fun v h1 h3 => h2 v (by rw [hkn]; exact h1) h3)).elim
            have HM : Hid (Gr.muT W ((grL n L HG.out).after f c0) = Gr.muT W g0) := by show _ = _; rw [HG0.out]
            clear hkn
            go_wp2
            go_roundg (Gr.muT W ((grL n L HG.out).after f c))
            case rel => exact ⟨c, _, rfl, HL.out, rfl, HFi.out, HFSi.out, HBi.out, hsw4⟩
            case measure => rw [HM.out]; exact HLE.out

end Go.Proofs.Ytifdhapaonideaa
