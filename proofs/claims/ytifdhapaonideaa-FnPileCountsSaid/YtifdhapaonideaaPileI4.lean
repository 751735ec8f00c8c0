/- Piles: the program's sum and isRecurrent. -/
import Derived.Test.YtifdhapaonideaaPileI3
namespace Go.Proofs.Ytifdhapaonideaa
open Go.RowKit
open Go.Lib (hid)

/-- the box of a graph with a sink, when it is a parameter -/
theorem tpar (w : World) (p q : Nat) : (w.alloc (.cells #[.pointer (some ⟨p, 0, none⟩), .int .i64 q] 54)).cell? ⟨w.heap.size, 0, none⟩ = some (.pointer (some ⟨p, 0, none⟩)) ∧ (w.alloc (.cells #[.pointer (some ⟨p, 0, none⟩), .int .i64 q] 54)).cell? ⟨w.heap.size, 1, none⟩ = some (.int .i64 q) ∧
    Below w.heap.size w (w.alloc (.cells #[.pointer (some ⟨p, 0, none⟩), .int .i64 q] 54)) := by
  have hbx : (w.alloc (.cells #[.pointer (some ⟨p, 0, none⟩), .int .i64 q] 54)).heap[w.heap.size]? = some (.cells #[.pointer (some ⟨p, 0, none⟩), .int .i64 q] 54 (0, 0)) := heap_alloc_new _ _
  exact ⟨by rw [cell_of_row _ _ _ _ _ _ hbx]; rfl, by rw [cell_of_row _ _ _ _ _ _ hbx]; rfl, (Below.refl _ _).alloc (Nat.le_refl _) _⟩

set_option maxRecDepth 100000 in
set_option maxHeartbeats 2000000 in
theorem sum_c (n q p : Nat) (a b : Value) (L : List Lnk) (f g : Nat → Int) (w : World) (hP : PG n L q) (hp : RG w (.pointer (some ⟨p, 0, none⟩)) n L) (ha : RInts w a (lst n f)) (hb : RInts w b (lst n g)) (hf : PilZ n q 1000 f) (hg : PilZ n q 1000 g) :
    Calls Try.prog 44 #[.agg #[.pointer (some ⟨p, 0, none⟩), .int .i64 q], a, b] w (RetInts w (lst n (Gr.stb (grL n L hP.good) q (fun i => f i + g i)))) := by
  have hn8 := hP.good.n8
  have hn1 := hP.good.n1
  obtain ⟨ga, oa, ca, rfl, _, _, _⟩ := ri_open ha (by omega)
  obtain ⟨gb, ob, cb, rfl, hb1, hb2, _⟩ := ri_open hb (by omega)
  obtain ⟨x0, x1, hal⟩ := tpar w p q
  obtain ⟨wb, hwb⟩ : ∃ wb : World, wb = w.alloc (.cells #[.pointer (some ⟨p, 0, none⟩), .int .i64 q] 54) := ⟨_, rfl⟩
  rw [← hwb] at x0 x1 hal
  have HWB := hid hwb
  have HBX := hid (And.intro x0 x1)
  have HAL := hid hal
  have HP := hid (hp.keep hal)
  have HA := hid (ha.keep hal)
  have HBB := hid (hb.keep hal)
  have HS := hid (hf.add hg)
  have HFA := hid (fun i (hi : i < n) => hf.all (by decide) hi)
  have HGA := hid (fun i (hi : i < n) => hg.all (by decide) hi)
  have hll : (lst n f).length ≤ 1048576 := by rw [lst_len]; omega
  clear hp ha hb hf hg x0 x1 hal hwb
  go_enter Try.func44, Try.ntmps44
  go_wp2_with fail
  rw [← HWB.out]
  refine (clone_c _ (lst n f) _ HA.out hll).mono ?_
  rintro e w1 ⟨u1, rfl, hF1, hb1'⟩
  obtain ⟨gO, cO, rfl, hlo, hhi⟩ := fi_form hF1 (by omega)
  have HF1 := hid hF1
  have HB1 := hid hb1'
  have hs1 := hb1'.size
  have HGC : Hid (∀ i, i < n → w1.cell? ⟨gb, ob + i, none⟩ = some (.int .i64 (g i)) ∧ gb < wb.heap.size) := by
    obtain ⟨g3, o3, c3, he, _, _, hc3⟩ := ri_open HBB.out (by omega)
    simp only [Value.slice.injEq, Option.some.injEq, Addr.mk.injEq, and_true, true_and] at he
    obtain ⟨⟨rfl, rfl⟩, rfl⟩ := he
    exact fun i hi => ⟨(hb1'.cell (p := ⟨gb, ob + i, none⟩) (cell_lt (hc3 i hi))).trans (hc3 i hi), cell_lt (hc3 i hi)⟩
  clear hF1 hb1'
  go_wp2
  go_loopg [16] n (fun gk vv wr => ∃ k : Nat, k ≤ n ∧ gk = n - k ∧ vv = .int .i64 k ∧ FInts wr wb.heap.size w1.heap.size (.slice (some ⟨gO, 0, none⟩) n cO) (lst n (partF f (fun i => f i + g i) k)) ∧ Touch wb.heap.size w1.heap.size w1 wr)
  case atStart => exact ⟨0, Nat.zero_le _, rfl, rfl, by rw [part_zero]; exact HF1.out, Touch.refl _ _ _⟩
  case round =>
    obtain ⟨k, hk, rfl, rfl, hF, hT⟩ := hrel
    have HT := hid hT
    by_cases hlt : k < n
    · obtain ⟨hc, _, hset⟩ := fi_open hF
      have a1 := (hc k hlt).1
      rw [part_at] at a1
      have a2 := (hc k hlt).2
      have a3 := hT.cell (by have := (HGC.out k hlt).2; omega) (HGC.out k hlt).1
      have hfk := HFA.out k hlt
      have hgk := HGA.out k hlt
      have hst := hset k (f k + g k) hlt
      rw [part_set n _ (fun i => f i + g i) rfl] at hst
      obtain ⟨x, hx⟩ : ∃ x, f k = x := ⟨_, rfl⟩
      obtain ⟨y, hy⟩ : ∃ y, g k = y := ⟨_, rfl⟩
      rw [hx] at a1 hfk hst
      rw [hy] at a3 hgk hst
      have HO := hid (And.intro hst.1 (hT.trans hst.2))
      have f1 : IntKind.i64.wrap (x + y) = x + y := IntWalk.i64_in _ (by omega)
      have hkz : (k : Int) < (n : Int) := by omega
      clear hF hT hc hset hst hx hy
      go_wp2
      go_roundg (n - (k + 1))
      case rel => exact ⟨k + 1, by omega, rfl, by go_num, HO.out⟩
      case measure => omega
    · have hkn : k = n := by omega
      subst hkn
      rw [part_all] at hF
      have HF2 := hid hF
      have hbe := HB1.out.trans (hT.below (Nat.le_refl _) hs1)
      have HBE := hid hbe
      have b0 := (hbe.cell (p := ⟨w.heap.size, 0, none⟩) (cell_lt HBX.out.1)).trans HBX.out.1
      have b1 := (hbe.cell (p := ⟨w.heap.size, 1, none⟩) (cell_lt HBX.out.2)).trans HBX.out.2
      clear hF hT hbe
      go_wp2_with fail
      refine (topple_c k q p _ L _ _ hP (HP.out.keep HBE.out) HF2.out.r (HS.out.pilF (by decide))).mono ?_
      rintro e w2 ⟨t, s, rfl, hF3, hS3, hb3⟩
      have hsz := HBE.out.size
      have HF3 := hid (hF3.mono (lo' := w.heap.size) (hi' := w2.heap.size) (Nat.le_trans HAL.out.size hsz) (Nat.le_refl _))
      have HB3 := hid (HAL.out.trans ((HBE.out.trans (hb3.mono hsz)).mono HAL.out.size))
      obtain ⟨a5, n5, c5, rfl⟩ := hF3.form3
      obtain ⟨a6, n6, c6, rfl⟩ := hS3.form3
      clear hF3 hS3 hb3 b0 b1
      go_wp2
      go_ret
      exact ⟨_, rfl, HF3.out, HB3.out⟩

set_option maxRecDepth 100000 in
set_option maxHeartbeats 2000000 in
theorem isRecurrent_c (n q p : Nat) (u : Value) (L : List Lnk) (f : Nat → Int) (w : World) (hP : PG n L q) (hp : RG w (.pointer (some ⟨p, 0, none⟩)) n L) (hd : RInts w u (lst n f)) (hf : PilZ n q 1000 f) (hs : (grL n L hP.good).Stab q f) :
    Calls Try.prog 57 #[.agg #[.pointer (some ⟨p, 0, none⟩), .int .i64 q], u] w fun e w' => e = .returned (.bool (recB n L q f)) ∧ Below w.heap.size w w' := by
  have hn8 := hP.good.n8
  have hn1 := hP.good.n1
  have hq := hP.hq
  obtain ⟨W, _⟩ := Gr.wt8 (G := grL n L hP.good) hq hP.con
  obtain ⟨gd, od, cd, rfl, _, _, _⟩ := ri_open hd (by omega)
  obtain ⟨x0, x1, hal⟩ := tpar w p q
  obtain ⟨wb, hwb⟩ : ∃ wb : World, wb = w.alloc (.cells #[.pointer (some ⟨p, 0, none⟩), .int .i64 q] 54) := ⟨_, rfl⟩
  rw [← hwb] at x0 x1 hal
  have HWB := hid hwb
  have HBX := hid (And.intro x0 x1)
  have HAL := hid hal
  have HP := hid (hp.keep hal)
  have HD := hid (hd.keep hal)
  have hll : (lst n f).length ≤ 1048576 := by rw [lst_len]; omega
  have hgb : ∀ i, i < n → -100000 ≤ f i ∧ f i ≤ 100000 := fun i hi => by have := hf.all (by decide) hi; omega
  have HGB := hid hgb
  have hvb := valV_bound hP.good hq
  have hfp : PilF n q ((grL n L hP.good).fire f q 1) := by
    refine ⟨fun v h1 h2 => ?_, ?_⟩
    · rw [Gr.fire_other _ _ _ _ _ h2, Int.one_mul]
      have := hf.1 v h1 h2
      have h3 := (grL n L hP.good).pos q v
      have h4 := (grL n L hP.good).up q v
      omega
    · rw [Gr.fire_self, Int.one_mul, hf.2]
      have : (grL n L hP.good).val q = valV n L q := rfl
      omega
  have hrb := rec_back hP hf hs
  have heq : lst n (Gr.stb (grL n L hP.good) q ((grL n L hP.good).fire f q 1)) = lst n (Gr.stb (grL n L hP.good) q (bet L q f)) := lst_congr fun i hi =>
    Gr.stb_congr W (fun v h1 h2 => (hfp.1 v h1 h2).1) ((Gr.fire_sink f).trans (bet_eqv hP.good f)) i hi
  rw [← heq] at hrb
  have HRB := hid hrb
  have HFP := hid hfp
  clear hp hd hf hs x0 x1 hal hwb hgb hfp hrb heq hvb
  go_enter Try.func57, Try.ntmps57
  go_wp2_with fail
  rw [← HWB.out]
  refine (clone_c _ (lst n f) _ HD.out hll).mono ?_
  rintro e w1 ⟨u1, rfl, hF1, hb1⟩
  obtain ⟨gO, cO, rfl, hlo, hhi⟩ := fi_form hF1 (by omega)
  have HF1 := hid hF1
  have HB1 := hid hb1
  have hs1 := hb1.size
  have b0 := (hb1.cell (p := ⟨w.heap.size, 0, none⟩) (cell_lt HBX.out.1)).trans HBX.out.1
  have b1 := (hb1.cell (p := ⟨w.heap.size, 1, none⟩) (cell_lt HBX.out.2)).trans HBX.out.2
  clear hF1 hb1
  go_wp2_with fail
  refine (fire_c n L hP.good wb _ _ HP.out wb.heap.size w1.heap.size (Nat.le_refl _) HB1.out gO cO q 1 _ HF1.out hq (.inl rfl) HGB.out).mono ?_
  rintro e w2 ⟨rfl, hF2, hT2⟩
  have HF2 := hid hF2
  have hbe := HB1.out.trans (hT2.below (Nat.le_refl _) hs1)
  have HBE := hid hbe
  have b0' := (hbe.cell (p := ⟨w.heap.size, 0, none⟩) (cell_lt HBX.out.1)).trans HBX.out.1
  have b1' := (hbe.cell (p := ⟨w.heap.size, 1, none⟩) (cell_lt HBX.out.2)).trans HBX.out.2
  clear hF2 hT2 hbe b0 b1
  go_wp2_with fail
  refine (topple_c n q p _ L _ _ hP (HP.out.keep HBE.out) HF2.out.r HFP.out).mono ?_
  rintro e w3 ⟨t, s, rfl, hF3, hS3, hb3⟩
  have HT3 := hid hF3.r
  have HB3 := hid (HBE.out.trans (hb3.mono HBE.out.size))
  obtain ⟨a5, n5, c5, rfl⟩ := hF3.form3
  obtain ⟨a6, n6, c6, rfl⟩ := hS3.form3
  clear hF3 hS3 hb3 b0' b1'
  go_wp2_with fail
  refine (equal_c _ _ _ _ _ HT3.out (HD.out.keep HB3.out)).mono ?_
  rintro e w4 ⟨rfl, nd, rfl⟩
  have HB4 := hid (HAL.out.trans ((below_drewN HB3.out nd).mono HAL.out.size))
  go_wp2
  go_ret
  exact ⟨ret_bool HRB.out.symm, HB4.out⟩

end Go.Proofs.Ytifdhapaonideaa
