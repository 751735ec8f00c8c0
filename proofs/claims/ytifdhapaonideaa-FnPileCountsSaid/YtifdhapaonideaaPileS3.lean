/- Piles: the reference's identity, and all recurrent piles. -/
import Derived.Test.YtifdhapaonideaaPileS2
import Derived.Test.YtifdhapaonideaaPool
namespace Go.Proofs.Ytifdhapaonideaa
open Go.RowKit
open Go.Lib (hid)

theorem grt_pil {n q : Nat} {L : List Lnk} (hP : PG n L q) : PilZ n q 34 (grtV n L q) := by
  obtain ⟨W, _⟩ := Gr.wt8 (G := grL n L hP.good) hP.hq hP.con
  refine ⟨fun v h1 h2 => ⟨Gr.grt_pos W v h1 h2, ?_⟩, by unfold grtV; rw [if_pos rfl]⟩
  have := (grL n L hP.good).val_le v h1
  have h3 : (grL n L hP.good).val v = valV n L v := rfl
  unfold grtV; rw [if_neg h2]; omega
theorem stb_pil {n q : Nat} {L : List Lnk} (hP : PG n L q) {f : Nat → Int} {M : Int} (hf : PilZ n q M f) : PilZ n q 34 (Gr.stb (grL n L hP.good) q f) := by
  obtain ⟨W, _⟩ := Gr.wt8 (G := grL n L hP.good) hP.hq hP.con
  have h0 : ∀ v, v < (grL n L hP.good).n → v ≠ q → 0 ≤ f v := fun v h1 h2 => (hf.1 v h1 h2).1
  refine ⟨fun v h1 h2 => ⟨Gr.stb_pos W h0 v h1 h2, ?_⟩, Gr.stb_sink f⟩
  have := Gr.stb_stab W h0 v h1 h2
  have := (grL n L hP.good).val_le v h1
  omega
theorem stb_st {n q : Nat} {L : List Lnk} (hP : PG n L q) {f : Nat → Int} {M : Int} (hf : PilZ n q M f) : (grL n L hP.good).Stab q (Gr.stb (grL n L hP.good) q f) := by
  obtain ⟨W, _⟩ := Gr.wt8 (G := grL n L hP.good) hP.hq hP.con
  exact Gr.stb_stab W (fun v h1 h2 => (hf.1 v h1 h2).1)
/-- the identity -/
noncomputable def idF (n : Nat) (L : List Lnk) (q : Nat) (h : GoodL n L) : Nat → Int := Gr.idp (grL n L h) q
theorem left_pil {n q : Nat} {L : List Lnk} (hP : PG n L q) : PilZ n q 68 (Gr.left (grL n L hP.good) q) := by
  obtain ⟨W, _⟩ := Gr.wt8 (G := grL n L hP.good) hP.hq hP.con
  exact ⟨fun v h1 h2 => ⟨Gr.left_pos W v h1 h2, Gr.left_le W v h1 h2⟩, Gr.left_sink⟩
theorem id_pil {n q : Nat} {L : List Lnk} (hP : PG n L q) : PilZ n q 34 (idF n L q hP.good) := stb_pil hP (left_pil hP)

set_option maxRecDepth 100000 in
set_option maxHeartbeats 2000000 in
theorem piIdentity_c (n q : Nat) (v : Value) (L : List Lnk) (w : World) (h : RLinks w v L) (hP : PG n L q) :
    Calls Try.prog 55 #[.int .i64 n, v, .int .i64 q] w (RetInts w (lst n (idF n L q hP.good))) := by
  have HR := hid h
  have hn8 := hP.good.n8
  have hn1 := hP.good.n1
  obtain ⟨aL, capL, rfl⟩ := h.form
  have HGP := hid (grt_pil hP)
  clear h
  go_enter Try.func55, Try.ntmps55
  go_wp2_with fail
  refine (piGreatest_c n q _ L _ HR.out hP.good).mono ?_
  rintro e w1 ⟨um, rfl, hF, hb1⟩
  obtain ⟨gm, cm, rfl, hg1, hg2⟩ := fi_form hF (by omega)
  have HM := hid (fi_open hF).1
  have HB1 := hid hb1
  have hs1 := hb1.size
  clear hF hb1
  go_wp2
  go_loopg [8, 24] n (fun gk out i wr => ∃ k : Nat, ∃ a c, out = .slice a k c ∧ k ≤ n ∧ gk = n - k ∧ i = .int .i64 k ∧ FInts wr w1.heap.size wr.heap.size (.slice a k c) (lst k (Gr.dbl (grL n L hP.good) q)) ∧ Below w1.heap.size w1 wr)
  case atStart => exact ⟨0, none, 0, rfl, Nat.zero_le _, rfl, rfl, ints_nil _ _ _, Below.refl _ _⟩
  case round =>
    obtain ⟨k, a', c', rfl, hk, rfl, rfl, hF, hb⟩ := hrel
    have HB := hid hb
    by_cases hlt : k < n
    · have e1 := (hb.cell (p := ⟨gm, k, none⟩) (cell_lt (HM.out k hlt).1)).trans (HM.out k hlt).1
      have hfk := HGP.out.all (by decide) hlt
      have hdb : Gr.dbl (grL n L hP.good) q k = 2 * grtV n L q k := rfl
      obtain ⟨x, hx⟩ : ∃ x, grtV n L q k = x := ⟨_, rfl⟩
      rw [hx] at e1 hfk hdb
      have HX : Hid (lst k (Gr.dbl (grL n L hP.good) q) ++ [2 * x] = lst (k + 1) (Gr.dbl (grL n L hP.good) q)) := by show _ = _; rw [lst_succ, hdb]
      have f1 : IntKind.i64.wrap (2 * x) = 2 * x := IntWalk.i64_in _ (by omega)
      have hkz : (k : Int) < (n : Int) := by omega
      have hsb := hb.size
      have HF := hid hF
      have hll : (lst k (Gr.dbl (grL n L hP.good) q)).length = k := lst_len _ _
      have HLL := hid hll
      clear hF hb hx hll hdb
      go_wp2_with (at_builtin; (refine wpList_push_r (W0 := w1) rfl _ _ rfl w1.heap.size (.slice a' k c') (lst k (Gr.dbl (grL n L hP.good) q)) (2 * x) rfl rfl HF.out HB.out hsb k HLL (by omega) _ HX ?_; intro g4 c4 w4 hF4 hb4; have HF4 := hid hF4; have HB4 := hid hb4; clear hF4 hb4))
      clear f1
      go_roundg (n - (k + 1))
      case rel => exact ⟨k + 1, _, _, rfl, by omega, rfl, by go_num, HF4.out, HB4.out⟩
      case measure => omega
    · obtain rfl : k = n := by omega
      have hDB : PilZ k q 68 (Gr.dbl (grL k L hP.good) q) := ⟨fun v h1 h2 => by have := HGP.out.1 v h1 h2; show 0 ≤ 2 * grtV k L q v ∧ 2 * grtV k L q v ≤ 68; omega, by show 2 * grtV k L q q = 0; rw [HGP.out.2]; rfl⟩
      have HDB := hid hDB
      have hr := hF.r
      obtain ⟨gD, oD, cD, he, _, _, hdc⟩ := ri_open hr (by omega)
      simp only [Value.slice.injEq, true_and] at he
      obtain ⟨rfl, rfl⟩ := he
      have HDC := hid hdc
      have HF := hid hr
      have hsb := hb.size
      clear hF hb hr hdc hDB
      go_wp2_with fail
      refine (piTopple_c k q _ _ L _ _ (HR.out.keep (HB1.out.trans (HB.out.mono hs1))) hP HF.out (HDB.out.pilF (by decide)) HDB.out.2).mono ?_
      rintro e w2 ⟨t, s, rfl, hF2, hS2, hb2⟩
      obtain ⟨gt, ct, rfl, hgt1, hgt2⟩ := fi_form hF2 (by omega)
      obtain ⟨a8, n8, c8, rfl⟩ := hS2.form3
      have HT := hid (fi_open hF2).1
      have HDC2 := hid (fun i (hi : i < k) => (hb2.cell (p := ⟨gD, oD + i, none⟩) (cell_lt (HDC.out i hi))).trans (HDC.out i hi))
      have HB2 := hid ((HB1.out.trans (HB.out.mono hs1)).trans (hb2.mono (Nat.le_trans hs1 hsb)))
      have HSP := hid (stb_pil hP HDB.out)
      have hs2 := HB2.out.size
      clear hF2 hS2 hb2
      go_wp2
      go_loopg [13, 44] k (fun gk out i wr => ∃ j : Nat, ∃ a c, out = .slice a j c ∧ j ≤ k ∧ gk = k - j ∧ i = .int .i64 j ∧ FInts wr w2.heap.size wr.heap.size (.slice a j c) (lst j (Gr.left (grL k L hP.good) q)) ∧ Below w2.heap.size w2 wr)
      case atStart => exact ⟨0, none, 0, rfl, Nat.zero_le _, rfl, rfl, ints_nil _ _ _, Below.refl _ _⟩
      case round =>
        obtain ⟨j, a', c', rfl, hj, rfl, rfl, hF, hb⟩ := hrel
        have HBB := hid hb
        by_cases hlt : j < k
        · have e1 := (hb.cell (p := ⟨gD, oD + j, none⟩) (cell_lt (HDC2.out j hlt))).trans (HDC2.out j hlt)
          have e2 := (hb.cell (p := ⟨gt, j, none⟩) (cell_lt (HT.out j hlt).1)).trans (HT.out j hlt).1
          have hfk := HDB.out.all (by decide) hlt
          have hgk := HSP.out.all (by decide) hlt
          have hlf : Gr.left (grL k L hP.good) q j = Gr.dbl (grL k L hP.good) q j - Gr.stb (grL k L hP.good) q (Gr.dbl (grL k L hP.good) q) j := rfl
          obtain ⟨x, hx⟩ : ∃ x, Gr.dbl (grL k L hP.good) q j = x := ⟨_, rfl⟩
          obtain ⟨y, hy⟩ : ∃ y, Gr.stb (grL k L hP.good) q (Gr.dbl (grL k L hP.good) q) j = y := ⟨_, rfl⟩
          rw [hx] at e1 hfk hlf
          rw [hy] at e2 hgk hlf
          have HX : Hid (lst j (Gr.left (grL k L hP.good) q) ++ [x - y] = lst (j + 1) (Gr.left (grL k L hP.good) q)) := by show _ = _; rw [lst_succ, hlf]
          have f1 : IntKind.i64.wrap (x - y) = x - y := IntWalk.i64_in _ (by omega)
          have hjz : (j : Int) < (k : Int) := by omega
          have hsb := hb.size
          have HF := hid hF
          have hll : (lst j (Gr.left (grL k L hP.good) q)).length = j := lst_len _ _
          have HLL := hid hll
          clear hF hb hx hy hll hlf
          go_wp2_with (at_builtin; (refine wpList_push_r (W0 := w2) rfl _ _ rfl w2.heap.size (.slice a' j c') (lst j (Gr.left (grL k L hP.good) q)) (x - y) rfl rfl HF.out HBB.out hsb j HLL (by omega) _ HX ?_; intro g4 c4 w4 hF4 hb4; have HF4 := hid hF4; have HB4 := hid hb4; clear hF4 hb4))
          clear f1
          go_roundg (k - (j + 1))
          case rel => exact ⟨j + 1, _, _, rfl, by omega, rfl, by go_num, HF4.out, HB4.out⟩
          case measure => omega
        · obtain rfl : j = k := by omega
          have HF := hid hF
          clear hF hb
          go_wp2_with fail
          refine (piTopple_c j q _ _ L _ _ (HR.out.keep (HB2.out.trans (HBB.out.mono hs2))) hP HF.out.r ((left_pil hP).pilF (by decide)) (left_pil hP).2).mono ?_
          rintro e w3 ⟨t3, s3, rfl, hF3, _, hb3⟩
          have hsb := HBB.out.size
          have HF3 := hid (hF3.mono (Nat.le_trans hs2 hsb) (Nat.le_refl _))
          have HB3 := hid ((HB2.out.trans (HBB.out.mono hs2)).trans (hb3.mono (Nat.le_trans hs2 hsb)))
          clear hF3 hb3
          go_wp2
          go_ret
          exact ⟨_, rfl, HF3.out, HB3.out⟩

/-- the recurrent piles behind a beginning; those whose next number is below k -/
noncomputable def piM (n : Nat) (L : List Lnk) (q : Nat) (xs : List Int) : List (List Int) := ((stA ((lst n (grtV n L q)).drop xs.length)).map (fun e => xs ++ e)).filter (fun e => recB n L q (fun i => e.getD i 0))
noncomputable def piX (n : Nat) (L : List Lnk) (q : Nat) (xs : List Int) (k : Nat) : List (List Int) := ((stX ((lst n (grtV n L q)).drop (xs.length + 1)) k).map (fun e => xs ++ e)).filter (fun e => recB n L q (fun i => e.getD i 0))
theorem piX_zero (n : Nat) (L : List Lnk) (q : Nat) (xs : List Int) : piX n L q xs 0 = [] := rfl
theorem piX_succ (n : Nat) (L : List Lnk) (q : Nat) (xs : List Int) (k : Nat) : piX n L q xs (k + 1) = piX n L q xs k ++ piM n L q (xs ++ [(k : Int)]) := by
  unfold piX piM
  rw [stX_succ, List.map_append, List.filter_append, List.map_map]
  congr 2
  rw [List.length_append, List.length_singleton]
  apply List.map_congr_left
  intro e _
  simp
theorem piM_eq {n : Nat} {L : List Lnk} {q : Nat} {xs : List Int} (h : xs.length < n) : piM n L q xs = piX n L q xs (grtV n L q xs.length + 1).toNat := by
  unfold piX piM
  rw [drop_cons _ 0 xs.length (by rw [lst_len]; exact h), lst_at _ h, stA_cons]
theorem piM_leaf {n : Nat} {L : List Lnk} {q : Nat} {xs : List Int} (h : xs.length = n) : piM n L q xs = if recB n L q (fun i => xs.getD i 0) then [xs] else [] := by
  unfold piM
  rw [List.drop_eq_nil_of_le (by rw [lst_len]; omega)]
  rw [show (stA []).map (fun e => xs ++ e) = [xs] by simp [stA]]
  rcases Bool.eq_false_or_eq_true (recB n L q (fun i => xs.getD i 0)) with h | h
  · rw [List.filter_cons_of_pos (p := fun e : List Int => recB n L q fun i => e.getD i 0) h, h]; rfl
  · rw [List.filter_cons_of_neg (p := fun e : List Int => recB n L q fun i => e.getD i 0) (by rw [h]; decide), h]; rfl
theorem piM_len {n : Nat} {L : List Lnk} {q : Nat} (hP : PG n L q) {xs : List Int} : (piM n L q xs).length ≤ 52521875 := by
  unfold piM
  refine Nat.le_trans (List.length_filter_le _ _) ?_
  rw [List.length_map]
  refine Nat.le_trans (stA_len _ (fun m hm => ?_)) ?_
  · obtain ⟨i, hi, rfl⟩ := mem_lst.1 (List.mem_of_mem_drop hm)
    exact ((grt_pil hP).all (by decide) hi).2
  · rw [List.length_drop, lst_len]
    have := hP.n5
    exact Nat.le_trans (Nat.pow_le_pow_right (by decide) (show n - xs.length ≤ 5 by omega)) (by decide)
theorem piX_len {n : Nat} {L : List Lnk} {q : Nat} (hP : PG n L q) (xs : List Int) : ∀ k, (piX n L q xs k).length ≤ k * 52521875 := by
  intro k
  induction k with
  | zero => rw [piX_zero]; simp
  | succ k ih => rw [piX_succ, List.length_append, Nat.succ_mul]; have := piM_len hP (xs := xs ++ [(k : Int)]); omega

/-- a list of rows -/
def RetRows (w : World) (lo : Nat) (M : List (List Int)) (e : Ending) (w' : World) : Prop := ∃ v Z, e = .returned v ∧ Z.map Prod.snd = M ∧ OMat w' w.heap.size v Z ∧ PoolZ w' lo w'.heap.size Z ∧ Below w.heap.size w w'
theorem pool_one {w : World} {lo hi : Nat} {v : Value} {xs : List Int} (h : FInts w lo hi v xs) : PoolZ w lo hi [(v, xs)] := ⟨fun z hz => by rw [List.mem_singleton] at hz; subst hz; exact h, List.pairwise_singleton _ _⟩
theorem omat_one (w : World) (r : Value) (xs : List Int) : OMat (w.alloc (.cells #[r] 25)) w.heap.size (.slice (some ⟨w.heap.size, 0, none⟩) 1 1) [(r, xs)] :=
  World.ownsRow_lit w #[r] 1 (by simp) (by unfold maxLen; omega) (by simp)

/-- a beginning of a stable pile -/
def Pre (n : Nat) (L : List Lnk) (q : Nat) (xs : List Int) : Prop := xs.length ≤ n ∧ ∀ i, i < xs.length → 0 ≤ xs.getD i 0 ∧ xs.getD i 0 ≤ grtV n L q i
theorem pre_pil {n q : Nat} {L : List Lnk} (hP : PG n L q) {xs : List Int} (h : Pre n L q xs) (hl : xs.length = n) : PilZ n q 1000 (fun i => xs.getD i 0) ∧ (grL n L hP.good).Stab q (fun i => xs.getD i 0) := by
  have hg := grt_pil hP
  refine ⟨⟨fun v h1 h2 => ?_, ?_⟩, fun v h1 h2 => ?_⟩
  · have := h.2 v (by omega); have := hg.1 v h1 h2; dsimp only; omega
  · have h3 := h.2 q (by have := hP.hq; omega)
    rw [hg.2] at h3
    show xs.getD q 0 = 0
    omega
  · have h3 := h.2 v (by have : v < n := h1; omega)
    unfold grtV at h3
    rw [if_neg h2] at h3
    have h4 : (grL n L hP.good).val v = valV n L v := rfl
    dsimp only
    omega
theorem pre_step {n q : Nat} {L : List Lnk} {xs : List Int} (h : Pre n L q xs) (hl : xs.length < n) {k : Nat} (hk : (k : Int) ≤ grtV n L q xs.length) : Pre n L q (xs ++ [(k : Int)]) := by
  refine ⟨by simp; omega, fun i hi => ?_⟩
  simp at hi
  by_cases e : i = xs.length
  · subst e; simp; omega
  · have h2 := h.2 i (by omega)
    simp only [List.getD] at h2 ⊢
    rw [List.getElem?_append_left (by omega)]
    exact h2

set_option maxRecDepth 100000 in
set_option maxHeartbeats 4000000 in
theorem piAll_c (n q : Nat) (L : List Lnk) (hP : PG n L q) : ∀ (d : Nat) (v mv dv : Value) (xs : List Int) (w : World) (lo : Nat), n = xs.length + d → RLinks w v L → RInts w mv (lst n (grtV n L q)) → FInts w lo w.heap.size dv xs → lo ≤ w.heap.size → Pre n L q xs →
    Calls Try.prog 63 #[.int .i64 n, v, .int .i64 q, mv, dv] w (RetRows w lo (piM n L q xs)) := by
  intro d
  induction d with
  | zero =>
    intro v mv dv xs w lo hd h hm hx hlo hp
    have hn8 := hP.good.n8
    have hn1 := hP.good.n1
    have hl : xs.length = n := by omega
    have HR := hid h
    have HX := hid hx
    obtain ⟨aL, capL, rfl⟩ := h.form
    obtain ⟨gm, om, cm, rfl, _, _, _⟩ := ri_open hm (by omega)
    obtain ⟨ad, cd, rfl⟩ := hx.form
    obtain ⟨hpz, hst⟩ := pre_pil hP hp hl
    have HP := hid (And.intro hpz hst)
    have hleaf := piM_leaf (L := L) (q := q) hl
    have HD := hid (rints_lst hx.r hl)
    have t1 : ((xs.length : Int) == (n : Int)) = true := beq_nat_true hl
    have HLL := hid hl
    clear h hm hx hp hpz hst hl hd
    rcases Bool.eq_false_or_eq_true (recB n L q (fun i => xs.getD i 0)) with t | t
    · rw [t, if_pos rfl] at hleaf
      have HLEAF := hid hleaf
      clear hleaf
      go_enter Try.func63, Try.ntmps63
      go_wp2_with fail
      refine (piRecurrent_c n q _ _ L _ _ HR.out hP HD.out HP.out.1 HP.out.2).mono ?_
      rintro e w1 ⟨rfl, hb1⟩
      rw [t]
      have HB1 := hid hb1
      have hal : Below w1.heap.size w1 (w1.alloc (.cells #[.slice ad xs.length cd] 25)) := (Below.refl _ _).alloc (Nat.le_refl _) _
      have HAL := hid (hb1.trans (hal.mono hb1.size))
      have HF := hid ((HX.out.keep hb1).keep hal)
      have hsz := hb1.size
      have hsz2 := hal.size
      clear hb1 hal
      go_wp2
      go_ret
      exact ⟨_, [(_, xs)], rfl, by rw [HLEAF.out]; rfl, own_mono (omat_one w1 _ xs) hsz, pool_one (HF.out.mono (Nat.le_refl _) (by omega)), HAL.out⟩
    · rw [t] at hleaf
      have HLEAF := hid hleaf
      clear hleaf
      go_enter Try.func63, Try.ntmps63
      go_wp2_with fail
      refine (piRecurrent_c n q _ _ L _ _ HR.out hP HD.out HP.out.1 HP.out.2).mono ?_
      rintro e w1 ⟨rfl, hb1⟩
      rw [t]
      have HB1 := hid hb1
      clear hb1
      go_wp2
      go_ret
      exact ⟨_, [], rfl, by rw [HLEAF.out]; rfl, omat_nil _ _, pool_nil _ _ _, HB1.out⟩
  | succ d ih =>
    intro v mv dv xs w lo hd h hm hx hlo hp
    have hn8 := hP.good.n8
    have hn1 := hP.good.n1
    have hlx : xs.length < n := by omega
    have HIH := hid ih
    have HR := hid h
    have HM := hid hm
    have HX := hid hx
    have HP := hid hp
    obtain ⟨aL, capL, rfl⟩ := h.form
    obtain ⟨gm, om, cm, rfl, hcm1, hcm2, hmc⟩ := ri_open hm (by omega)
    obtain ⟨ad, cd, rfl⟩ := hx.form
    have HMC := hid (hmc xs.length hlx)
    have HE := hid (piM_eq (L := L) (q := q) hlx)
    have hgb := (grt_pil hP).all (by decide) hlx
    have HDD := hid hd
    have HLX := hid hlx
    have hxb : RInts w (.slice ad xs.length cd) xs := hx.r
    have hle := hxb.len
    have t1 : ((xs.length : Int) == (n : Int)) = false := beq_nat_false (by omega)
    have hlz : (xs.length : Int) < (n : Int) := by omega
    obtain ⟨G0, hG0⟩ : ∃ G0, grtV n L q xs.length = G0 := ⟨_, rfl⟩
    rw [hG0] at HMC HE hgb
    have HG0 := hid hG0
    clear h hm hx hp hmc ih hd hG0 hlx hxb
    go_enter Try.func63, Try.ntmps63
    go_wp2
    go_loopg [11, 12] (G0 + 1).toNat (fun gk out i wr => ∃ (k : Nat) (Z : List (Value × List Int)) (a : Option Addr) (c : Nat), out = .slice a Z.length c ∧ k ≤ (G0 + 1).toNat ∧ gk = (G0 + 1).toNat - k ∧ i = .int .i64 k ∧ OMat wr w.heap.size (.slice a Z.length c) Z ∧ PoolZ wr w.heap.size wr.heap.size Z ∧ Z.map Prod.snd = piX n L q xs k ∧ Below w.heap.size w wr)
    case atStart => exact ⟨0, [], none, 0, rfl, Nat.zero_le _, rfl, rfl, omat_nil _ _, pool_nil _ _ _, rfl, Below.refl _ _⟩
    case round =>
      obtain ⟨k, Z, a, c, rfl, hk, rfl, rfl, hO, hZ, hM, hb⟩ := hrel
      obtain ⟨wo, rfl⟩ : ∃ wo : World, wo = wr := ⟨_, rfl⟩
      have HO := hid hO
      have HZ := hid hZ
      have HMM := hid hM
      have HB := hid hb
      have e1 := (hb.cell (p := ⟨gm, om + xs.length, none⟩) (cell_lt HMC.out)).trans HMC.out
      have hsb := hb.size
      have hzl : Z.length ≤ k * 52521875 := by
        have := congrArg List.length hM
        rw [List.length_map] at this
        rw [this]; exact piX_len hP xs k
      have hzl2 : Z.length ≤ 35 * 52521875 := Nat.le_trans hzl (Nat.mul_le_mul_right _ (by omega))
      have HZL := hid hzl2
      clear hO hZ hM hb hzl hzl2
      by_cases hlt : (k : Int) ≤ G0
      · have HXB := hid ((HX.out.keep HB.out).r)
        go_wp2_with fail
        refine (l1Own_c _ xs _ HXB.out (by have := HLX.out; omega)).mono ?_
        rintro e w1 ⟨u1, rfl, hF1, hb1⟩
        obtain ⟨a1, c1, rfl⟩ := hF1.form
        have HB1 := hid hb1
        have HF1 := hid hF1
        have hsz1 := hb1.size
        clear hb1 hF1 e1
        have hxl : xs.length ≤ 1048576 := by have := HLX.out; omega
        go_wp2_with (at_builtin; (refine wpList_push_r (W0 := wo) rfl _ _ rfl wo.heap.size (.slice a1 xs.length c1) xs (k : Int) rfl rfl HF1.out HB1.out hsz1 xs.length (hid rfl) hxl _ (hid rfl) ?_; intro g4 c4 w4 hF4 hb4; have HF4 := hid hF4; have HB4 := hid hb4; clear hF4 hb4))
        have hsz4 := HB4.out.size
        have HBA := hid (HB.out.trans (HB4.out.mono hsb))
        have hfx := HF4.out
        have hlen1 : (xs ++ [(k : Int)]).length = xs.length + 1 := by simp
        have HFX := hid hfx
        clear hfx
        refine (HIH.out _ _ _ (xs ++ [(k : Int)]) _ wo.heap.size (by rw [hlen1]; have := HDD.out; omega) (HR.out.keep HBA.out) (HM.out.keep HBA.out) HFX.out hsz4 (pre_step HP.out HLX.out (by rw [HG0.out]; exact hlt))).mono ?_
        rintro e w5 ⟨u5, Y, rfl, hY, hO5, hZ5, hb5⟩
        obtain ⟨a5, c5, rfl⟩ := hO5.form
        obtain ⟨hn5, hc5⟩ := hO5.cellsAt
        have hsz5 := hb5.size
        have hZo : PoolZ w5 w.heap.size wo.heap.size Z := (HZ.out.keep HB4.out).keep hb5
        have hOo : OMat w5 w.heap.size (.slice a Z.length c) Z := (HO.out.keep HB4.out).keep hb5
        have hB5 := HBA.out.trans (hb5.mono HBA.out.size)
        have hyl : Y.length ≤ 52521875 := by
          have := congrArg List.length hY
          rw [List.length_map] at this
          rw [this]; exact piM_len hP
        have HX5 := hid (And.intro hZo (And.intro hOo (And.intro hB5 (And.intro hZ5 (And.intro hY (And.intro hn5 hc5))))))
        have hone := hZ5.one
        have HONE := hid hone
        have hll : Z.length + Y.length ≤ 1099511627776 := by have := HZL.out; omega
        have hlo5 : w.heap.size ≤ w5.heap.size := hB5.size
        clear hY hO5 hZ5 hb5 hn5 hc5 hZo hOo hB5 hyl hone hlen1
        go_wp2_with (at_builtin; (refine wpList_append_vals rfl _ _ rfl w.heap.size (.slice a Z.length c) Z Y a5 c5 rfl rfl HX5.out.2.1 HX5.out.2.2.2.2.2.1 HX5.out.2.2.2.2.2.2 HONE.out hll hlo5 ?_; intro v6 w6 hO6 hg6 hat6))
        obtain ⟨a6, c6, rfl⟩ := hO6.form
        have hB6 := HX5.out.2.2.1.grown hg6 hlo5 (fun g hg => (HX5.out.2.1.lt g hg).1)
        have hZ6 := ((HX5.out.1.append HX5.out.2.2.2.1 hsb (Nat.le_trans hsz4 hsz5)).grown HX5.out.2.1 hg6).mono (Nat.le_refl _) hg6.size
        have HO6 := hid hO6
        have HZ6 := hid hZ6
        have HB6 := hid hB6
        clear hO6 hg6 hat6 hB6 hZ6
        go_roundg ((G0 + 1).toNat - (k + 1))
        case rel => exact ⟨k + 1, Z ++ Y, a6, c6, rfl, by omega, rfl, by go_num, HO6.out, HZ6.out, by rw [List.map_append, HMM.out, HX5.out.2.2.2.2.1, piX_succ], HB6.out⟩
        case measure => omega
      · have hkk : k = (G0 + 1).toNat := by omega
        have HK := hid hkk
        have hgt : G0 < (k : Int) := by omega
        clear hkk
        go_wp2
        go_ret
        exact ⟨_, Z, rfl, by rw [HMM.out, HE.out, HK.out], HO.out, HZ.out.mono hlo (Nat.le_refl _), HB.out⟩

end Go.Proofs.Ytifdhapaonideaa
