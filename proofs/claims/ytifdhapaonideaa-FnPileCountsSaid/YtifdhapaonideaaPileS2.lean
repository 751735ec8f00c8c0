/- Piles: the reference's questions, sums, recurrent piles, the greatest one, the identity. -/
import Derived.Test.YtifdhapaonideaaPileS
import Derived.Test.YtifdhapaonideaaPush
namespace Go.Proofs.Ytifdhapaonideaa
open Go.RowKit
open Go.Lib (hid)

theorem RLinks.drewN {w : World} {v : Value} {L : List Lnk} {q : Nat} (h : RLinks w v L) : RLinks (w.drewN q) v L := h

set_option maxHeartbeats 1000000 in
theorem piPile_c (n q : Nat) (v : Value) (d : List Int) (w : World) (h : RInts w v d) (hq : q < n) :
    Calls Try.prog 45 #[.int .i64 n, .int .i64 q, v] w fun e w' => e = .returned (.bool (piPB n q d)) ∧ w = w' := by
  have HR := hid h
  obtain ⟨a, cap, rfl, h1, h2, hc⟩ := h
  unfold maxLen at h2
  rcases Bool.eq_false_or_eq_true ((d.length : Int) == (n : Int)) with t1 | t1
  · have hl : d.length = n := by rw [beq_iff_eq] at t1; omega
    obtain ⟨g, o, x, rfl, hcell, _, HX⟩ := ints_at hc (show q < d.length by omega)
    have hqz : (q : Int) < (d.length : Int) := by omega
    clear hc
    rcases Bool.eq_false_or_eq_true (allB d 0 50) with t2 | t2
    · have HE : Hid (piPB n q d = (x == 0)) := by show _ = _; unfold piPB; rw [t1, t2, Int.toNat_natCast, HX.out]; rfl
      clear hl
      go_enter Try.func45, Try.ntmps45
      go_wp2_with (go_at_call 81; (with_reducible refine (l1All_c _ d _ _ _ HR.out).mono ?_); rintro e w' ⟨rfl, rfl⟩; rw [t2])
      all_goals go_ret
      all_goals exact ⟨ret_bool (by rw [HE.out] <;> simp [*]), rfl⟩
    · have HE : Hid (piPB n q d = false) := by show _ = _; unfold piPB; rw [t1, t2]; rfl
      clear hl
      go_enter Try.func45, Try.ntmps45
      go_wp2_with (go_at_call 81; (with_reducible refine (l1All_c _ d _ _ _ HR.out).mono ?_); rintro e w' ⟨rfl, rfl⟩; rw [t2])
      go_ret
      exact ⟨ret_bool HE.out.symm, rfl⟩
  · have HE : Hid (piPB n q d = false) := by show _ = _; unfold piPB; rw [t1]; rfl
    clear hc
    go_enter Try.func45, Try.ntmps45
    go_wp2
    go_ret
    exact ⟨ret_bool HE.out.symm, rfl⟩

set_option maxHeartbeats 2000000 in
theorem piGraph_c (n q : Int) (v : Value) (L : List Lnk) (w : World) (h : RLinks w v L) :
    Calls Try.prog 61 #[.int .i64 n, v, .int .i64 q] w fun e w' => e = .returned (.bool (piGB n L q)) ∧ Below w.heap.size w w' := by
  have HR := hid h
  obtain ⟨a, cap, rfl⟩ := h.form
  clear h
  rcases Bool.eq_false_or_eq_true (goodG n L) with t1 | t1
  · obtain ⟨hG, hn⟩ := goodG_parts t1
    have hn8 := hG.n8
    have hn1 := hG.n1
    obtain ⟨m, hm⟩ : ∃ m : Nat, n.toNat = m := ⟨_, rfl⟩
    rw [hm] at hG hn hn8 hn1
    subst hn
    have HG := hid hG; clear hG
    by_cases t2 : (m : Int) ≤ 5
    · rcases Bool.eq_false_or_eq_true (inB q 0 ((m : Int) - 1)) with t4 | t4
      · rcases Bool.eq_false_or_eq_true (conB m L) with t3 | t3
        · have HE : Hid (piGB (m : Int) L q = decide (edgL L ≤ 10)) := by show _ = _; unfold piGB; rw [t1, hm, t3, t4, decide_eq_true t2]; rfl
          have hb := edgL_bound HG.out
          obtain ⟨E, hE⟩ : ∃ E, edgL L = E := ⟨_, rfl⟩
          rw [hE] at HE hb
          have HQ := hid hE
          clear hE hm
          go_enter Try.func61, Try.ntmps61
          go_wp2_with fail
          refine (chGood_c _ _ L _ HR.out).mono ?_
          rintro e w1 ⟨rfl, hb1⟩
          rw [t1]
          have HB1 := hid hb1
          have HR1 := hid (HR.out.keep hb1)
          clear hb1
          go_wp2_with (go_at_call 80; refine (l1In_c _ _ _ _).mono ?_; rintro e w' ⟨rfl, rfl⟩; rw [t4])
          refine (chConnected_c m _ L _ HR1.out HG.out).mono ?_
          rintro e w2 ⟨rfl, hb2⟩
          rw [t3]
          have HB2 := hid (HB1.out.trans (hb2.mono HB1.out.size))
          have HR2 := hid (HR1.out.keep hb2)
          clear hb2
          go_wp2_with fail
          refine (chGenus_c m _ L _ HR2.out HG.out).mono ?_
          rintro e w3 ⟨rfl, hb3⟩
          have HB3 := hid (HB2.out.trans (hb3.mono HB2.out.size))
          rw [HQ.out]
          clear hb3
          have f1 : IntKind.i64.wrap (1 - (m : Int) + E + m) = E + 1 := by rw [show 1 - (m : Int) + E + m = E + 1 by omega]; exact IntWalk.i64_in _ (by omega)
          have f2 : IntKind.i64.wrap (E + 1 - 1) = E := by rw [show E + 1 - 1 = E by omega]; exact IntWalk.i64_in _ (by omega)
          by_cases t5 : E ≤ 10
          · rw [decide_eq_true t5] at HE
            go_wp2
            go_ret
            exact ⟨ret_bool HE.out.symm, HB3.out⟩
          · have t6 : 10 < E := by omega
            go_wp2
            go_ret
            exact ⟨ret_bool HE.out.symm, HB3.out⟩
        · have HE : Hid (piGB (m : Int) L q = false) := by show _ = _; unfold piGB; rw [t1, hm, t3]; simp
          clear hm
          go_enter Try.func61, Try.ntmps61
          go_wp2_with fail
          refine (chGood_c _ _ L _ HR.out).mono ?_
          rintro e w1 ⟨rfl, hb1⟩
          rw [t1]
          have HB1 := hid hb1
          have HR1 := hid (HR.out.keep hb1)
          clear hb1
          go_wp2_with (go_at_call 80; refine (l1In_c _ _ _ _).mono ?_; rintro e w' ⟨rfl, rfl⟩; rw [t4])
          refine (chConnected_c m _ L _ HR1.out HG.out).mono ?_
          rintro e w2 ⟨rfl, hb2⟩
          rw [t3]
          have HB2 := hid (HB1.out.trans (hb2.mono HB1.out.size))
          clear hb2
          go_wp2
          go_ret
          exact ⟨ret_bool HE.out.symm, HB2.out⟩
      · have HE : Hid (piGB (m : Int) L q = false) := by show _ = _; unfold piGB; rw [t4]; simp
        clear hm
        go_enter Try.func61, Try.ntmps61
        go_wp2_with fail
        refine (chGood_c _ _ L _ HR.out).mono ?_
        rintro e w1 ⟨rfl, hb1⟩
        rw [t1]
        have HB1 := hid hb1
        clear hb1
        go_wp2_with (go_at_call 80; refine (l1In_c _ _ _ _).mono ?_; rintro e w' ⟨rfl, rfl⟩; rw [t4])
        go_ret
        exact ⟨ret_bool HE.out.symm, HB1.out⟩
    · have HE : Hid (piGB (m : Int) L q = false) := by show _ = _; unfold piGB; rw [decide_eq_false t2]; simp
      have t3 : 5 < (m : Int) := by omega
      clear hm
      go_enter Try.func61, Try.ntmps61
      go_wp2_with fail
      refine (chGood_c _ _ L _ HR.out).mono ?_
      rintro e w1 ⟨rfl, hb1⟩
      rw [t1]
      have HB1 := hid hb1
      clear hb1
      go_wp2
      go_ret
      exact ⟨ret_bool HE.out.symm, HB1.out⟩
  · have HE : Hid (piGB n L q = false) := by show _ = _; unfold piGB; rw [t1]; rfl
    go_enter Try.func61, Try.ntmps61
    go_wp2_with fail
    refine (chGood_c _ _ L _ HR.out).mono ?_
    rintro e w1 ⟨rfl, hb1⟩
    rw [t1]
    go_wp2
    go_ret
    exact ⟨ret_bool HE.out.symm, hb1⟩

set_option maxHeartbeats 1000000 in
theorem piAsked_c (n q : Int) (v u : Value) (L : List Lnk) (d : List Int) (w : World) (h : RLinks w v L) (hd : RInts w u d) :
    Calls Try.prog 39 #[.int .i64 n, v, .int .i64 q, u] w fun e w' => e = .returned (.bool (piAB n L q d)) ∧ Below w.heap.size w w' := by
  have HR := hid h
  have HD := hid hd
  obtain ⟨a, cap, rfl⟩ := h.form
  obtain ⟨a2, cap2, rfl, _, _, hc⟩ := hd
  clear h hc
  rcases Bool.eq_false_or_eq_true (piGB n L q) with t1 | t1
  · obtain ⟨hn, hqn, hP, _⟩ := piGB_parts t1
    obtain ⟨m, hm⟩ : ∃ m : Nat, n.toNat = m := ⟨_, rfl⟩
    obtain ⟨k, hk⟩ : ∃ k : Nat, q.toNat = k := ⟨_, rfl⟩
    rw [hm] at hn hP
    rw [hk] at hqn hP
    subst hn
    subst hqn
    have hkm := hP.hq
    have HE : Hid (piAB (m : Int) L (k : Int) d = piPB m k d) := by show _ = _; unfold piAB; rw [t1]; rfl
    clear hP hm hk
    go_enter Try.func39, Try.ntmps39
    go_wp2_with fail
    refine (piGraph_c _ _ _ L _ HR.out).mono ?_
    rintro e w1 ⟨rfl, hb1⟩
    rw [t1]
    have HD1 := hid (HD.out.keep hb1)
    go_wp2_with fail
    refine (piPile_c m k _ d _ HD1.out hkm).mono ?_
    rintro e w2 ⟨rfl, rfl⟩
    rw [← HE.out]
    go_wp2
    all_goals go_ret
    all_goals exact ⟨ret_bool (by simp [*]), hb1⟩
  · have HE : Hid (piAB n L q d = false) := by show _ = _; unfold piAB; rw [t1]; rfl
    go_enter Try.func39, Try.ntmps39
    go_wp2_with fail
    refine (piGraph_c _ _ _ L _ HR.out).mono ?_
    rintro e w1 ⟨rfl, hb1⟩
    rw [t1]
    go_wp2
    go_ret
    exact ⟨ret_bool HE.out.symm, hb1⟩

/-- chips of a pile: nothing at the sink, at most M elsewhere -/
def PilZ (n q : Nat) (M : Int) (f : Nat → Int) : Prop := (∀ v, v < n → v ≠ q → 0 ≤ f v ∧ f v ≤ M) ∧ f q = 0
theorem PilZ.pilF {n q : Nat} {M : Int} {f : Nat → Int} (h : PilZ n q M f) (hM : M ≤ 2000) : PilF n q f := ⟨fun v h1 h2 => by have := h.1 v h1 h2; omega, by rw [h.2]; omega, by rw [h.2]; omega⟩
theorem PilZ.add {n q : Nat} {A B : Int} {f g : Nat → Int} (h : PilZ n q A f) (h' : PilZ n q B g) : PilZ n q (A + B) (fun v => f v + g v) := ⟨fun v h1 h2 => by have := h.1 v h1 h2; have := h'.1 v h1 h2; dsimp only; omega, by show f q + g q = 0; rw [h.2, h'.2]; rfl⟩
theorem PilZ.mono {n q : Nat} {A B : Int} {f : Nat → Int} (h : PilZ n q A f) (hAB : A ≤ B) : PilZ n q B f := ⟨fun v h1 h2 => by have := h.1 v h1 h2; omega, h.2⟩
theorem PilZ.all {n q : Nat} {M : Int} {f : Nat → Int} (h : PilZ n q M f) (hM : 0 ≤ M) {v : Nat} (hv : v < n) : 0 ≤ f v ∧ f v ≤ M := by
  by_cases e : v = q
  · rw [e, h.2]; omega
  · exact h.1 v hv e

set_option maxRecDepth 100000 in
set_option maxHeartbeats 2000000 in
theorem piSum_c (n q : Nat) (v a b : Value) (L : List Lnk) (f g : Nat → Int) (w : World) (h : RLinks w v L) (hP : PG n L q) (ha : RInts w a (lst n f)) (hb : RInts w b (lst n g)) (hf : PilZ n q 1000 f) (hg : PilZ n q 1000 g) :
    Calls Try.prog 46 #[.int .i64 n, v, .int .i64 q, a, b] w (RetInts w (lst n (Gr.stb (grL n L hP.good) q (fun i => f i + g i)))) := by
  have HR := hid h
  have hn8 := hP.good.n8
  have hn1 := hP.good.n1
  obtain ⟨aL, capL, rfl⟩ := h.form
  obtain ⟨ga, oa, ca, rfl, ha1, ha2, hac⟩ := ri_open ha (by omega)
  obtain ⟨gb, ob, cb, rfl, hb1, hb2, hbc⟩ := ri_open hb (by omega)
  have HAC := hid hac
  have HBC := hid hbc
  have HS := hid (hf.add hg)
  have HFA := hid (fun i (hi : i < n) => hf.all (by decide) hi)
  have HGA := hid (fun i (hi : i < n) => hg.all (by decide) hi)
  clear h ha hb hac hbc hf hg
  go_enter Try.func46, Try.ntmps46
  go_wp2
  go_loopg [11, 18] n (fun gk out i wr => ∃ k : Nat, ∃ a c, out = .slice a k c ∧ k ≤ n ∧ gk = n - k ∧ i = .int .i64 k ∧ FInts wr w.heap.size wr.heap.size (.slice a k c) (lst k (fun i => f i + g i)) ∧ Below w.heap.size w wr)
  case atStart => exact ⟨0, none, 0, rfl, Nat.zero_le _, rfl, rfl, ints_nil _ _ _, Below.refl _ _⟩
  case round =>
    obtain ⟨k, a', c', rfl, hk, rfl, rfl, hF, hb⟩ := hrel
    have HB := hid hb
    by_cases hlt : k < n
    · have e1 := (hb.cell (p := ⟨ga, oa + k, none⟩) (cell_lt (HAC.out k hlt))).trans (HAC.out k hlt)
      have e2 := (hb.cell (p := ⟨gb, ob + k, none⟩) (cell_lt (HBC.out k hlt))).trans (HBC.out k hlt)
      have hfk := HFA.out k hlt
      have hgk := HGA.out k hlt
      obtain ⟨x, hx⟩ : ∃ x, f k = x := ⟨_, rfl⟩
      obtain ⟨y, hy⟩ : ∃ y, g k = y := ⟨_, rfl⟩
      rw [hx] at e1 hfk
      rw [hy] at e2 hgk
      have HX : Hid (lst k (fun i => f i + g i) ++ [x + y] = lst (k + 1) (fun i => f i + g i)) := by show _ = _; rw [lst_succ, hx, hy]
      have f1 : IntKind.i64.wrap (x + y) = x + y := IntWalk.i64_in _ (by omega)
      have hkz : (k : Int) < (n : Int) := by omega
      have hsb := hb.size
      have HF := hid hF
      have hll : (lst k (fun i => f i + g i)).length = k := lst_len _ _
      have HLL := hid hll
      clear hF hb hx hy hll
      go_wp2_with (at_builtin; (refine wpList_push_r (W0 := w) rfl _ _ rfl w.heap.size (.slice a' k c') (lst k (fun i => f i + g i)) (x + y) rfl rfl HF.out HB.out hsb k HLL (by omega) _ HX ?_; intro g4 c4 w4 hF4 hb4; have HF4 := hid hF4; have HB4 := hid hb4; clear hF4 hb4))
      clear f1
      go_roundg (n - (k + 1))
      case rel => exact ⟨k + 1, _, _, rfl, by omega, rfl, by go_num, HF4.out, HB4.out⟩
      case measure => omega
    · obtain rfl : k = n := by omega
      have HF := hid hF
      clear hF hb
      go_wp2_with fail
      refine (piTopple_c k q _ _ L _ _ (HR.out.keep HB.out) hP HF.out.r (HS.out.pilF (by decide)) HS.out.2).mono ?_
      rintro e w2 ⟨t, s, rfl, hF2, _, hb2⟩
      have HF2 := hid (hF2.mono HB.out.size (Nat.le_refl _))
      have HB2 := hid (HB.out.trans (hb2.mono HB.out.size))
      clear hF2 hb2
      go_wp2
      go_ret
      exact ⟨_, rfl, HF2.out, HB2.out⟩

set_option maxRecDepth 100000 in
set_option maxHeartbeats 1000000 in
theorem piBurnt_c (n q : Nat) (v u : Value) (L : List Lnk) (f : Nat → Int) (w : World) (h : RLinks w v L) (hP : PG n L q) (hd : RInts w u (lst n f)) (hf : PilZ n q 2000 f) (ho : ∀ v, v < n → v ≠ q → Gr.odo (grL n L hP.good) q f v = 1) :
    Calls Try.prog 85 #[.int .i64 n, v, .int .i64 q, u] w fun e w' => e = .returned (.bool true) ∧ Below w.heap.size w w' := by
  have hn8 := hP.good.n8
  have hn1 := hP.good.n1
  have HR := hid h
  have HD := hid hd
  obtain ⟨aL, capL, rfl⟩ := h.form
  obtain ⟨ga, oa, ca, rfl, _, _, _⟩ := ri_open hd (by omega)
  have HO := hid ho
  clear h hd ho
  go_enter Try.func85, Try.ntmps85
  go_wp2_with fail
  refine (piTopple_c n q _ _ L f _ HR.out hP HD.out (hf.pilF (by decide)) hf.2).mono ?_
  rintro e w2 ⟨t, s, rfl, hF2, hS2, hb2⟩
  have hsr := hS2.r
  obtain ⟨gs, os, cs, rfl, hs1, hs2, hsc⟩ := ri_open hsr (by omega)
  have HSC := hid hsc
  have HB2 := hid hb2
  clear hF2 hS2 hsr hsc hb2
  go_wp2
  go_loop [23] (fun i => ∃ k : Nat, k ≤ n ∧ i = .int .i64 k) (fun i => n - (intOf i).toNat)
  case atStart => exact ⟨0, Nat.zero_le _, rfl⟩
  case round =>
    obtain ⟨k, hk, rfl⟩ := hrel
    by_cases hlt : k < n
    · have e1 := HSC.out k hlt
      have hkz : (k : Int) < (n : Int) := by omega
      by_cases hkq : k = q
      · have t1 : ((k : Int) == (q : Int)) = true := beq_nat_true hkq
        have t2 : ((k : Int) != (q : Int)) = false := bne_of_true t1
        obtain ⟨x, hx⟩ : ∃ x, Gr.odo (grL n L hP.good) q f k = x := ⟨_, rfl⟩
        rw [hx] at e1
        clear hx hkq
        go_wp2
        go_round
        case rel => exact ⟨k + 1, by omega, by go_num⟩
        case measure => simp [intOf]; omega
      · rw [HO.out k hlt hkq] at e1
        have t1 : ((k : Int) == (q : Int)) = false := beq_nat_false hkq
        have t2 : ((k : Int) != (q : Int)) = true := bne_of_false t1
        clear hkq
        go_wp2
        go_round
        case rel => exact ⟨k + 1, by omega, by go_num⟩
        case measure => simp [intOf]; omega
    · have hkn : k = n := by omega
      go_wp2
      go_ret
      exact ⟨rfl, HB2.out⟩

/-- what the sink's firing makes of a pile -/
def bet (L : List Lnk) (q : Nat) (f : Nat → Int) : Nat → Int := pinF q (fun v => f v + mulL L q v)
theorem bet_fire {n q : Nat} {L : List Lnk} (hG : GoodL n L) (f : Nat → Int) : lst n (upd ((grL n L hG).fire f q 1) q 0) = lst n (bet L q f) := lst_congr fun u _ => by
  unfold upd bet pinF
  by_cases e : u = q
  · rw [if_pos e, if_pos e]
  · rw [if_neg e, if_neg e, Gr.fire_other _ _ _ _ _ e, Int.one_mul]; rfl
theorem bet_pil {n q : Nat} {L : List Lnk} (hG : GoodL n L) {f : Nat → Int} {M : Int} (hf : PilZ n q M f) : PilZ n q (M + 5) (bet L q f) := ⟨fun v h1 h2 => by
  unfold bet pinF
  rw [if_neg h2]
  have := hf.1 v h1 h2; have := mulL_bound hG.each hG.sorted q v; dsimp only; omega, by unfold bet pinF; rw [if_pos rfl]⟩
theorem bet_eqv {n q : Nat} {L : List Lnk} (hG : GoodL n L) (f : Nat → Int) : Gr.Eqv (grL n L hG) q (fun v => f v + Gr.beta (grL n L hG) q v) (bet L q f) := fun v _ hne => by unfold bet pinF; rw [if_neg hne]; rfl
/-- a stable pile is recurrent just if the sink's firing takes it back to itself -/
theorem rec_back {n q : Nat} {L : List Lnk} (hP : PG n L q) {f : Nat → Int} {M : Int} (hf : PilZ n q M f) (hs : (grL n L hP.good).Stab q f) : recB n L q f = decide (lst n (Gr.stb (grL n L hP.good) q (bet L q f)) = lst n f) := by
  obtain ⟨W, _⟩ := Gr.wt8 (G := grL n L hP.good) hP.hq hP.con
  have h0 : ∀ v, v < (grL n L hP.good).n → v ≠ q → 0 ≤ f v := fun v h1 h2 => (hf.1 v h1 h2).1
  have h1 : ∀ v, v < (grL n L hP.good).n → v ≠ q → 0 ≤ f v + Gr.beta (grL n L hP.good) q v := fun v a b => by have := h0 v a b; have := (grL n L hP.good).pos q v; unfold Gr.beta; omega
  have h2 := Gr.stb_congr W h1 (bet_eqv hP.good f)
  rw [Bool.eq_iff_iff, recB_iff hP.good, decide_eq_true_iff, ← Gr.back_iff (G := grL n L hP.good) hP.hq W h0 hs]
  constructor
  · intro h
    refine lst_eqv hP.good (q := q) (fun v a b => ?_) (by rw [Gr.stb_sink, hf.2])
    rw [← h2 v a]; exact h v a b
  · intro h v a b
    rw [h2 v a]; exact lst_inj h v a
theorem rec_once {n q : Nat} {L : List Lnk} (hP : PG n L q) {f : Nat → Int} (hr : Gr.Rec (grL n L hP.good) q f) : ∀ v, v < n → v ≠ q → Gr.odo (grL n L hP.good) q (bet L q f) v = 1 := fun v h1 h2 => by
  have h3 := hr.once.congr (bet_eqv hP.good f)
  have h4 : (grL n L hP.good).Stab q ((grL n L hP.good).after (bet L q f) (Gr.one1 (grL n L hP.good) q)) :=
    Gr.Eqv.stab ((Gr.after_one (G := grL n L hP.good) hP.hq f).symm.trans ((bet_eqv hP.good f).after (fun _ _ => rfl))) hr.stab
  rw [Gr.odo_eq h3 h4, Gr.one1_at h1 h2]

set_option maxRecDepth 100000 in
set_option maxHeartbeats 2000000 in
theorem piRecurrent_c (n q : Nat) (v u : Value) (L : List Lnk) (f : Nat → Int) (w : World) (h : RLinks w v L) (hP : PG n L q) (hd : RInts w u (lst n f)) (hf : PilZ n q 1000 f) (hs : (grL n L hP.good).Stab q f) :
    Calls Try.prog 59 #[.int .i64 n, v, .int .i64 q, u] w fun e w' => e = .returned (.bool (recB n L q f)) ∧ Below w.heap.size w w' := by
  have hn8 := hP.good.n8
  have hn1 := hP.good.n1
  have hq := hP.hq
  have hqz : (q : Int) < (n : Int) := by omega
  have HR := hid h
  have HD := hid hd
  obtain ⟨aL, capL, rfl⟩ := h.form
  obtain ⟨ga, oa, ca, rfl, _, _, _⟩ := ri_open hd (by omega)
  have hlit := ints_lit w w.heap.size (Nat.le_refl _) [(q : Int)] (by simp)
  have hal : Below w.heap.size w (w.alloc (.cells #[.int .i64 q] 3)) := (Below.refl _ _).alloc (Nat.le_refl _) _
  have HLIT := hid hlit.r
  have HAL := hid hal
  have HF := hid hf
  have hrb := rec_back hP hf hs
  have hbz := (bet_pil hP.good hf).mono (B := 2000) (by decide)
  have hone := fun hr => rec_once hP (f := f) ((recB_iff hP.good).1 hr)
  have hfire := bet_fire hP.good (q := q) f
  obtain ⟨bt, hbt⟩ : ∃ bt, bet L q f = bt := ⟨_, rfl⟩
  rw [hbt] at hrb hbz hone hfire
  have HRB := hid hrb
  have HBZ := hid hbz
  have HONE := hid hone
  have HFI := hid hfire
  have hgb : ∀ i, i < n → -100000 ≤ f i ∧ f i ≤ 100000 := fun i hi => by have := hf.all (by decide) hi; omega
  have HGB := hid hgb
  clear h hd hlit hal hf hs hrb hbz hone hfire hbt hgb
  go_enter Try.func59, Try.ntmps59
  go_wp2_with fail
  refine (chSet_c n _ [(q : Int)] _ (by omega) HLIT.out (by simp; omega)).mono ?_
  rintro e w4 ⟨us, rfl, hFs4, hb4⟩
  have hbw4 := HAL.out.trans (hb4.mono HAL.out.size)
  have HUS := hid hFs4.r
  have HB4 := hid hbw4
  obtain ⟨aS, nS, cS, rfl⟩ := hFs4.form3
  clear hFs4 hb4 hbw4
  go_wp2_with fail
  refine (chFire_c n _ _ _ L f (setF [(q : Int)]) _ (HR.out.keep HB4.out) hP.good (HD.out.keep HB4.out) HUS.out HGB.out (fun i _ => by unfold setF; split <;> omega)).mono ?_
  rintro e w5 ⟨uf, rfl, hF5, hb5⟩
  rw [after_set (G := grL n L hP.good) _ hq] at hF5
  obtain ⟨gf, cf, rfl, hgf1, hgf2⟩ := fi_form hF5 (by omega)
  have hsz4 := HB4.out.size
  have hsz5 := hb5.size
  have hB5 := HB4.out.trans (hb5.mono HB4.out.size)
  obtain ⟨hc5, _, hset5⟩ := fi_open hF5
  have c1 := (hc5 q hq).1
  have c2 := (hc5 q hq).2
  have hst5 := hset5 q 0 hq
  rw [HFI.out] at hst5
  have hB6 := hB5.trans (hst5.2.below (by omega) hB5.size)
  obtain ⟨w6, hw6⟩ : ∃ w6 : World, w6 = w5.setCell ⟨gf, q, none⟩ (.int .i64 0) := ⟨_, rfl⟩
  rw [← hw6] at hst5 hB6
  have HW6 := hid hw6
  have HF6 := hid hst5.1
  have HB6 := hid hB6
  clear hF5 hb5 hB5 hc5 hset5 hst5 hB6 hw6
  go_wp2_with fail
  rw [← HW6.out]
  refine (piTopple_c n q _ _ L _ _ (HR.out.keep HB6.out) hP HF6.out.r (HBZ.out.pilF (by decide)) HBZ.out.2).mono ?_
  rintro e w7 ⟨t, s, rfl, hF7, hS7, hb7⟩
  have HT := hid hF7.r
  have HF7 := hid (HF6.out.keep hb7)
  have HB7 := hid (HB6.out.trans (hb7.mono HB6.out.size))
  obtain ⟨a7, n7, c7, rfl⟩ := hF7.form3
  obtain ⟨a8, n8, c8, rfl⟩ := hS7.form3
  clear hF7 hS7 hb7 c1 c2
  go_wp2_with fail
  refine (l1Same_c _ _ _ _ _ HT.out (HD.out.keep HB7.out)).mono ?_
  rintro e w8 ⟨rfl, nd, rfl⟩
  rcases Bool.eq_false_or_eq_true (recB n L q f) with t | t
  · rw [← HRB.out, t]
    go_wp2_with fail
    refine (piBurnt_c n q _ _ L _ _ (RLinks.drewN (HR.out.keep HB7.out)) hP (FInts.drewN HF7.out).r HBZ.out (HONE.out t)).mono ?_
    rintro e w9 ⟨rfl, hb9⟩
    have HB9 := hid ((below_drewN HB7.out nd).trans (hb9.mono (below_drewN HB7.out nd).size))
    clear hb9
    go_wp2
    go_ret
    exact ⟨ret_bool t.symm, HB9.out⟩
  · rw [← HRB.out, t]
    go_wp2
    go_ret
    exact ⟨ret_bool t.symm, below_drewN HB7.out nd⟩

set_option maxRecDepth 100000 in
set_option maxHeartbeats 2000000 in
theorem piGreatest_c (n q : Nat) (v : Value) (L : List Lnk) (w : World) (h : RLinks w v L) (hG : GoodL n L) :
    Calls Try.prog 64 #[.int .i64 n, v, .int .i64 q] w (RetInts w (lst n (grtV n L q))) := by
  have hn8 := hG.n8
  have hn1 := hG.n1
  have HR := hid h
  obtain ⟨aL, capL, rfl⟩ := h.form
  have HG := hid hG
  clear h hG
  go_enter Try.func64, Try.ntmps64
  go_wp2_with fail
  refine (chValences_c n _ L _ HR.out HG.out).mono ?_
  rintro e w1 ⟨uv, rfl, hF, hb1⟩
  obtain ⟨gV, cV, rfl, hg1, hg2⟩ := fi_form hF (by omega)
  have HF := hid hF
  have HB1 := hid hb1
  have hsz := hb1.size
  clear hF hb1
  go_wp2
  go_loopg [14] n (fun gk i wr => ∃ k : Nat, k ≤ n ∧ gk = n - k ∧ i = .int .i64 k ∧ FInts wr w.heap.size w1.heap.size (.slice (some ⟨gV, 0, none⟩) n cV) (lst n (partF (valV n L) (grtV n L q) k)) ∧ Touch w.heap.size w1.heap.size w1 wr)
  case atStart => exact ⟨0, Nat.zero_le _, rfl, rfl, by rw [part_zero]; exact HF.out, Touch.refl _ _ _⟩
  case round =>
    obtain ⟨k, hk, rfl, rfl, hF, hT⟩ := hrel
    have HT := hid hT
    by_cases hlt : k < n
    · obtain ⟨hc, _, hset⟩ := fi_open hF
      have a1 := (hc k hlt).1
      rw [part_at] at a1
      have a2 := (hc k hlt).2
      have hvb := valV_bound HG.out hlt
      have hkz : (k : Int) < (n : Int) := by omega
      by_cases hkq : k = q
      · have t1 : ((k : Int) == (q : Int)) = true := beq_nat_true hkq
        have hst := hset k 0 hlt
        rw [part_set n _ _ (show (0 : Int) = grtV n L q k by unfold grtV; rw [if_pos hkq])] at hst
        have HO := hid (And.intro hst.1 (hT.trans hst.2))
        obtain ⟨x, hx⟩ : ∃ x, valV n L k = x := ⟨_, rfl⟩
        rw [hx] at a1
        clear hF hT hc hset hst hkq hx
        go_wp2
        go_roundg (n - (k + 1))
        case rel => exact ⟨k + 1, by omega, rfl, by go_num, HO.out⟩
        case measure => omega
      · have t1 : ((k : Int) == (q : Int)) = false := beq_nat_false hkq
        have hst := hset k (valV n L k - 1) hlt
        rw [part_set n _ _ (show valV n L k - 1 = grtV n L q k by unfold grtV; rw [if_neg hkq])] at hst
        obtain ⟨x, hx⟩ : ∃ x, valV n L k = x := ⟨_, rfl⟩
        rw [hx] at a1 hst hvb
        have HO := hid (And.intro hst.1 (hT.trans hst.2))
        have f1 : IntKind.i64.wrap (x - 1) = x - 1 := IntWalk.i64_in _ (by omega)
        clear hF hT hc hset hst hkq hx
        go_wp2
        go_roundg (n - (k + 1))
        case rel => exact ⟨k + 1, by omega, rfl, by go_num, HO.out⟩
        case measure => omega
    · have hkn : k = n := by omega
      subst hkn
      rw [part_all] at hF
      have HF2 := hid hF
      clear hF hT
      go_wp2
      go_ret
      exact ⟨_, rfl, HF2.out.mono (Nat.le_refl _) HT.out.size, HB1.out.trans (HT.out.below (Nat.le_refl _) hsz)⟩

end Go.Proofs.Ytifdhapaonideaa
