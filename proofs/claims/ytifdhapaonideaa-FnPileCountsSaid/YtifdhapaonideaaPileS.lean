/- Piles: the reference's piNext and piTopple. -/
import Derived.Test.YtifdhapaonideaaPileD
import Derived.Test.YtifdhapaonideaaFireS
import Derived.Test.YtifdhapaonideaaSame
import Derived.Test.YtifdhapaonideaaRankS
namespace Go.Proofs.Ytifdhapaonideaa
open Go.RowKit
open Go.Lib (hid)

/-- the first vertex that topples, or -1 -/
def Nx (G : Gr) (q : Nat) (f : Nat → Int) (x : Int) : Prop := (x = -1 ∧ G.Stab q f) ∨ ∃ v : Nat, x = v ∧ v < G.n ∧ v ≠ q ∧ G.val v ≤ f v

set_option maxRecDepth 100000 in
set_option maxHeartbeats 2000000 in
theorem piNext_c (n q : Nat) (v u : Value) (L : List Lnk) (f : Nat → Int) (w : World) (h : RLinks w v L) (hG : GoodL n L) (hd : RInts w u (lst n f)) :
    Calls Try.prog 58 #[.int .i64 n, v, .int .i64 q, u] w fun e w' => ∃ x, e = .returned (.int .i64 x) ∧ Nx (grL n L hG) q f x ∧ Below w.heap.size w w' := by
  have HR := hid h
  have HD := hid hd
  have hn8 := hG.n8
  have hn1 := hG.n1
  obtain ⟨a, cap, rfl⟩ := h.form
  obtain ⟨gd, od, cd, rfl, hcd1, hcd2, _⟩ := ri_open hd (by omega)
  have HG := hid hG
  clear h hd
  go_enter Try.func58, Try.ntmps58
  go_wp2_with fail
  refine (chValences_c n _ L _ HR.out HG.out).mono ?_
  rintro e w1 ⟨uv, rfl, hF, hb1⟩
  have hR := hF.r
  have hd1 := HD.out.keep hb1
  obtain ⟨gV, oV, cV, rfl, hcv1, hcv2, hvc⟩ := ri_open hR (by omega)
  obtain ⟨g2, o2, c2, he, _, _, hdc⟩ := ri_open hd1 (by omega)
  simp only [Value.slice.injEq, Option.some.injEq, Addr.mk.injEq, and_true, true_and] at he
  obtain ⟨⟨rfl, rfl⟩, rfl⟩ := he
  have HVC := hid hvc
  have HDC := hid hdc
  have HB1 := hid hb1
  clear hF hR hd1 hvc hdc hb1
  go_wp2
  go_loop [15] (fun i => ∃ k : Nat, k ≤ n ∧ i = .int .i64 k ∧ ∀ v, v < k → v ≠ q → f v < (grL n L HG.out).val v) (fun i => n - (intOf i).toNat)
  case atStart => exact ⟨0, Nat.zero_le _, rfl, fun v hv => by omega⟩
  case round =>
    obtain ⟨k, hk, rfl, hr⟩ := hrel
    have HRR := hid hr; clear hr
    by_cases hlt : k < n
    · have a1 := HVC.out k hlt
      have a2 := HDC.out k hlt
      have hval : (grL n L HG.out).val k = valV n L k := rfl
      obtain ⟨x, hx⟩ : ∃ x, valV n L k = x := ⟨_, rfl⟩
      obtain ⟨y, hy⟩ : ∃ y, f k = y := ⟨_, rfl⟩
      rw [hx] at a1 hval
      rw [hy] at a2
      have HV := hid hval
      have HY := hid hy
      have hkz : (k : Int) < (n : Int) := by omega
      clear hval hx hy
      by_cases hkq : k = q
      · have t1 : ((k : Int) == (q : Int)) = true := beq_nat_true hkq
        have t2 : ((k : Int) != (q : Int)) = false := bne_of_true t1
        have HKQ := hid hkq
        clear hkq
        go_wp2
        go_round
        case rel => exact ⟨k + 1, by omega, by go_num, fun v hv hne => by
          by_cases e : v = k
          · exact (hne (e.trans HKQ.out)).elim
          · exact HRR.out v (by omega) hne⟩
        case measure => simp [intOf]; omega
      · have t1 : ((k : Int) == (q : Int)) = false := beq_nat_false hkq
        have t2 : ((k : Int) != (q : Int)) = true := bne_of_false t1
        have HKQ := hid hkq
        clear hkq
        by_cases hge : x ≤ y
        · go_wp2
          go_ret
          exact ⟨_, rfl, .inr ⟨k, rfl, hlt, HKQ.out, by rw [HV.out, HY.out]; exact hge⟩, HB1.out⟩
        · go_wp2
          go_round
          case rel => exact ⟨k + 1, by omega, by go_num, fun v hv hne => by
            by_cases e : v = k
            · rw [e, HV.out, HY.out]; omega
            · exact HRR.out v (by omega) hne⟩
          case measure => simp [intOf]; omega
    · have hkn : k = n := by omega
      subst hkn
      go_wp2
      go_ret
      exact ⟨_, rfl, .inl ⟨rfl, fun v hv hne => HRR.out v hv hne⟩, HB1.out⟩

/-- nothing at the sink -/
def pinF (q : Nat) (f : Nat → Int) : Nat → Int := fun v => if v = q then 0 else f v
theorem pinF_eqv (G : Gr) (q : Nat) (f : Nat → Int) : Gr.Eqv G q (pinF q f) f := fun v _ hne => by unfold pinF; rw [if_neg hne]
theorem stb_pin {G : Gr} {q : Nat} {f c : Nat → Int} (h : G.Lg q f c) (hs : G.Stab q (G.after f c)) : lst G.n (Gr.stb G q f) = lst G.n (pinF q (G.after f c)) := lst_congr fun i hi => by
  unfold pinF
  by_cases e : i = q
  · rw [if_pos e, e, Gr.stb_sink]
  · rw [if_neg e]; exact Gr.stb_eq h hs i hi e
theorem after_set {G : Gr} (g : Nat → Int) {v : Nat} (hv : v < G.n) : G.after g (setF [(v : Int)]) = G.fire g v 1 := by
  funext u
  unfold Gr.after Gr.fire
  rw [sumN_one (v := v) _ hv (fun i _ hi => by
    have : setF [(v : Int)] i = 0 := by unfold setF; rw [if_neg]; rw [hasB_mem]; simp; omega
    rw [this, Int.zero_mul])]
  have : setF [(v : Int)] v = 1 := by unfold setF; rw [if_pos]; rw [hasB_mem]; simp
  rw [this]
theorem pin_step {G : Gr} {q : Nat} {f c : Nat → Int} {v : Nat} (hv : v < G.n) : lst G.n (upd (G.fire (pinF q (G.after f c)) v 1) q 0) = lst G.n (pinF q (G.after f (Gr.bump c v))) := lst_congr fun u _ => by
  unfold upd
  by_cases e : u = q
  · rw [if_pos e]; unfold pinF; rw [if_pos e]
  · rw [if_neg e, Gr.after_bump G hv]
    unfold pinF Gr.fire
    dsimp only
    rw [if_neg e, if_neg e]
theorem bump_upd (n : Nat) (c : Nat → Int) (v : Nat) : lst n (upd c v (c v + 1)) = lst n (Gr.bump c v) := lst_congr fun u _ => by
  unfold upd Gr.bump
  by_cases e : u = v
  · rw [if_pos e, if_pos e, e]
  · rw [if_neg e, if_neg e]
/-- chips of a pile that is not too great -/
def PilF (n q : Nat) (f : Nat → Int) : Prop := (∀ v, v < n → v ≠ q → 0 ≤ f v ∧ f v ≤ 2000) ∧ -2000 ≤ f q ∧ f q ≤ 2000
theorem pil_sum {n q : Nat} {f : Nat → Int} (h : PilF n q f) (hn : n ≤ 8) : sumN n f ≤ 16000 := by
  have h1 := sumN_le (n := n) (f := f) (g := fun _ => 2000) (fun i hi => by
    by_cases e : i = q
    · rw [e]; exact h.2.2
    · exact (h.1 i hi e).2)
  rw [Gr.sumN_const] at h1; omega
theorem pil_after {n q : Nat} {L : List Lnk} {hG : GoodL n L} (hq : q < n) {f c : Nat → Int} (h : PilF n q f) (hl : (grL n L hG).Lg q f c) : ∀ v, v < n → (v ≠ q → 0 ≤ (grL n L hG).after f c v) ∧ -18000 ≤ (grL n L hG).after f c v ∧ (grL n L hG).after f c v ≤ 18000 := by
  intro v hv
  have hs := pil_sum h hG.n8
  have h0 : ∀ v, v < (grL n L hG).n → v ≠ q → 0 ≤ f v := fun v h1 h2 => (h.1 v h1 h2).1
  have hp := hl.pos h0
  refine ⟨hp v hv, ?_⟩
  have hfq := h.2
  have hn : sumN (grL n L hG).n f = sumN n f := rfl
  by_cases e : v = q
  · have h1 := hl.sink_le (G := grL n L hG) hq h0
    have h2 := hl.sink_up
    rw [e]; omega
  · have h1 := hl.bound (G := grL n L hG) hq h0 v hv e
    have h2 := hp v hv e
    omega

/-- a stable pile, and how often each vertex toppled -/
def RetTop (w : World) (xs ys : List Int) (e : Ending) (w' : World) : Prop := ∃ v s, e = .returned (.tuple #[v, s]) ∧ FInts w' w.heap.size w'.heap.size v xs ∧ FInts w' w.heap.size w'.heap.size s ys ∧ Below w.heap.size w w'

set_option maxRecDepth 100000 in
set_option maxHeartbeats 4000000 in
theorem piTopple_c (n q : Nat) (v u : Value) (L : List Lnk) (f : Nat → Int) (w : World) (h : RLinks w v L) (hP : PG n L q) (hd : RInts w u (lst n f)) (hf : PilF n q f) (hf0 : f q = 0) :
    Calls Try.prog 40 #[.int .i64 n, v, .int .i64 q, u] w (RetTop w (lst n (Gr.stb (grL n L hP.good) q f)) (lst n (Gr.odo (grL n L hP.good) q f))) := by
  have HR := hid h
  have HD := hid hd
  have hn8 := hP.good.n8
  have hn1 := hP.good.n1
  have hq := hP.hq
  have hqz : (q : Int) < (n : Int) := by omega
  obtain ⟨a, cap, rfl⟩ := h.form
  obtain ⟨gd, od, cd, rfl, _, _, _⟩ := ri_open hd (by omega)
  obtain ⟨W, _⟩ := Gr.wt8 (G := grL n L hP.good) hq hP.con
  have HG := hid hP.good
  have HC : Hid ((grL n L HG.out).Conn q) := hP.con
  have HPF := hid hf
  have hmk := run_make_row' (P := Try.prog) 25 3 (.int .i64 0) 8 Try.underlying25 Try.infoInt rfl .i64 .i64 n (by omega) (by omega)
  have hll : (lst n f).length ≤ 1048576 := by rw [lst_len]; omega
  have HF0 : Hid (lst n f = lst n (pinF q ((grL n L HG.out).after f Gr.none0))) := lst_congr fun i _ => by
    rw [Gr.after_none]; unfold pinF
    by_cases e : i = q
    · rw [if_pos e, e, hf0]
    · rw [if_neg e]
  clear h hd hf hf0
  go_enter Try.func40, Try.ntmps40
  go_wp2_with fail
  refine (l1Own_c _ (lst n f) _ HD.out hll).mono ?_
  rintro e w1 ⟨uO, rfl, hFO, hbO⟩
  obtain ⟨gO, cO, rfl, hlo, hhi⟩ := fi_form hFO (by omega)
  have hsO := hbO.size
  have hal : Below w1.heap.size w1 (w1.alloc (.cells (madeCells #[.int .i64 0] n) 3)) := (Below.refl _ _).alloc (Nat.le_refl _) _
  have HFO := hid (hFO.keep hal)
  have HFS := hid (fi_made w1 n (by omega))
  have HBW := hid (hbO.trans (hal.mono hsO))
  have hs2 : (w1.alloc (.cells (madeCells #[.int .i64 0] n) 3)).heap.size = w1.heap.size + 1 := by simp
  clear hFO hbO hal
  go_wp2_with fail
  obtain ⟨w2, hw2⟩ : ∃ w2 : World, w2 = w1.alloc (.cells (madeCells #[.int .i64 0] n) 3) := ⟨_, rfl⟩
  rw [← hw2] at HFO HFS HBW hs2 ⊢
  clear hw2 hmk
  refine (piNext_c n q _ _ L f _ (HR.out.keep HBW.out) HG.out HFO.out.r).mono ?_
  rintro e w3 ⟨x, rfl, hx, hb3⟩
  have HFO3 := hid (HFO.out.keep hb3)
  have HFS3 := hid (HFS.out.keep hb3)
  have HBW3 := hid (HBW.out.trans (hb3.mono HBW.out.size))
  have hs3 := hb3.size
  have HX : Hid (Nx (grL n L HG.out) q (pinF q ((grL n L HG.out).after f Gr.none0)) x) := by
    rcases hx with ⟨h1, h2⟩ | ⟨v, h1, h2, h3, h4⟩
    · exact .inl ⟨h1, by rw [Gr.after_none]; exact (pinF_eqv _ q f).symm.stab h2⟩
    · exact .inr ⟨v, h1, h2, h3, by rw [Gr.after_none, pinF_eqv _ q f v h2 h3]; exact h4⟩
  clear hb3 hx
  go_wp2
  go_loopg [10, 12] (Gr.muT W ((grL n L HG.out).after f Gr.none0)) (fun gk ov vv wr => ∃ (c : Nat → Int) (x : Int) (lo hi go co : Nat), ov = .slice (some ⟨go, 0, none⟩) n co ∧ vv = .int .i64 x ∧ (grL n L HG.out).Lg q f c ∧ gk = Gr.muT W ((grL n L HG.out).after f c) ∧
    Nx (grL n L HG.out) q (pinF q ((grL n L HG.out).after f c)) x ∧ FInts wr lo hi (.slice (some ⟨go, 0, none⟩) n co) (lst n (pinF q ((grL n L HG.out).after f c))) ∧ FInts wr w1.heap.size (w1.heap.size + 1) (.slice (some ⟨w1.heap.size, 0, none⟩) n n) (lst n c) ∧
    Below w.heap.size w wr ∧ w.heap.size ≤ lo ∧ hi ≤ wr.heap.size ∧ (hi ≤ w1.heap.size ∨ w1.heap.size + 1 ≤ lo) ∧ w1.heap.size + 1 ≤ wr.heap.size)
  case atStart => exact ⟨Gr.none0, x, _, _, _, _, rfl, rfl, .nil, rfl, HX.out, by rw [← HF0.out]; exact HFO3.out, HFS3.out, HBW3.out, Nat.le_refl _, by omega, .inl (Nat.le_refl _), by omega⟩
  case round =>
    obtain ⟨c, x, lo, hi, go, co, rfl, rfl, hl, rfl, hx, hF, hFs, hb, h1, h2, h3, h4⟩ := hrel
    obtain ⟨wo, rfl⟩ : ∃ wo : World, wo = wr := ⟨_, rfl⟩
    have HL := hid hl
    have HF := hid hF
    have HFS4 := hid hFs
    have HB := hid hb
    clear HX HFO3 HFS3 HBW3 HFO HFS HBW hF hFs hb hl
    rcases hx with ⟨hx1, hst⟩ | ⟨k, hx1, hkn, hkq, hge⟩
    · subst hx1
      have hst' := (pinF_eqv (grL n L HG.out) q _).stab hst
      have HE : Hid (lst n (Gr.stb (grL n L HG.out) q f) = lst n (pinF q ((grL n L HG.out).after f c)) ∧ Gr.odo (grL n L HG.out) q f = c) := ⟨stb_pin HL.out hst', Gr.odo_eq HL.out hst'⟩
      clear hst hst'
      go_wp2
      go_ret2
      exact ⟨_, _, rfl, by rw [HE.out.1]; exact HF.out.mono h1 h2, by rw [HE.out.2]; exact HFS4.out.mono (by omega) h4, HB.out⟩
    · subst hx1
      have hge' : (grL n L HG.out).val k ≤ (grL n L HG.out).after f c k := by rw [pinF_eqv (grL n L HG.out) q _ k hkn hkq] at hge; exact hge
      have HL2 : Hid ((grL n L HG.out).Lg q f (Gr.bump c k)) := .step HL.out hkn hkq hge'
      have hpo := pil_after (hG := HG.out) hq HPF.out HL.out
      have HMU : Hid (Gr.muT W ((grL n L HG.out).after f (Gr.bump c k)) < Gr.muT W ((grL n L HG.out).after f c)) := by
        show _ < _
        rw [Gr.after_bump _ hkn]
        exact Gr.topple_mu W (fun v h1 h2 => (hpo v h1).1 h2) hkn hkq hge'
      have hfew := HL.out.few (G := grL n L HG.out) hq HC.out (fun v h1 h2 => (HPF.out.1 v h1 h2).1) (fun v h1 h2 => (HPF.out.1 v h1 h2).2) k hkn
      have hck := HL.out.nonneg k
      have hgb : ∀ i, i < n → -100000 ≤ pinF q ((grL n L HG.out).after f c) i ∧ pinF q ((grL n L HG.out).after f c) i ≤ 100000 := fun i hi => by
        unfold pinF
        have := hpo i hi
        split <;> omega
      have HGB := hid hgb
      have hlit := ints_lit wo wo.heap.size (Nat.le_refl _) [(k : Int)] (by simp)
      have hal : Below wo.heap.size wo (wo.alloc (.cells #[.int .i64 k] 3)) := (Below.refl _ _).alloc (Nat.le_refl _) _
      have HLIT := hid hlit.r
      have HAL := hid hal
      have hkn' : k < n := hkn
      have hkz : (k : Int) < (n : Int) := by omega
      clear hlit hal hge hge' hgb hpo hkn
      go_wp2_with fail
      refine (chSet_c n _ [(k : Int)] _ (by omega) HLIT.out (by simp; omega)).mono ?_
      rintro e w4 ⟨us, rfl, hFs4, hb4⟩
      have hbw4 := HAL.out.trans (hb4.mono HAL.out.size)
      have HUS := hid hFs4.r
      have HB4 := hid hbw4
      obtain ⟨aS, nS, cS, rfl⟩ := hFs4.form3
      clear hFs4 hb4 hbw4
      go_wp2_with fail
      refine (chFire_c n _ _ _ L (pinF q ((grL n L HG.out).after f c)) (setF [(k : Int)]) _ ((HR.out.keep HB.out).keep HB4.out) HG.out (HF.out.keep HB4.out).r HUS.out HGB.out (fun i _ => by unfold setF; split <;> omega)).mono ?_
      rintro e w5 ⟨uf, rfl, hF5, hb5⟩
      rw [after_set (G := grL n L HG.out) _ hkn'] at hF5
      obtain ⟨gf, cf, rfl, hgf1, hgf2⟩ := fi_form hF5 (by omega)
      have hsz4 := HB4.out.size
      have hsz5 := hb5.size
      have hb45 := HB4.out.trans (hb5.mono HB4.out.size)
      have hFs5 := (HFS4.out.keep hb45)
      have HB5 := hid (HB.out.trans (hb45.mono HB.out.size))
      obtain ⟨hc5, _, hset5⟩ := fi_open hF5
      have c1 := (hc5 q hq).1
      have c2 := (hc5 q hq).2
      have hst5 := hset5 q 0 hq
      rw [show lst n (upd ((grL n L HG.out).fire (pinF q ((grL n L HG.out).after f c)) k 1) q 0) = lst n (pinF q ((grL n L HG.out).after f (Gr.bump c k))) from pin_step (G := grL n L HG.out) hkn'] at hst5
      have hFs6 := hFs5.same (.of_touch hst5.2 (.inl (by omega)))
      have hbb := HB5.out.size
      have hB6 := HB5.out.trans (hst5.2.below (by omega) HB5.out.size)
      obtain ⟨w6, hw6⟩ : ∃ w6 : World, w6 = w5.setCell ⟨gf, q, none⟩ (.int .i64 0) := ⟨_, rfl⟩
      have hs56 : w6.heap.size = w5.heap.size := by rw [hw6]; simp [World.setCell]
      rw [← hw6] at hst5 hFs6 hB6
      have HW6 := hid hw6
      obtain ⟨hc6, _, hset6⟩ := fi_open hFs6
      have d1 := ((fi_open hFs5).1 k hkn').1
      have d2 := ((fi_open hFs5).1 k hkn').2
      have hne : gf ≠ w1.heap.size := by omega
      have hset7 := hset6 k (c k + 1) hkn'
      rw [bump_upd] at hset7
      obtain ⟨y, hy⟩ : ∃ y, c k = y := ⟨_, rfl⟩
      rw [hy] at d1 hset7 hfew hck
      have hF7 := hst5.1.same (.of_touch hset7.2 (.inr (by omega)))
      obtain ⟨w7, hw7⟩ : ∃ w7 : World, w7 = w6.setCell ⟨w1.heap.size, k, none⟩ (.int .i64 (y + 1)) := ⟨_, rfl⟩
      have hs67 : w7.heap.size = w6.heap.size := by rw [hw7]; simp [World.setCell]
      have hB7 := hB6.trans (hset7.2.below (by omega) hB6.size)
      rw [← hw7] at hset7 hF7 hB7
      have HW7 := hid hw7
      have HF7 := hid hF7
      have HFS7 := hid hset7.1
      have HB7 := hid hB7
      have f1 : IntKind.i64.wrap (y + 1) = y + 1 := IntWalk.i64_in _ (by omega)
      clear hF5 hb5 hb45 hFs5 hc5 hset5 hst5 hFs6 hB6 hw6 hc6 hset6 hset7 hy hF7 hB7 hw7
      go_wp2_with fail
      rw [← HW6.out, ← HW7.out]
      refine (piNext_c n q _ _ L _ _ (HR.out.keep HB7.out) HG.out HF7.out.r).mono ?_
      rintro e w8 ⟨x8, rfl, hx8, hb8⟩
      have HX8 := hid hx8
      have HF8 := hid (HF7.out.keep hb8)
      have HFS8 := hid (HFS7.out.keep hb8)
      have HB8 := hid (HB7.out.trans (hb8.mono HB7.out.size))
      have hs8 := hb8.size
      clear hx8 hb8 f1 c1 c2 d1 d2
      go_wp2
      go_roundg (Gr.muT W ((grL n L HG.out).after f (Gr.bump c k)))
      case rel => exact ⟨Gr.bump c k, x8, _, _, _, _, rfl, rfl, HL2.out, rfl, HX8.out, HF8.out, HFS8.out, HB8.out, by omega, by omega, .inr (by omega), by omega⟩
      case measure => exact HMU.out

end Go.Proofs.Ytifdhapaonideaa
