/- Piles: RecurrentPiles of the program; its identity. -/
import Derived.Test.YtifdhapaonideaaPileR2
import Derived.Test.YtifdhapaonideaaPileS4
import Derived.Deep.RegionHeld3
namespace Go.Proofs.Ytifdhapaonideaa
open Go.RowKit
open Go.Lib (hid)

set_option maxRecDepth 100000 in
set_option maxHeartbeats 1000000 in
theorem iRecurrentPiles_u (n : Int) (v : Value) (L : List Lnk) (q : Int) (w : World) (h : RLinks w v L) :
    Calls Try.prog 25 #[.int .i64 n, v, .int .i64 q] w (RetMatU w (repB n L q)) := by
  have HR := hid h
  obtain ⟨a, cap, rfl⟩ := h.form
  clear h
  rcases Bool.eq_false_or_eq_true (piGB n L q) with t1 | t1
  · obtain ⟨m, k, hn, hq, hm, hk, hP⟩ := piGB_nat t1
    have hy := repB_yes t1
    rw [hm, hk] at hy
    subst hn
    subst hq
    have HY := hid hy
    clear hm hk hy
    go_enter Try.func25, Try.ntmps25
    go_wp2_with fail
    refine (tableOf_yes m k _ L _ HR.out t1).mono ?_
    rintro e w1 ⟨g, rfl, hg, hb1, -⟩
    have hal : Below w1.heap.size w1 (w1.alloc (.cells #[.pointer (some ⟨g, 0, none⟩), .int .i64 k] 54)) := (Below.refl _ _).alloc (Nat.le_refl _) _
    have HG := hid (hg.keep hal)
    have HB1 := hid (hb1.trans (hal.mono hb1.size))
    clear hg hb1 hal
    go_wp2_with fail
    refine (recurrent_c hP _ HG.out).mono ?_
    rintro e w2 ⟨u, rfl, hF, hb2⟩
    have HF := hid (hF.mono HB1.out.size (Nat.le_refl _))
    have HB2 := hid (HB1.out.trans (hb2.mono HB1.out.size))
    obtain ⟨a3, n3, c3, rfl⟩ := hF.form3
    clear hF hb2
    go_wp2
    go_ret2
    exact ⟨_, by rw [HY.out]; rfl, by rw [HY.out]; exact HF.out, HB2.out⟩
  · have HE := hid (repB_no t1)
    go_enter Try.func25, Try.ntmps25
    go_wp2_with fail
    refine (tableOf_no n q _ L _ HR.out t1).mono ?_
    rintro e w1 ⟨ap, x, rfl, hb1⟩
    have HB := hid (hb1.alloc hb1.size (.cells #[.pointer ap, .int .i64 x] 54))
    clear hb1
    go_wp2
    go_ret2
    exact ⟨_, by rw [HE.out]; rfl, by rw [HE.out]; exact mat_nil _ _ _, HB.out⟩

variable {n q p : Nat} {L : List Lnk}
/-- what the search for the identity asks -/
noncomputable def askId (G : Gr) (n q : Nat) (x0 x : List Int) : Bool := decide (lst n (Gr.stb G q (fun i => x0.getD i 0 + x.getD i 0)) = x0)
theorem recL_pil (hP : PG n L q) {x : List Int} (hx : x ∈ recL n L q) : PilZ n q 1000 (fun i => x.getD i 0) ∧ x = lst n (fun i => x.getD i 0) := by
  obtain ⟨h1, h2, h3⟩ := recL_mem hP hx
  refine ⟨⟨fun v hv hne => ?_, h3⟩, lst_of h1⟩
  have := h2.pos v hv hne
  have h4 := h2.stab v hv hne
  have h5 := (grL n L hP.good).val_le v hv
  dsimp only at this h4 ⊢
  omega
theorem id_mem (hP : PG n L q) : lst n (idF n L q hP.good) ∈ recL n L q := by
  obtain ⟨W, _⟩ := Gr.wt8 (G := grL n L hP.good) hP.hq hP.con
  exact rec_mem hP (Gr.idp_rec (G := grL n L hP.good) hP.hq W hP.con) (id_pil hP).2
theorem id_find (hP : PG n L q) {x0 : List Int} (h0 : x0 ∈ recL n L q) : (recL n L q).find? (askId (grL n L hP.good) n q x0) = some (lst n (idF n L q hP.good)) := by
  obtain ⟨W, _⟩ := Gr.wt8 (G := grL n L hP.good) hP.hq hP.con
  obtain ⟨h1, h2, h3⟩ := recL_mem hP h0
  have hi := Gr.idp_rec (G := grL n L hP.good) hP.hq W hP.con
  have key : ∀ y, y ∈ recL n L q → (askId (grL n L hP.good) n q x0 y = true ↔ Gr.Eqv (grL n L hP.good) q (fun i => y.getD i 0) (idF n L q hP.good)) := fun y hy => by
    obtain ⟨k1, k2, k3⟩ := recL_mem hP hy
    unfold askId
    rw [decide_eq_true_iff]
    have hiff := Gr.idp_iff (G := grL n L hP.good) hP.hq W hP.con h2 k2
    unfold idF
    rw [← hiff]
    constructor
    · intro e v hv _
      exact lst_inj (e.trans (lst_of h1)) v hv
    · intro e
      refine Eq.trans (lst_eqv hP.good (q := q) (fun v hv hne => e v hv hne) ?_) (lst_of h1).symm
      rw [Gr.stb_sink]; exact h3.symm
  refine find_only (id_mem hP) ((key _ (id_mem hP)).2 (fun v hv _ => lst_at _ hv)) (fun y hy hp => ?_)
  obtain ⟨k1, k2, k3⟩ := recL_mem hP hy
  rw [lst_of k1]
  exact lst_eqv hP.good ((key y hy).1 hp) (by rw [(id_pil hP).2]; exact k3)

set_option maxRecDepth 100000 in
set_option maxHeartbeats 2000000 in
theorem identityF_c (hP : PG n L q) (bt lb : Nat) (lv r r0 : Value) (x x0 : List Int) (g o len cap : Nat) (w : World) (hlv : lv = .slice (some ⟨g, o, none⟩) len cap) (hlen : 0 < len)
    (hp : RG w (.pointer (some ⟨p, 0, none⟩)) n L) (t0 : w.cell? ⟨bt, 0, none⟩ = some (.pointer (some ⟨p, 0, none⟩))) (t1 : w.cell? ⟨bt, 1, none⟩ = some (.int .i64 q)) (tl : w.cell? ⟨lb, 0, none⟩ = some lv) (tr : w.cell? ⟨g, o, none⟩ = some r0)
    (hr : RInts w r x) (h0 : RInts w r0 x0) (hx : x ∈ recL n L q) (hx0 : x0 ∈ recL n L q) :
    Calls Try.prog 82 (#[r] ++ #[.pointer (some ⟨bt, 0, none⟩), .pointer (some ⟨lb, 0, none⟩)]) w fun e w' => e = .returned (.bool (askId (grL n L hP.good) n q x0 x)) ∧ Below w.heap.size w w' := by
  show Calls Try.prog 82 #[r, .pointer (some ⟨bt, 0, none⟩), .pointer (some ⟨lb, 0, none⟩)] w _
  subst hlv
  have hn8 := hP.good.n8
  have hn1 := hP.good.n1
  obtain ⟨z1, e1⟩ := recL_pil hP hx
  obtain ⟨z0, e0⟩ := recL_pil hP hx0
  have HPW : Hid (RG w.drew (.pointer (some ⟨p, 0, none⟩)) n L) := hp
  have HX : Hid (RInts w.drew r (lst n (fun i => x.getD i 0))) := by rw [← e1]; exact hr
  have HX0 : Hid (RInts w.drew r0 (lst n (fun i => x0.getD i 0))) := by rw [← e0]; exact h0
  have HZ := hid (And.intro z0 z1)
  have hq0 := h0
  obtain ⟨a0, c0, rfl, _, _, _⟩ := h0
  obtain ⟨a1, c1, rfl, _, _, _⟩ := hr
  have hlz : (0 : Int) < (len : Int) := by omega
  have HQ0 := hid hq0
  have hl0 := cell_lt t0
  have hl1 := cell_lt tl
  have hl2 := cell_lt tr
  have HT := hid (And.intro t0 (And.intro t1 (And.intro tl tr)))
  clear hp z1 z0 e1 e0 hx hx0 hq0
  go_enter Try.func82, Try.ntmps82
  go_upto_region 1 with fail
  go_region_held3 (fun w' => w'.cell? ⟨bt, 0, none⟩ = some (.pointer (some ⟨p, 0, none⟩)) ∧ w'.cell? ⟨bt, 1, none⟩ = some (.int .i64 q) ∧ w'.cell? ⟨lb, 0, none⟩ = some (.slice (some ⟨g, o, none⟩) len cap) ∧ w'.cell? ⟨g, o, none⟩ = some (.slice a0 x0.length c0))
    (first | go_keep | exact ⟨(hb5.cell (p := ⟨bt, 0, none⟩) hl0).trans t0, (hb5.cell (p := ⟨bt, 1, none⟩) hl0).trans t1, (hb5.cell (p := ⟨lb, 0, none⟩) hl1).trans tl, (hb5.cell (p := ⟨g, o, none⟩) hl2).trans tr⟩ | exact ⟨(hb6.cell (p := ⟨bt, 0, none⟩) (Nat.lt_of_lt_of_le hl0 hb5.size)).trans ((hb5.cell (p := ⟨bt, 0, none⟩) hl0).trans t0), (hb6.cell (p := ⟨bt, 1, none⟩) (Nat.lt_of_lt_of_le hl0 hb5.size)).trans ((hb5.cell (p := ⟨bt, 1, none⟩) hl0).trans t1), (hb6.cell (p := ⟨lb, 0, none⟩) (Nat.lt_of_lt_of_le hl1 hb5.size)).trans ((hb5.cell (p := ⟨lb, 0, none⟩) hl1).trans tl), (hb6.cell (p := ⟨g, o, none⟩) (Nat.lt_of_lt_of_le hl2 hb5.size)).trans ((hb5.cell (p := ⟨g, o, none⟩) hl2).trans tr)⟩)
    (first
      | (go_at_call 44; (with_reducible refine (sum_c n q p _ _ L _ _ _ hP HPW.out HX0.out HX.out HZ.out.1 HZ.out.2).mono ?_); rintro e w5 ⟨u5, rfl, hF5, hb5⟩; have HF5 := hid hF5.r; have hb5' : Below w.heap.size w w5 := below_of_drew hb5; have HQ5 := hid (HQ0.out.keep hb5'); obtain ⟨a5, n5, c5, rfl⟩ := hF5.form3; clear hF5)
      | (go_at_call 53; (with_reducible refine (equal_c _ _ _ x0 _ HF5.out HQ5.out).mono ?_); rintro e w6 ⟨rfl, nd, rfl⟩; have hb6 : Below w5.heap.size w5 (w5.drewN nd) := below_drewN (Below.refl _ _) nd))
  have HBE := hid ((show Below w.heap.size w w5 from below_of_drew hb5).trans (hb6.mono (show w.heap.size ≤ w5.heap.size from hb5.size)))
  go_wp2
  go_ret
  exact ⟨rfl, HBE.out⟩

end Go.Proofs.Ytifdhapaonideaa
