/- Whether a graph is connected: the program's method. -/
import Derived.Test.YtifdhapaonideaaConn
import Derived.Test.YtifdhapaonideaaGraphOf
import Derived.ArgAppend
namespace Go.Proofs.Ytifdhapaonideaa
open Go.RowKit
open Go.Lib (hid)

/-- v is a slice of ints somewhere in a block of its own, with room behind it -/
def TInts (w : World) (lo hi : Nat) (v : Value) (xs : List Int) : Prop :=
  ∃ g o cap cur, v = .slice (some ⟨g, o, none⟩) xs.length cap ∧ lo ≤ g ∧ g < hi ∧ w.heap[g]? = some (.cells cur 3 (0, 0)) ∧ o + cap ≤ cur.size ∧ xs.length ≤ cap ∧ cap ≤ maxLen ∧ ∀ i, i < xs.length → cur[o + i]? = some (.int .i64 (xs.getD i 0))
theorem TInts.r {w : World} {lo hi : Nat} {v : Value} {xs : List Int} (h : TInts w lo hi v xs) : RInts w v xs := by
  obtain ⟨g, o, cap, cur, rfl, _, _, hg, hs, hl, hc, hx⟩ := h
  exact ⟨_, cap, rfl, hl, hc, fun i hi => ⟨g, o, rfl, by rw [cell_of_row _ _ _ _ _ _ hg]; exact hx i hi⟩⟩
theorem TInts.same {w w' : World} {lo hi : Nat} {v : Value} {xs : List Int} (h : TInts w lo hi v xs) (hs : Same lo hi w w') : TInts w' lo hi v xs := by
  obtain ⟨g, o, cap, cur, rfl, h1, h2, hg, h3⟩ := h
  exact ⟨g, o, cap, cur, rfl, h1, h2, by rw [hs g h1 h2 (Array.getElem?_eq_some_iff.1 hg).1]; exact hg, h3⟩
theorem TInts.keep {w w' : World} {lo hi : Nat} {v : Value} {xs : List Int} (h : TInts w lo hi v xs) (hb : Below w.heap.size w w') : TInts w' lo hi v xs := h.same (.of_below hb)
theorem TInts.mono {w : World} {lo hi lo' hi' : Nat} {v : Value} {xs : List Int} (h : TInts w lo hi v xs) (h1 : lo' ≤ lo) (h2 : hi ≤ hi') : TInts w lo' hi' v xs := by
  obtain ⟨g, o, cap, cur, rfl, h3, h4, h5⟩ := h
  exact ⟨g, o, cap, cur, rfl, by omega, by omega, h5⟩
theorem tints_of {w : World} {lo hi : Nat} {v : Value} {xs : List Int} (h : FInts w lo hi v xs) (hx : 0 < xs.length) : TInts w lo hi v xs := by
  obtain ⟨h1, h2⟩ := h
  rcases h1.2 with ⟨rfl, e⟩ | ⟨g, cap, cur, rfl, hb, hg, hnc, hcm, hcs, htake⟩
  · omega
  · refine ⟨g, 0, cap, cur, rfl, hb, h2 g rfl, hg, by omega, hnc, hcm, fun i hi => ?_⟩
    have hc := h1.cellAt i (by omega)
    have e : w.cell? ⟨g, i, none⟩ = (xs.map (Value.int .i64))[i]? := hc
    rw [cell_of_row _ _ _ _ _ _ hg] at e
    rw [Nat.zero_add, e]
    simp [List.getD, hi]
/-- the first one is taken off -/
theorem TInts.tail {w : World} {lo hi g o n cap : Nat} {x : Int} {xs : List Int} (h : TInts w lo hi (.slice (some ⟨g, o, none⟩) n cap) (x :: xs)) (o' : Nat) (ho : o' = o + 1 ∨ cap = 1) : TInts w lo hi (.slice (some ⟨g, o', none⟩) xs.length (cap - 1)) xs ∨ cap = 1 := by
  obtain ⟨g', o2, cap', cur, hv, h1, h2, hg, hs, hl, hc, hx⟩ := h
  simp only [Value.slice.injEq, Option.some.injEq, Addr.mk.injEq, and_true] at hv
  obtain ⟨⟨rfl, rfl⟩, _, rfl⟩ := hv
  rcases ho with rfl | h
  · left
    simp only [List.length_cons] at hl
    refine ⟨g, o + 1, cap - 1, cur, rfl, h1, h2, hg, by omega, by omega, by omega, fun i hi => ?_⟩
    have := hx (i + 1) (by simp; omega)
    rw [show o + 1 + i = o + (i + 1) by omega, this]; simp
  · right; exact h
theorem TInts.tail1 {w : World} {lo hi g o n : Nat} {x : Int} {xs : List Int} (h : TInts w lo hi (.slice (some ⟨g, o, none⟩) n 1) (x :: xs)) : TInts w lo hi (.slice (some ⟨g, o, none⟩) xs.length 0) xs := by
  obtain ⟨g', o2, cap', cur, hv, h1, h2, hg, hs, hl, hc, hx⟩ := h
  simp only [Value.slice.injEq, Option.some.injEq, Addr.mk.injEq, and_true] at hv
  obtain ⟨⟨rfl, rfl⟩, _, rfl⟩ := hv
  simp only [List.length_cons] at hl
  have : xs = [] := List.length_eq_zero_iff.1 (by omega)
  subst this
  exact ⟨g, o, 0, cur, rfl, h1, h2, hg, by omega, Nat.le_refl _, by unfold maxLen; omega, fun i hi => by simp at hi⟩

theorem wpList_push_T {w : World} {ops : Array Oper} {rest : List Oper} {o : Oper} {a : Act} {Q : Exit → Act → World → Prop} (hgd : o.guard = none) (s x : Operand)
    (ho : o.op = .call { callee := .builtin .append, args := #[s, x], argTypes := #[25, 25] }) (lo hi : Nat) (v : Value) (ad : Addr) (c : Nat) (xs : List Int) (y : Int) (hs : a.eval s = v) (hx : a.eval x = .slice (some ad) 1 c)
    (hF : TInts w lo hi v xs) (hcell : w.cell? ad = some (.int .i64 y)) (hlen : xs.length ≤ 1048576) (hlo : lo ≤ w.heap.size) (hhi : hi ≤ w.heap.size)
    (h : ∀ v' w', TInts w' lo w'.heap.size v' (xs ++ [y]) → Touch lo hi w w' → wpList Try.prog ops Q rest (a.put o.dst v') w') : wpList Try.prog ops Q (o :: rest) a w := by
  obtain ⟨g, of, cap, cur, rfl, h1, h2, hg, hsz, hl, hc, hcur⟩ := hF
  obtain ⟨i0, hi0, hz0, hz1, hz2⟩ := info_parts Try.infoInt
  have hcel : ∀ j, j < xs.length → w.cell? ⟨g, of + j, none⟩ = some (.int .i64 (xs.getD j 0)) := fun j hj => by rw [cell_of_row _ _ _ _ _ _ hg]; exact hcur j hj
  refine wpList_append_arg (P := Try.prog) w hgd s x 25 ho 3 i0 (.int .i64 0) 1 8 Try.underlying25 hi0 hz0 hz1 hz2 rfl (by decide) g of xs.length cap (xs.map (Value.int .i64)) hs (by simp) ?_ ad 1 c [.int .i64 y] hx rfl ?_ ?_ ?_ ?_ ?_ ?_ ?_
  · intro j u hj
    rw [List.getElem?_map] at hj
    have hj' : j < xs.length := by
      by_cases hj' : j < xs.length
      · exact hj'
      · rw [List.getElem?_eq_none (by omega)] at hj; cases hj
    rw [hcel j hj']
    rw [List.getElem?_eq_getElem hj'] at hj
    simpa [List.getD, hj'] using hj
  · intro j u hj
    cases j with
    | zero =>
      simp at hj; subst hj
      have : ad.add 0 = ad := by unfold Addr.add; simp
      rw [this]; exact hcell
    | succ j => simp at hj
  · intro u hu; simp at hu; subst hu; rfl
  · intro hr j hj
    simp at hj
    subst hj
    refine ⟨?_, frozen_of_row _ _ _ _ _ hg⟩
    rw [cell_of_row _ _ _ _ _ _ hg, Array.getElem?_eq_getElem (by omega)]; rfl
  · unfold maxLen; omega
  · omega
  · intro hr
    have hset := heap_setCell_same w g (of + xs.length * 1) cur _ (.int .i64 y) hg
    have hss : (w.setCell ⟨g, of + xs.length * 1, none⟩ (.int .i64 y)).heap.size = w.heap.size := by simp [World.setCell]
    refine h _ _ ⟨g, of, cap, _, by simp, h1, ?_, hset, by simpa using hsz, by simpa using hr, hc, fun i hi' => ?_⟩ ⟨rfl, rfl, rfl, by rw [show w.setCells g (of + xs.length * 1) [.int .i64 y] = w.setCell ⟨g, of + xs.length * 1, none⟩ (.int .i64 y) from rfl, hss]; exact Nat.le_refl _, fun b hb hn => heap_setCell_other _ _ _ _ (by show b ≠ g; omega)⟩
    · rw [show w.setCells g (of + xs.length * 1) [.int .i64 y] = w.setCell ⟨g, of + xs.length * 1, none⟩ (.int .i64 y) from rfl, hss]; omega
    · rw [List.length_append, List.length_singleton] at hi'
      by_cases e : i = xs.length
      · subst e
        simp [Array.getElem?_setIfInBounds, List.getD]; omega
      · rw [Array.getElem?_setIfInBounds, if_neg (by omega), hcur i (by omega)]
        simp [List.getD, List.getElem?_append_left (show i < xs.length by omega)]
  · intro hgr v' w' hown hgw
    refine h v' w' ?_ ⟨hgw.os, hgw.tape, hgw.output, hgw.size, fun b hb _ => hgw.block b hb (by simp)⟩
    have hF2 : FInts w' lo w'.heap.size v' (xs ++ [y]) := ⟨by
      have := own_mono hown hlo
      rw [List.length_append, List.map_append]; exact this, fun q hq => (hown.lt q hq).2⟩
    exact tints_of hF2 (by simp)

/-- what holds of the marks and of those to be looked at -/
structure CI {n : Nat} {L : List Lnk} (h : GoodL n L) (r : Nat → Bool) (T : List Int) : Prop where
  reach : reachB h r
  todo : ∀ x ∈ T, ∃ v : Nat, v < n ∧ x = v ∧ ∃ k, (grL n L h).Way 0 v k
  close : ∀ v, v < n → r v = true → ∀ u, u < n → 0 < mulL L v u → r u = true ∨ (u : Int) ∈ T
  start : r 0 = true ∨ (0 : Int) ∈ T
theorem CI.skip {n : Nat} {L : List Lnk} {h : GoodL n L} {r : Nat → Bool} {v : Nat} {xs : List Int} (c : CI h r ((v : Int) :: xs)) (hr : r v = true) : CI h r xs := by
  refine ⟨c.reach, fun x hx => c.todo x (by simp [hx]), fun a ha hra u hu hm => ?_, ?_⟩
  · rcases c.close a ha hra u hu hm with h1 | h1
    · exact .inl h1
    · rcases List.mem_cons.1 h1 with h2 | h2
      · left; rw [show u = v by omega]; exact hr
      · exact .inr h2
  · rcases c.start with h1 | h1
    · exact .inl h1
    · rcases List.mem_cons.1 h1 with h2 | h2
      · left; rw [show (0 : Nat) = v by omega]; exact hr
      · exact .inr h2
theorem CI.mark {n : Nat} {L : List Lnk} {h : GoodL n L} {r : Nat → Bool} {v : Nat} {xs T' : List Int} (c : CI h r ((v : Int) :: xs)) (h1 : ∀ x ∈ xs, x ∈ T') (h2 : ∀ x ∈ T', x ∈ xs ∨ ∃ u : Nat, u < n ∧ x = u ∧ 0 < mulL L v u) (h3 : ∀ u, u < n → 0 < mulL L v u → (u : Int) ∈ T') : CI h (Gr.mark r v) T' := by
  obtain ⟨v', hv, e, hw⟩ := c.todo v (by simp)
  obtain rfl : v = v' := by omega
  refine ⟨fun a ha hra => ?_, fun x hx => ?_, fun a ha hra u hu hm => ?_, ?_⟩
  · by_cases e : a = v
    · rw [e]; exact hw
    · rw [Gr.mark_other _ e] at hra; exact c.reach a ha hra
  · rcases h2 x hx with hx | ⟨u, hu, e, hm⟩
    · exact c.todo x (by simp [hx])
    · obtain ⟨k, hk⟩ := hw
      exact ⟨u, hu, e, k + 1, .step hk hu hm⟩
  · by_cases e : a = v
    · rw [e] at hm; exact .inr (h3 u hu hm)
    · rw [Gr.mark_other _ e] at hra
      rcases c.close a ha hra u hu hm with h4 | h4
      · left
        by_cases e : u = v
        · rw [e, Gr.mark_self]
        · rw [Gr.mark_other _ e]; exact h4
      · rcases List.mem_cons.1 h4 with h5 | h5
        · left; rw [show u = v by omega, Gr.mark_self]
        · exact .inr (h1 _ h5)
  · rcases c.start with h4 | h4
    · left
      by_cases e : (0 : Nat) = v
      · rw [← e, Gr.mark_self]
      · rw [Gr.mark_other _ e]; exact h4
    · rcases List.mem_cons.1 h4 with h5 | h5
      · left; rw [show (0 : Nat) = v by omega, Gr.mark_self]
      · exact .inr (h1 _ h5)
theorem CI.done {n : Nat} {L : List Lnk} {h : GoodL n L} {r : Nat → Bool} (c : CI h r []) : conB n L = decide (Gr.unm r n = 0) := by
  have h0 : r 0 = true := by rcases c.start with h | h
                             · exact h
                             · cases h
  refine conB_eq h ?_
  rw [decide_eq_true_iff, Gr.unm_zero]
  constructor
  · intro ha v hv; exact c.reach v hv (ha v hv)
  · intro hc v hv
    obtain ⟨k, hk⟩ := hc v hv
    clear hv
    induction hk with
    | here => exact h0
    | @step u v k hw hv hm ih =>
      have hu : u < n := by
        cases hw with
        | here => have := h.n1; omega
        | step _ b _ => exact b
      rcases c.close u hu (ih) v hv hm with h1 | h1
      · exact h1
      · cases h1

theorem ci_start {n : Nat} {L : List Lnk} (h : GoodL n L) : CI h (fun _ => false) [0] :=
  ⟨(fun v _ hf => by cases hf), (fun x hx => ⟨0, by have := h.n1; omega, by simpa using hx, 0, .here⟩), (fun v _ hf => by cases hf), .inr (by simp)⟩
theorem unm_all (n : Nat) : Gr.unm (fun _ => false) n = n := by
  induction n with
  | zero => rfl
  | succ n ih => rw [Gr.unm_succ, ih]; rfl
/-- a slice of truth values, whole in block B -/
def RB (w : World) (B n : Nat) (r : Nat → Bool) : Prop := ∃ cur, w.heap[B]? = some (.cells cur 4 (0, 0)) ∧ cur.size = n ∧ ∀ v, v < n → cur[v]? = some (.bool (r v))
theorem RB.cell {w : World} {B n : Nat} {r : Nat → Bool} (h : RB w B n r) {v : Nat} (hv : v < n) : w.cell? ⟨B, v, none⟩ = some (.bool (r v)) ∧ w.frozen? ⟨B, v, none⟩ = false := by
  obtain ⟨cur, hg, hs, hx⟩ := h
  exact ⟨by rw [cell_of_row _ _ _ _ _ _ hg]; exact hx v hv, frozen_of_row _ _ _ _ _ hg⟩
theorem RB.set {w : World} {B n : Nat} {r : Nat → Bool} (h : RB w B n r) {v : Nat} (hv : v < n) : RB (w.setCell ⟨B, v, none⟩ (.bool true)) B n (Gr.mark r v) := by
  obtain ⟨cur, hg, hs, hx⟩ := h
  refine ⟨_, heap_setCell_same w B v cur _ _ hg, by simpa using hs, fun u hu => ?_⟩
  by_cases e : u = v
  · subst e; rw [Gr.mark_self]; simp [hs, hu]
  · rw [Gr.mark_other _ e, Array.getElem?_setIfInBounds, if_neg (fun h => e h.symm)]; exact hx u hu
theorem RB.same {w w' : World} {B n : Nat} {r : Nat → Bool} (h : RB w B n r) (hs : w'.heap[B]? = w.heap[B]?) : RB w' B n r := by
  obtain ⟨cur, hg, h2⟩ := h
  exact ⟨cur, hs.trans hg, h2⟩
theorem RB.lt {w : World} {B n : Nat} {r : Nat → Bool} (h : RB w B n r) : B < w.heap.size := by
  obtain ⟨cur, hg, _⟩ := h; exact (Array.getElem?_eq_some_iff.1 hg).1
theorem Try.infoBool : (Try.prog.info? 4).map (fun i => (i.zero, i.size, i.bytes)) = some (some (.bool false), 1, 1) := by kernel_rfl
theorem rb_made (w : World) (n : Nat) : RB (w.alloc (.cells (madeCells #[.bool false] n) 4)) w.heap.size n (fun _ => false) := by
  refine ⟨_, heap_alloc_new _ _, by rw [size_madeCells], fun v hv => ?_⟩
  have h := toList_madeCells_one (.bool false) n
  rw [← Array.getElem?_toList, h]
  simp [hv]

set_option maxRecDepth 100000 in
set_option maxHeartbeats 4000000 in
theorem isConnected_c (n : Nat) (p : Value) (L : List Lnk) (w : World) (h : RG w p n L) (hG : GoodL n L) :
    Calls Try.prog 87 #[p] w fun e w' => e = .returned (.bool (conB n L)) ∧ Below w.heap.size w w' := by
  have HR := hid h
  obtain ⟨g, bt, vt, rfl, c0, c1, c2, c3, hm, hv⟩ := h
  have hn8 := hG.n8
  have hn1 := hG.n1
  obtain ⟨gM, oM, cM, G, O, C, rfl, hcm1, hcm2, hrow, hent⟩ := rm_open hm (by omega)
  have HROW := hid hrow
  have HENT := hid hent
  have HC := hid (And.intro c0 c1)
  have HG := hid hG; clear hG
  have hmk := run_make_row' (P := Try.prog) 109 4 (.bool false) 1 Try.underlying109 Try.infoBool rfl .i64 .i64 n (by omega) (by omega)
  have hb1 : Below w.heap.size w (w.alloc (.cells (madeCells #[.bool false] n) 4)) := (Below.refl _ _).alloc (Nat.le_refl _) _
  have hs1 : (w.alloc (.cells (madeCells #[.bool false] n) 4)).heap.size = w.heap.size + 1 := by simp
  have hb2 : Below w.heap.size w ((w.alloc (.cells (madeCells #[.bool false] n) 4)).alloc (.cells #[.int .i64 0] 3)) := hb1.alloc hb1.size _
  have hrb : RB ((w.alloc (.cells (madeCells #[.bool false] n) 4)).alloc (.cells #[.int .i64 0] 3)) w.heap.size n (fun _ => false) := (rb_made w n).same (Below.heap_alloc _ _ _ (by simp))
  have hti : TInts ((w.alloc (.cells (madeCells #[.bool false] n) 4)).alloc (.cells #[.int .i64 0] 3)) (w.heap.size + 1) ((w.alloc (.cells (madeCells #[.bool false] n) 4)).alloc (.cells #[.int .i64 0] 3)).heap.size (.slice (some ⟨w.heap.size + 1, 0, none⟩) 1 1) [0] :=
    ⟨w.heap.size + 1, 0, 1, #[.int .i64 0], rfl, Nat.le_refl _, by simp, by rw [← hs1]; exact heap_alloc_new _ _, by simp, by simp, by unfold maxLen; omega, fun i hi => by simp at hi; subst hi; rfl⟩
  have HS := hid (And.intro hb2 (And.intro hrb hti))
  have HCI := hid (ci_start HG.out)
  have HUN := hid (unm_all n)
  clear hrow hent hm hv c2 c3 hb1 hs1 hb2 hrb hti
  go_enter Try.func87, Try.ntmps87
  go_wp2
  clear hmk c0 c1
  go_loopg [4, 5] (1 + n * (n + 1)) (fun gk td ct wr => ∃ (r : Nat → Bool) (T : List Int) (gt ot ctp : Nat), td = .slice (some ⟨gt, ot, none⟩) T.length ctp ∧ ct = .int .i64 ((n : Int) - Gr.unm r n) ∧ CI HG.out r T ∧ gk = T.length + Gr.unm r n * (n + 1) ∧ gk ≤ 1 + n * (n + 1) ∧
    RB wr w.heap.size n r ∧ TInts wr (w.heap.size + 1) wr.heap.size (.slice (some ⟨gt, ot, none⟩) T.length ctp) T ∧ Below w.heap.size w wr)
  case atStart => exact ⟨fun _ => false, [0], w.heap.size + 1, 0, 1, rfl, by rw [HUN.out]; go_num, HCI.out, by rw [HUN.out]; rfl, Nat.le_refl _, HS.out.2.1, HS.out.2.2, HS.out.1⟩
  case round =>
    obtain ⟨r, T, gt, ot, ctp, rfl, rfl, hci, rfl, hle, hrb, hti, hbw⟩ := hrel
    obtain ⟨wo, rfl⟩ : ∃ wo : World, wo = wr := ⟨_, rfl⟩
    have HB := hid hbw
    have e0 := (hbw.cell (p := ⟨g, 0, none⟩) (cell_lt HC.out.1)).trans HC.out.1
    have e1 := (hbw.cell (p := ⟨g, 1, none⟩) (cell_lt HC.out.2)).trans HC.out.2
    have hul := Gr.unm_le r n
    have hsz := hbw.size
    have hBlt := hrb.lt
    have hnn : n * (n + 1) ≤ 72 := Nat.mul_le_mul hn8 (by omega : n + 1 ≤ 9)
    have HRB := hid hrb
    have HTI := hid hti
    have HCI1 := hid hci
    cases T with
    | nil =>
      have hd := hci.done
      have HD : Hid ((((n : Int) - (Gr.unm r n : Int)) == (n : Int)) = conB n L) := by
        show _ = _
        rw [hd, Bool.eq_iff_iff, decide_eq_true_iff, beq_iff_eq]; omega
      simp only [List.length_nil]
      clear hd hci hrb hti hbw e1 hul HCI HUN HS
      go_wp2
      go_ret
      exact ⟨ret_bool HD.out, HB.out⟩
    | cons x xs =>
      obtain ⟨v, hvn, rfl, _⟩ := hci.todo x (by simp)
      have hrc := hrb.cell hvn
      have q1 := hrc.1
      have q2 := hrc.2
      have hc0 : wo.cell? ⟨gt, ot, none⟩ = some (.int .i64 v) := by
        obtain ⟨a', cap', hv', _, _, hcc⟩ := hti.r
        obtain ⟨g2, o2, he, hcell⟩ := hcc 0 (by simp)
        simp only [Value.slice.injEq] at hv'
        obtain ⟨rfl, _, _⟩ := hv'
        simp only [Option.some.injEq, Addr.mk.injEq, and_true] at he
        obtain ⟨rfl, rfl⟩ := he
        simpa using hcell
      have hcapl : xs.length + 1 ≤ ctp ∧ ctp ≤ 9223372036854775807 := by
        obtain ⟨_, _, _, _, hv', _, _, _, _, h6, h7, _⟩ := hti
        simp only [Value.slice.injEq] at hv'
        obtain ⟨_, _, rfl⟩ := hv'
        simp at h6; unfold maxLen at h7; omega
      have hvz : (v : Int) < (n : Int) := by omega
      simp only [List.length_cons] at hle ⊢
      -- what is left of those to be looked at
      have HTL : Hid (∀ ot' ctp', (ctp = 1 ∧ ot' = ot ∧ ctp' = 0) ∨ (ctp ≠ 1 ∧ ot' = ot + 1 ∧ ctp' = ctp - 1) → TInts wo (w.heap.size + 1) wo.heap.size (.slice (some ⟨gt, ot', none⟩) xs.length ctp') xs) := by
        show ∀ _ _, _
        rintro ot' ctp' (⟨rfl, rfl, rfl⟩ | ⟨h1, rfl, rfl⟩)
        · exact hti.tail1
        · rcases hti.tail (ot + 1) (.inl rfl) with h | h
          · exact h
          · exact (h1 h).elim
      clear hci hrb hti hbw hrc HCI HUN HS HTI
      obtain ⟨rv, hrv⟩ : ∃ rv, r v = rv := ⟨_, rfl⟩
      rw [hrv] at q1
      have HRV := hid hrv
      clear hrv
      by_cases hcp : ctp = 1
      · have HT1 := hid (HTL.out ot 0 (.inl ⟨hcp, rfl, rfl⟩))
        subst hcp
        have hx0 : xs = [] := List.length_eq_zero_iff.1 (by omega)
        subst hx0
        have HT2 := hid (And.intro HT1.out trivial)
        clear HTL
        cases rv with
        | true =>
          go_wp2
          go_roundg (([] : List Int).length + Gr.unm r n * (n + 1))
          case rel => exact ⟨r, ([] : List Int), gt, ot, 0, by rfl, rfl, HCI1.out.skip HRV.out, rfl, by omega, HRB.out, HT1.out, HB.out⟩
          case measure => first | omega | (simp only [List.length_cons]; omega)
        | false =>
          obtain ⟨U, hU⟩ : ∃ U, Gr.unm r n = U + 1 := ⟨Gr.unm r n - 1, by
            have := Gr.unm_mark HRV.out n; rw [if_pos hvn] at this; omega⟩
          have hU2 : Gr.unm (Gr.mark r v) n = U := by have := Gr.unm_mark HRV.out n; rw [if_pos hvn] at this; omega
          have HU := hid (And.intro hU hU2)
          have hmul : (U + 1) * (n + 1) = U * (n + 1) + (n + 1) := Nat.succ_mul _ _
          rw [hU, hmul] at hle
          rw [hU] at hul ⊢
          clear hU hU2 hmul
          have r1 := (HB.out.cell (p := ⟨gM, oM + v, none⟩) (cell_lt (HROW.out v hvn))).trans (HROW.out v hvn)
          obtain ⟨ws, hws⟩ : ∃ ws : World, ws = wo.setCell ⟨w.heap.size, v, none⟩ (.bool true) := ⟨_, rfl⟩
          have hss : ws.heap.size = wo.heap.size := by rw [hws]; simp [World.setCell]
          have hrbs : RB ws w.heap.size n (Gr.mark r v) := by rw [hws]; exact HRB.out.set hvn
          have hbws : Below w.heap.size w ws := by rw [hws]; exact HB.out.setCell (Nat.le_refl _) _
          have htis : TInts ws (w.heap.size + 1) ws.heap.size (.slice (some ⟨gt, ot, none⟩) ([] : List Int).length 0) ([] : List Int) := by
            rw [hss]; exact HT1.out.same (fun b h1 _ _ => by rw [hws]; exact heap_setCell_other _ _ _ _ (by show b ≠ w.heap.size; omega))
          have HWS := hid (And.intro hrbs (And.intro hbws htis))
          have HWSE := hid hws
          have e1' : ws.cell? ⟨g, 1, none⟩ = some (.slice (some ⟨gM, oM, none⟩) n cM) := (hbws.cell (p := ⟨g, 1, none⟩) (cell_lt HC.out.2)).trans HC.out.2
          have r1' : ws.cell? ⟨gM, oM + v, none⟩ = some (.slice (some ⟨G v, O v, none⟩) n (C v)) := (hbws.cell (p := ⟨gM, oM + v, none⟩) (cell_lt (HROW.out v hvn))).trans (HROW.out v hvn)
          rw [hws] at e1' r1'
          clear hss hrbs hbws htis hws
          go_wp2
          rw [← HWSE.out]
          clear e1' r1' e0 e1 r1 q1 q2 hc0
          go_loopg [4, 40] n (fun gk td iv wr => ∃ (i : Nat) (T' : List Int) (gt' ot' ctp' : Nat), td = .slice (some ⟨gt', ot', none⟩) T'.length ctp' ∧ i ≤ n ∧ gk = n - i ∧ iv = .int .i64 i ∧ (∀ x ∈ ([] : List Int), x ∈ T') ∧ (∀ x ∈ T', x ∈ ([] : List Int) ∨ ∃ u : Nat, u < n ∧ x = u ∧ 0 < mulL L v u) ∧ (∀ u, u < i → 0 < mulL L v u → (u : Int) ∈ T') ∧ T'.length ≤ ([] : List Int).length + i ∧
            RB wr w.heap.size n (Gr.mark r v) ∧ TInts wr (w.heap.size + 1) wr.heap.size (.slice (some ⟨gt', ot', none⟩) T'.length ctp') T' ∧ Below w.heap.size w wr)
          case atStart => exact ⟨0, ([] : List Int), gt, ot, 0, by rfl, Nat.zero_le _, rfl, rfl, fun x hx => hx, fun x hx => .inl hx, fun u hu => by omega, by omega, HWS.out.1, HWS.out.2.2, HWS.out.2.1⟩
          case round =>
            obtain ⟨i, T', gt', ot', ctp', rfl, hi, rfl, rfl, t1, t2, t3, t4, hrb, hti, hbw⟩ := hrel
            have HT := hid (And.intro t1 (And.intro t2 t3))
            have HB3 := hid hbw
            by_cases hlt : i < n
            · have x1 := (hbw.cell (p := ⟨G v, O v + i, none⟩) (cell_lt (HENT.out v i hvn hlt))).trans (HENT.out v i hvn hlt)
              obtain ⟨m, hm⟩ : ∃ m, mulL L v i = m := ⟨_, rfl⟩
              rw [hm] at x1
              have HM := hid hm
              have hiz : (i : Int) < (n : Int) := by omega
              by_cases hpos : 0 < m
              · have hal : Below wr.heap.size wr (wr.alloc (.cells #[.int .i64 i] 3)) := (Below.refl _ _).alloc (Nat.le_refl _) _
                have htp := hti.keep hal
                have hce := cell_new wr (.int .i64 i) 3
                have hsw := hbw.size
                have hrl := hrb.lt
                have HRB3 := hid hrb
                have HAL := hid hal
                clear hrb hti hbw hm t1 t2 t3 hal
                go_wp2_with (at_builtin; refine wpList_push_T rfl _ _ rfl (w.heap.size + 1) wr.heap.size _ _ _ T' (i : Int) rfl rfl htp hce (by omega) (by simp; omega) (by simp) ?_; intro v4 w4 hT4 ht4; obtain ⟨g4, o4, c4, cur4, rfl, hT4r⟩ := id hT4; have HT4 := hid hT4; have HTT := hid ht4; clear hT4 ht4 hT4r htp hce)
                have hb4 : Below w.heap.size w w4 := HB3.out.trans ((HAL.out.mono hsw).trans (HTT.out.below (by omega) (by simp; omega)))
                have hr4 : RB w4 w.heap.size n (Gr.mark r v) := HRB3.out.same (((HTT.out.block _ (by simp; omega) (by omega))).trans (HAL.out.block _ hrl))
                have HH := hid (And.intro hb4 hr4)
                clear hb4 hr4
                go_roundg (n - (i + 1))
                case rel => exact ⟨i + 1, T' ++ [(i : Int)], g4, o4, c4, by simp, by omega, rfl, by go_num, fun x hx => List.mem_append_left _ (HT.out.1 x hx), (fun x hx => by
                    rcases List.mem_append.1 hx with h | h
                    · exact HT.out.2.1 x h
                    · exact .inr ⟨i, hlt, by simpa using h, by rw [HM.out]; exact hpos⟩), (fun u hu hmu => by
                    by_cases e : u = i
                    · subst e; simp
                    · exact List.mem_append_left _ (HT.out.2.2 u (by omega) hmu)), by simp; omega, HH.out.2, HT4.out, HH.out.1⟩
                case measure => omega
              · have HO := hid (And.intro hrb (And.intro hti hbw))
                clear hrb hti hbw hm t1 t2 t3
                go_wp2
                go_roundg (n - (i + 1))
                case rel => exact ⟨i + 1, T', gt', ot', ctp', rfl, by omega, rfl, by go_num, HT.out.1, HT.out.2.1, (fun u hu hmu => by
                    by_cases e : u = i
                    · subst e; rw [HM.out] at hmu; omega
                    · exact HT.out.2.2 u (by omega) hmu), by omega, HO.out.1, HO.out.2.1, HO.out.2.2⟩
                case measure => omega
            · have hin : i = n := by omega
              subst hin
              have HO := hid (And.intro hrb (And.intro hti hbw))
              have HCN := hid (HCI1.out.mark HT.out.1 HT.out.2.1 HT.out.2.2)
              have hu2 := HU.out.2
              clear hrb hti hbw t1 t2 t3
              go_wp2
              go_roundg (T'.length + U * (i + 1))
              case rel => exact ⟨Gr.mark r v, T', gt', ot', ctp', rfl, by rw [hu2]; go_num, HCN.out, by rw [hu2], by omega, HO.out.1, HO.out.2.1, HO.out.2.2⟩
              case measure =>
                have hmul : (U + 1) * (i + 1) = U * (i + 1) + (i + 1) := Nat.succ_mul _ _
                have hu1 := HU.out.1
                first
                  | (rw [hu1, hmul]; simp only [List.length_cons]; omega)
                  | (rw [hu1, hmul]; simp only [List.length_nil]; omega)
                  | (rw [hu1, hmul]; omega)
                  | (rw [hmul]; omega)
      · have HT1 := hid (HTL.out (ot + 1) (ctp - 1) (.inr ⟨hcp, rfl, rfl⟩))
        have HT2 := hid (And.intro HT1.out trivial)
        clear HTL
        cases rv with
        | true =>
          go_wp2
          go_roundg (xs.length + Gr.unm r n * (n + 1))
          case rel => exact ⟨r, xs, gt, (ot + 1), (ctp - 1), by simp, rfl, HCI1.out.skip HRV.out, rfl, by omega, HRB.out, HT1.out, HB.out⟩
          case measure => first | omega | (simp only [List.length_cons]; omega)
        | false =>
          obtain ⟨U, hU⟩ : ∃ U, Gr.unm r n = U + 1 := ⟨Gr.unm r n - 1, by
            have := Gr.unm_mark HRV.out n; rw [if_pos hvn] at this; omega⟩
          have hU2 : Gr.unm (Gr.mark r v) n = U := by have := Gr.unm_mark HRV.out n; rw [if_pos hvn] at this; omega
          have HU := hid (And.intro hU hU2)
          have hmul : (U + 1) * (n + 1) = U * (n + 1) + (n + 1) := Nat.succ_mul _ _
          rw [hU, hmul] at hle
          rw [hU] at hul ⊢
          clear hU hU2 hmul
          have r1 := (HB.out.cell (p := ⟨gM, oM + v, none⟩) (cell_lt (HROW.out v hvn))).trans (HROW.out v hvn)
          obtain ⟨ws, hws⟩ : ∃ ws : World, ws = wo.setCell ⟨w.heap.size, v, none⟩ (.bool true) := ⟨_, rfl⟩
          have hss : ws.heap.size = wo.heap.size := by rw [hws]; simp [World.setCell]
          have hrbs : RB ws w.heap.size n (Gr.mark r v) := by rw [hws]; exact HRB.out.set hvn
          have hbws : Below w.heap.size w ws := by rw [hws]; exact HB.out.setCell (Nat.le_refl _) _
          have htis : TInts ws (w.heap.size + 1) ws.heap.size (.slice (some ⟨gt, (ot + 1), none⟩) xs.length (ctp - 1)) xs := by
            rw [hss]; exact HT1.out.same (fun b h1 _ _ => by rw [hws]; exact heap_setCell_other _ _ _ _ (by show b ≠ w.heap.size; omega))
          have HWS := hid (And.intro hrbs (And.intro hbws htis))
          have HWSE := hid hws
          have e1' : ws.cell? ⟨g, 1, none⟩ = some (.slice (some ⟨gM, oM, none⟩) n cM) := (hbws.cell (p := ⟨g, 1, none⟩) (cell_lt HC.out.2)).trans HC.out.2
          have r1' : ws.cell? ⟨gM, oM + v, none⟩ = some (.slice (some ⟨G v, O v, none⟩) n (C v)) := (hbws.cell (p := ⟨gM, oM + v, none⟩) (cell_lt (HROW.out v hvn))).trans (HROW.out v hvn)
          rw [hws] at e1' r1'
          clear hss hrbs hbws htis hws
          go_wp2
          rw [← HWSE.out]
          clear e1' r1' e0 e1 r1 q1 q2 hc0
          go_loopg [4, 40] n (fun gk td iv wr => ∃ (i : Nat) (T' : List Int) (gt' ot' ctp' : Nat), td = .slice (some ⟨gt', ot', none⟩) T'.length ctp' ∧ i ≤ n ∧ gk = n - i ∧ iv = .int .i64 i ∧ (∀ x ∈ xs, x ∈ T') ∧ (∀ x ∈ T', x ∈ xs ∨ ∃ u : Nat, u < n ∧ x = u ∧ 0 < mulL L v u) ∧ (∀ u, u < i → 0 < mulL L v u → (u : Int) ∈ T') ∧ T'.length ≤ xs.length + i ∧
            RB wr w.heap.size n (Gr.mark r v) ∧ TInts wr (w.heap.size + 1) wr.heap.size (.slice (some ⟨gt', ot', none⟩) T'.length ctp') T' ∧ Below w.heap.size w wr)
          case atStart => exact ⟨0, xs, gt, (ot + 1), (ctp - 1), by simp, Nat.zero_le _, rfl, rfl, fun x hx => hx, fun x hx => .inl hx, fun u hu => by omega, by omega, HWS.out.1, HWS.out.2.2, HWS.out.2.1⟩
          case round =>
            obtain ⟨i, T', gt', ot', ctp', rfl, hi, rfl, rfl, t1, t2, t3, t4, hrb, hti, hbw⟩ := hrel
            have HT := hid (And.intro t1 (And.intro t2 t3))
            have HB3 := hid hbw
            by_cases hlt : i < n
            · have x1 := (hbw.cell (p := ⟨G v, O v + i, none⟩) (cell_lt (HENT.out v i hvn hlt))).trans (HENT.out v i hvn hlt)
              obtain ⟨m, hm⟩ : ∃ m, mulL L v i = m := ⟨_, rfl⟩
              rw [hm] at x1
              have HM := hid hm
              have hiz : (i : Int) < (n : Int) := by omega
              by_cases hpos : 0 < m
              · have hal : Below wr.heap.size wr (wr.alloc (.cells #[.int .i64 i] 3)) := (Below.refl _ _).alloc (Nat.le_refl _) _
                have htp := hti.keep hal
                have hce := cell_new wr (.int .i64 i) 3
                have hsw := hbw.size
                have hrl := hrb.lt
                have HRB3 := hid hrb
                have HAL := hid hal
                clear hrb hti hbw hm t1 t2 t3 hal
                go_wp2_with (at_builtin; refine wpList_push_T rfl _ _ rfl (w.heap.size + 1) wr.heap.size _ _ _ T' (i : Int) rfl rfl htp hce (by omega) (by simp; omega) (by simp) ?_; intro v4 w4 hT4 ht4; obtain ⟨g4, o4, c4, cur4, rfl, hT4r⟩ := id hT4; have HT4 := hid hT4; have HTT := hid ht4; clear hT4 ht4 hT4r htp hce)
                have hb4 : Below w.heap.size w w4 := HB3.out.trans ((HAL.out.mono hsw).trans (HTT.out.below (by omega) (by simp; omega)))
                have hr4 : RB w4 w.heap.size n (Gr.mark r v) := HRB3.out.same (((HTT.out.block _ (by simp; omega) (by omega))).trans (HAL.out.block _ hrl))
                have HH := hid (And.intro hb4 hr4)
                clear hb4 hr4
                go_roundg (n - (i + 1))
                case rel => exact ⟨i + 1, T' ++ [(i : Int)], g4, o4, c4, by simp, by omega, rfl, by go_num, fun x hx => List.mem_append_left _ (HT.out.1 x hx), (fun x hx => by
                    rcases List.mem_append.1 hx with h | h
                    · exact HT.out.2.1 x h
                    · exact .inr ⟨i, hlt, by simpa using h, by rw [HM.out]; exact hpos⟩), (fun u hu hmu => by
                    by_cases e : u = i
                    · subst e; simp
                    · exact List.mem_append_left _ (HT.out.2.2 u (by omega) hmu)), by simp; omega, HH.out.2, HT4.out, HH.out.1⟩
                case measure => omega
              · have HO := hid (And.intro hrb (And.intro hti hbw))
                clear hrb hti hbw hm t1 t2 t3
                go_wp2
                go_roundg (n - (i + 1))
                case rel => exact ⟨i + 1, T', gt', ot', ctp', rfl, by omega, rfl, by go_num, HT.out.1, HT.out.2.1, (fun u hu hmu => by
                    by_cases e : u = i
                    · subst e; rw [HM.out] at hmu; omega
                    · exact HT.out.2.2 u (by omega) hmu), by omega, HO.out.1, HO.out.2.1, HO.out.2.2⟩
                case measure => omega
            · have hin : i = n := by omega
              subst hin
              have HO := hid (And.intro hrb (And.intro hti hbw))
              have HCN := hid (HCI1.out.mark HT.out.1 HT.out.2.1 HT.out.2.2)
              have hu2 := HU.out.2
              clear hrb hti hbw t1 t2 t3
              go_wp2
              go_roundg (T'.length + U * (i + 1))
              case rel => exact ⟨Gr.mark r v, T', gt', ot', ctp', rfl, by rw [hu2]; go_num, HCN.out, by rw [hu2], by omega, HO.out.1, HO.out.2.1, HO.out.2.2⟩
              case measure =>
                have hmul : (U + 1) * (i + 1) = U * (i + 1) + (i + 1) := Nat.succ_mul _ _
                have hu1 := HU.out.1
                first
                  | (rw [hu1, hmul]; simp only [List.length_cons]; omega)
                  | (rw [hu1, hmul]; simp only [List.length_nil]; omega)
                  | (rw [hu1, hmul]; omega)
                  | (rw [hmul]; omega)

end Go.Proofs.Ytifdhapaonideaa
