/- Piles: the program's tableOf and topple. -/
import Derived.Test.YtifdhapaonideaaPileI
import Derived.Test.YtifdhapaonideaaGraphOf2
namespace Go.Proofs.Ytifdhapaonideaa
open Go.RowKit
open Go.Lib (hid)

set_option maxHeartbeats 1000000 in
theorem isVertex_c (n : Nat) (x : Int) (p : Value) (L : List Lnk) (w : World) (h : RG w p n L) (hn1 : 1 ≤ n) (hn : n ≤ 8) :
    Calls Try.prog 88 #[p, .int .i64 x] w fun e w' => e = .returned (.bool (inB x 0 ((n : Int) - 1))) ∧ w = w' := by
  obtain ⟨g, bt, vt, rfl, c0, _, _, _, _, _⟩ := h
  have f1 : IntKind.i64.wrap ((n : Int) - 1) = (n : Int) - 1 := IntWalk.i64_in _ (by omega)
  go_enter Try.func88, Try.ntmps88
  go_wp2_with (go_at_call 96; refine (within_c _ _ _ _).mono ?_; rintro e w' ⟨rfl, rfl⟩)
  go_ret
  exact ⟨rfl, rfl⟩

/-- a graph with a sink; and that it is none -/
def RetT (w : World) (n : Nat) (L : List Lnk) (q : Nat) (e : Ending) (w' : World) : Prop := ∃ g, e = .returned (.tuple #[.agg #[.pointer (some ⟨g, 0, none⟩), .int .i64 q], .bool true]) ∧ RG w' (.pointer (some ⟨g, 0, none⟩)) n L ∧ Below w.heap.size w w' ∧ ∀ w'', Same w.heap.size w'.heap.size w' w'' → RG w'' (.pointer (some ⟨g, 0, none⟩)) n L
def RetNoT (w : World) (e : Ending) (w' : World) : Prop := ∃ a x, e = .returned (.tuple #[.agg #[.pointer a, .int .i64 x], .bool false]) ∧ Below w.heap.size w w'

/-- a box of a graph with a sink -/
theorem tbox {w w1 : World} {b : Nat} {o : Obj} (ho : o = .cells #[.pointer none, .int .i64 0] 54) (hb : b = w.heap.size) (h : Below (w.alloc o).heap.size (w.alloc o) w1) :
    w1.cell? ⟨b, 0, none⟩ = some (.pointer none) ∧ w1.cell? ⟨b, 1, none⟩ = some (.int .i64 0) ∧ w1.frozen? ⟨b, 0, none⟩ = false ∧ w1.frozen? ⟨b, 1, none⟩ = false := by
  subst hb
  subst ho
  have e1 := h.block w.heap.size (by simp)
  have e0 : (w.alloc (.cells #[.pointer none, .int .i64 0] 54)).heap[w.heap.size]? = some (.cells #[.pointer none, .int .i64 0] 54 (0, 0)) := heap_alloc_new _ _
  rw [e0] at e1
  exact ⟨by rw [cell_of_row _ _ _ _ _ _ e1]; rfl, by rw [cell_of_row _ _ _ _ _ _ e1]; rfl, frozen_of_row _ _ 0 _ _ e1, frozen_of_row _ _ 1 _ _ e1⟩

/-- the box of the result, filled -/
theorem tbox_set {w w1 w3 : World} {b n g : Nat} {q : Int} {L : List Lnk} {o : Obj} (hb : b = w.heap.size) (h1 : Below (w.alloc o).heap.size (w.alloc o) w1) (h3 : Below w1.heap.size w1 w3)
    (hF : ∀ w'', Same (w.alloc o).heap.size w1.heap.size w1 w'' → RG w'' (.pointer (some ⟨g, 0, none⟩)) n L) (v : Value) :
    RG ((w3.setCell ⟨b, 0, none⟩ v).setCell ⟨b, 1, none⟩ (.int .i64 q)) (.pointer (some ⟨g, 0, none⟩)) n L ∧ Below w.heap.size w ((w3.setCell ⟨b, 0, none⟩ v).setCell ⟨b, 1, none⟩ (.int .i64 q)) ∧
      ∀ w'', Same w.heap.size ((w3.setCell ⟨b, 0, none⟩ v).setCell ⟨b, 1, none⟩ (.int .i64 q)).heap.size ((w3.setCell ⟨b, 0, none⟩ v).setCell ⟨b, 1, none⟩ (.int .i64 q)) w'' → RG w'' (.pointer (some ⟨g, 0, none⟩)) n L := by
  subst hb
  have hs0 : (w.alloc o).heap.size = w.heap.size + 1 := by simp
  have hal : Below w.heap.size w (w.alloc o) := (Below.refl _ _).alloc (Nat.le_refl _) _
  have hk : ∀ b', w.heap.size + 1 ≤ b' → b' < w1.heap.size → ((w3.setCell ⟨w.heap.size, 0, none⟩ v).setCell ⟨w.heap.size, 1, none⟩ (.int .i64 q)).heap[b']? = w1.heap[b']? := fun b' hb1 hb2 => by
    rw [heap_setCell_other _ _ _ _ (by show b' ≠ w.heap.size; omega), heap_setCell_other _ _ _ _ (by show b' ≠ w.heap.size; omega)]
    exact h3.block b' hb2
  have hsz : ((w3.setCell ⟨w.heap.size, 0, none⟩ v).setCell ⟨w.heap.size, 1, none⟩ (.int .i64 q)).heap.size = w3.heap.size := by simp [World.setCell]
  have hz3 := h3.size
  refine ⟨hF _ (fun b' hb1 hb2 _ => hk b' (by omega) hb2), ?_, fun w'' hs => hF _ (fun b' hb1 hb2 _ => (hs b' (by omega) (by omega) (by omega)).trans (hk b' (by omega) hb2))⟩
  · have hz1 := h1.size
    have h13 := h1.trans (h3.mono hz1)
    exact ((hal.trans (h13.mono (by omega))).setCell (by show w.heap.size ≤ w.heap.size; omega) _).setCell (by show w.heap.size ≤ w.heap.size; omega) _
theorem tbox_none {w w3 : World} {b : Nat} {o : Obj} (hb : b = w.heap.size) (h1 : Below (w.alloc o).heap.size (w.alloc o) w3) (v u : Value) : Below w.heap.size w ((w3.setCell ⟨b, 0, none⟩ v).setCell ⟨b, 1, none⟩ u) := by
  subst hb
  have hs0 : (w.alloc o).heap.size = w.heap.size + 1 := by simp
  have hal : Below w.heap.size w (w.alloc o) := (Below.refl _ _).alloc (Nat.le_refl _) _
  exact ((hal.trans (h1.mono (by omega))).setCell (by show w.heap.size ≤ w.heap.size; omega) _).setCell (by show w.heap.size ≤ w.heap.size; omega) _

set_option maxRecDepth 100000 in
set_option maxHeartbeats 2000000 in
theorem tableOf_yes (n q : Nat) (v : Value) (L : List Lnk) (w : World) (h : RLinks w v L) (hs : piGB (n : Int) L (q : Int) = true) :
    Calls Try.prog 60 #[.int .i64 n, v, .int .i64 q] w (RetT w n L q) := by
  have HR := hid h
  obtain ⟨a, cap, rfl⟩ := h.form
  clear h
  obtain ⟨-, -, hP, hgood, hcon, hin⟩ := piGB_parts hs
  simp only [Int.toNat_natCast] at hP hcon
  have h5 := hP.n5
  have h10 := hP.e10
  have hn1 := hP.n1
  have HX := hid (And.intro hgood (And.intro hcon hin))
  have hal : Below w.heap.size w (w.alloc (.cells #[.pointer none, .int .i64 0] 54)) := (Below.refl _ _).alloc (Nat.le_refl _) _
  have HAL := hid hal
  clear hs hgood hcon hin hal
  go_enter Try.func60, Try.ntmps60
  go_wp2_with fail
  refine (graphOf_f n _ L _ (HR.out.keep HAL.out) hP.good HX.out.1).mono ?_
  rintro e w1 ⟨g, rfl, hg, hb1, hfar⟩
  have HRG := hid hg
  have HFAR := hid hfar
  obtain ⟨g2, bt, vt, hgg, c0, _, _, c3, _, _⟩ := hg
  simp only [Value.pointer.injEq, Option.some.injEq, Addr.mk.injEq, and_true] at hgg
  subst hgg
  have HB1 := hid hb1
  obtain ⟨E, hE⟩ : ∃ E, edgL L = E := ⟨_, rfl⟩
  rw [hE] at c3 h10
  have h5z : (n : Int) ≤ 5 := by omega
  clear hb1 hE hfar
  go_wp2_with fail
  refine (isConnected_c n _ L _ HRG.out hP.good).mono ?_
  rintro e w2 ⟨rfl, hb2⟩
  rw [HX.out.2.1]
  have HRG2 := hid (HRG.out.keep hb2)
  have hb02 := HB1.out.trans (hb2.mono HB1.out.size)
  obtain ⟨k1, k2, k3, k4⟩ := tbox rfl rfl hb02
  have HEND := hid (fun v => tbox_set (q := (q : Int)) rfl HB1.out hb2 HFAR.out v)
  clear hb2 hb02
  go_wp2_with fail
  refine (isVertex_c n _ _ L _ HRG2.out hn1 (by omega)).mono ?_
  rintro e w3 ⟨rfl, rfl⟩
  rw [HX.out.2.2]
  go_wp2
  refine bodyPost_ret (v := .tuple #[.agg #[.pointer (some ⟨g, 0, none⟩), .int .i64 q], .bool true]) (by simp [results, Try.results60, go_sem, k1, k2]) rfl ?_
  exact ⟨g, rfl, (HEND.out _).1, (HEND.out _).2.1, (HEND.out _).2.2⟩

set_option maxRecDepth 100000 in
set_option maxHeartbeats 2000000 in
theorem tableOf_no (n q : Int) (v : Value) (L : List Lnk) (w : World) (h : RLinks w v L) (hs : piGB n L q = false) :
    Calls Try.prog 60 #[.int .i64 n, v, .int .i64 q] w (RetNoT w) := by
  have HR := hid h
  obtain ⟨a, cap, rfl⟩ := h.form
  clear h
  have hal : Below w.heap.size w (w.alloc (.cells #[.pointer none, .int .i64 0] 54)) := (Below.refl _ _).alloc (Nat.le_refl _) _
  have HAL := hid hal
  clear hal
  rcases Bool.eq_false_or_eq_true (goodG n L) with t1 | t1
  · obtain ⟨hG, hn⟩ := goodG_parts t1
    have hn8 := hG.n8
    have hn1 := hG.n1
    obtain ⟨m, hm⟩ : ∃ m : Nat, n.toNat = m := ⟨_, rfl⟩
    rw [hm] at hG hn hn8 hn1
    subst hn
    unfold piGB at hs
    rw [t1, hm, Bool.true_and] at hs
    have HX := hid (And.intro hG t1)
    clear hG t1 hm
    have hel : ∀ (P : Prop), (∀ E : Int, edgL L = E → P) → P := fun P h => h _ rfl
    by_cases t2 : (m : Int) ≤ 5
    · rw [decide_eq_true t2, Bool.true_and] at hs
      by_cases t3 : edgL L ≤ 10
      · rw [decide_eq_true t3, Bool.and_true] at hs
        rcases Bool.eq_false_or_eq_true (conB m L) with t4 | t4
        · rw [t4, Bool.and_true] at hs
          have HC := hid (And.intro t4 hs)
          have HE3 := hid t3
          clear t4 hs t3 hel
          go_enter Try.func60, Try.ntmps60
          go_wp2_with fail
          refine (graphOf_f m _ L _ (HR.out.keep HAL.out) HX.out.1 HX.out.2).mono ?_
          rintro e w1 ⟨g, rfl, hg, hb1, _⟩
          have HRG := hid hg
          obtain ⟨g2, bt, vt, hgg, c0, _, _, c3, _, _⟩ := hg
          simp only [Value.pointer.injEq, Option.some.injEq, Addr.mk.injEq, and_true] at hgg
          subst hgg
          have HB1 := hid hb1
          have h10 := HE3.out
          obtain ⟨E, hE⟩ : ∃ E, edgL L = E := ⟨_, rfl⟩
          rw [hE] at c3 h10
          clear hb1 hE
          go_wp2_with fail
          refine (isConnected_c m _ L _ HRG.out HX.out.1).mono ?_
          rintro e w2 ⟨rfl, hb2⟩
          rw [HC.out.1]
          have HRG2 := hid (HRG.out.keep hb2)
          have hb02 := HB1.out.trans (hb2.mono HB1.out.size)
          obtain ⟨k1, k2, k3, k4⟩ := tbox rfl rfl hb02
          have HEND := hid (fun v u => tbox_none rfl hb02 v u)
          clear hb2 hb02
          go_wp2_with fail
          refine (isVertex_c m _ _ L _ HRG2.out hn1 (by omega)).mono ?_
          rintro e w3 ⟨rfl, rfl⟩
          rw [HC.out.2]
          go_wp2
          refine bodyPost_ret (v := .tuple #[.agg #[.pointer (some ⟨g, 0, none⟩), .int .i64 q], .bool false]) (by simp [results, Try.results60, go_sem, k1, k2]) rfl ?_
          exact ⟨_, _, rfl, HEND.out _ _⟩
        · have HC := hid t4
          have HE3 := hid t3
          clear t4 hs t3 hel
          go_enter Try.func60, Try.ntmps60
          go_wp2_with fail
          refine (graphOf_f m _ L _ (HR.out.keep HAL.out) HX.out.1 HX.out.2).mono ?_
          rintro e w1 ⟨g, rfl, hg, hb1, _⟩
          have HRG := hid hg
          obtain ⟨g2, bt, vt, hgg, c0, _, _, c3, _, _⟩ := hg
          simp only [Value.pointer.injEq, Option.some.injEq, Addr.mk.injEq, and_true] at hgg
          subst hgg
          have HB1 := hid hb1
          have h10 := HE3.out
          obtain ⟨E, hE⟩ : ∃ E, edgL L = E := ⟨_, rfl⟩
          rw [hE] at c3 h10
          clear hb1 hE
          go_wp2_with fail
          refine (isConnected_c m _ L _ HRG.out HX.out.1).mono ?_
          rintro e w2 ⟨rfl, hb2⟩
          rw [HC.out]
          have hb02 := HB1.out.trans (hb2.mono HB1.out.size)
          obtain ⟨k1, k2, k3, k4⟩ := tbox rfl rfl hb02
          have HEND := hid (fun v u => tbox_none rfl hb02 v u)
          clear hb2 hb02
          go_wp2
          refine bodyPost_ret (v := .tuple #[.agg #[.pointer (some ⟨g, 0, none⟩), .int .i64 q], .bool false]) (by simp [results, Try.results60, go_sem, k1, k2]) rfl ?_
          exact ⟨_, _, rfl, HEND.out _ _⟩
      · have HE3 := hid t3
        clear hs t3 hel
        go_enter Try.func60, Try.ntmps60
        go_wp2_with fail
        refine (graphOf_f m _ L _ (HR.out.keep HAL.out) HX.out.1 HX.out.2).mono ?_
        rintro e w1 ⟨g, rfl, hg, hb1, _⟩
        obtain ⟨g2, bt, vt, hgg, c0, _, _, c3, _, _⟩ := hg
        simp only [Value.pointer.injEq, Option.some.injEq, Addr.mk.injEq, and_true] at hgg
        subst hgg
        have h10 := HE3.out
        obtain ⟨E, hE⟩ : ∃ E, edgL L = E := ⟨_, rfl⟩
        rw [hE] at c3 h10
        obtain ⟨k1, k2, k3, k4⟩ := tbox rfl rfl hb1
        have HEND := hid (fun v u => tbox_none rfl hb1 v u)
        clear hb1 hE
        go_wp2
        refine bodyPost_ret (v := .tuple #[.agg #[.pointer (some ⟨g, 0, none⟩), .int .i64 q], .bool false]) (by simp [results, Try.results60, go_sem, k1, k2]) rfl ?_
        exact ⟨_, _, rfl, HEND.out _ _⟩
    · clear hs hel
      go_enter Try.func60, Try.ntmps60
      go_wp2_with fail
      refine (graphOf_f m _ L _ (HR.out.keep HAL.out) HX.out.1 HX.out.2).mono ?_
      rintro e w1 ⟨g, rfl, hg, hb1, _⟩
      obtain ⟨g2, bt, vt, hgg, c0, _, _, c3, _, _⟩ := hg
      simp only [Value.pointer.injEq, Option.some.injEq, Addr.mk.injEq, and_true] at hgg
      subst hgg
      obtain ⟨k1, k2, k3, k4⟩ := tbox rfl rfl hb1
      have HEND := hid (fun v u => tbox_none rfl hb1 v u)
      clear hb1
      go_wp2
      refine bodyPost_ret (v := .tuple #[.agg #[.pointer (some ⟨g, 0, none⟩), .int .i64 q], .bool false]) (by simp [results, Try.results60, go_sem, k1, k2]) rfl ?_
      exact ⟨_, _, rfl, HEND.out _ _⟩
  · have HT := hid t1
    clear hs t1
    go_enter Try.func60, Try.ntmps60
    go_wp2_with fail
    refine (graphOf_no _ _ L _ (HR.out.keep HAL.out) HT.out).mono ?_
    rintro e w1 ⟨rfl, hb1⟩
    obtain ⟨k1, k2, k3, k4⟩ := tbox rfl rfl hb1
    have HEND := hid (fun v u => tbox_none rfl hb1 v u)
    clear hb1
    go_wp2
    refine bodyPost_ret (v := .tuple #[.agg #[.pointer none, .int .i64 q], .bool false]) (by simp [results, Try.results60, go_sem, k1, k2]) rfl ?_
    exact ⟨_, _, rfl, HEND.out _ _⟩

end Go.Proofs.Ytifdhapaonideaa
