/- The drawing functions of graphs and divisors. -/
import Derived.Test.YtlehhfmbdcmpoaaGraphP
import Derived.Test.YtlehhfmbdcmpoaaPileW
namespace Go.Proofs.Ytlehhfmbdcmpoaa
open Go.RowKit
open Go.Lib (hid)

/-- a new cursor -/
theorem cur_new {w : World} {v : Value} {n : Nat} (h : RBytes w v n) : Cur (w.alloc (.cells #[v, .int .i64 0, .int .u64 0] 89)) w.heap.size 0 := by
  obtain ⟨a, cap, rfl, h1, h2, hc⟩ := h
  refine ⟨a, n, cap, 0, 0, heap_alloc_new w _, Int.le_refl _, Int.le_refl _, h1, h1, h2, Int.le_refl _, by decide, fun i hi => ?_⟩
  obtain ⟨g, o, x, rfl, hcell, hx⟩ := hc i hi
  have hlt := cell_lt hcell
  refine ⟨g, o, x, rfl, hlt, ?_, hx⟩
  rw [((Below.refl w.heap.size w).alloc (Nat.le_refl _) _).cell (p := ⟨g, o + i, none⟩) hlt]; exact hcell
theorem RBytes.keep {w w' : World} {v : Value} {n : Nat} (h : RBytes w v n) (hb : Below w.heap.size w w') : RBytes w' v n := by
  obtain ⟨a, cap, rfl, h1, h2, hc⟩ := h
  refine ⟨a, cap, rfl, h1, h2, fun i hi => ?_⟩
  obtain ⟨g, o, x, ha, hcell, hx⟩ := hc i hi
  exact ⟨g, o, x, ha, by rw [hb.cell (p := ⟨g, o + i, none⟩) (cell_lt hcell)]; exact hcell, hx⟩
theorem RBytes.form {w : World} {v : Value} {n : Nat} (h : RBytes w v n) : ∃ a cap, v = .slice a n cap ∧ n ≤ cap ∧ cap ≤ maxLen := by
  obtain ⟨a, cap, rfl, h1, h2, _⟩ := h; exact ⟨a, cap, rfl, h1, h2⟩
/-- what is drawn with a new cursor touches nothing that was there -/
theorem Dr.fresh {w w' : World} {o : Obj} (h : Dr w.heap.size (w.alloc o).heap.size (w.alloc o) w') : Below w.heap.size w w' := by
  have ha := (Below.refl w.heap.size w).alloc (Nat.le_refl _) o
  have hs := ha.size
  exact ha.trans ⟨h.os, h.tape, h.output, h.size, fun c hc => h.block c (by omega) (by omega)⟩
theorem OLinks.dr {w w' : World} {lo b : Nat} {v : Value} {L : List Lnk} (h : OLinks w lo v L) (hd : Dr b w.heap.size w w') (hb : b < lo) : OLinks w' lo v L := by
  refine ⟨h.1, ?_⟩
  rcases h.2 with hn | ⟨g, cap, cur, rfl, hb1, hg, rest⟩
  · exact .inl hn
  · exact .inr ⟨g, cap, cur, rfl, hb1, by rw [hd.block g (Array.getElem?_eq_some_iff.1 hg).1 (by omega)]; exact hg, rest⟩
theorem FInts.dr {w w' : World} {lo b : Nat} {v : Value} {xs : List Int} (h : FInts w lo w.heap.size v xs) (hd : Dr b w.heap.size w w') (hb : b < lo) : FInts w' lo w'.heap.size v xs :=
  (h.same (fun k h1 h2 _ => hd.block k h2 (by omega))).mono (Nat.le_refl _) hd.size

/-- a drawn graph -/
def RetGr (w : World) (e : Ending) (w' : World) : Prop := ∃ (n : Int) (v : Value) (L : List Lnk), e = .returned (.tuple #[.int .i64 n, v]) ∧ -1 ≤ n ∧ n ≤ 9 ∧ L.length ≤ 101 ∧ RLinks w' v L ∧ Below w.heap.size w w'
/-- a drawn graph and drawn numbers -/
def RetGrN (w : World) (e : Ending) (w' : World) : Prop := ∃ (n : Int) (v : Value) (L : List Lnk) (u : Value) (d : List Int), e = .returned (.tuple #[.int .i64 n, v, u]) ∧ -1 ≤ n ∧ n ≤ 9 ∧ L.length ≤ 101 ∧ d.length ≤ 20 ∧ RLinks w' v L ∧ RInts w' u d ∧ Below w.heap.size w w'

set_option maxRecDepth 100000 in
set_option maxHeartbeats 1000000 in
theorem DrawGonalityOf_c (v : Value) (n : Nat) (w : World) (h : RBytes w v n) :
    Calls Try.prog 81 #[v] w (RetGr w) := by
  have HC := hid (cur_new h)
  obtain ⟨a, cap, rfl, _, _⟩ := h.form
  clear h
  obtain ⟨b, hb⟩ : ∃ b, w.heap.size = b := ⟨_, rfl⟩
  obtain ⟨wa, hwa⟩ : ∃ wa, w.alloc (.cells #[.slice a n cap, .int .i64 0, .int .u64 0] 89) = wa := ⟨_, rfl⟩
  have HWA := hid hwa
  have HCA : Hid (Cur wa b 0) := by show Cur _ _ _; rw [← hwa, ← hb]; exact HC.out
  have HB := hid hb
  clear hb hwa HC
  go_enter Try.func81, Try.ntmps81
  go_wp2_with fail
  rw [HB.out, HWA.out]
  refine (smallGraph_c b 0 _ HCA.out (by omega)).mono ?_
  rintro e w1 ⟨n1, u, L, rfl, hn1, hn2, hl, hO, hc, hd⟩
  have HF : Hid (RLinks w1 u L ∧ Below w.heap.size w w1) := ⟨hO.r, by
    rw [← HWA.out, ← HB.out] at hd; exact Dr.fresh hd⟩
  obtain ⟨a3, n3, c3, rfl⟩ := hO.form
  clear hO hd hc
  go_wp2
  go_ret2
  exact ⟨_, _, _, rfl, hn1, hn2, hl, HF.out.1, HF.out.2⟩
set_option maxRecDepth 100000 in
set_option maxHeartbeats 1000000 in
theorem DrawRankOfChips_c (v : Value) (n : Nat) (w : World) (h : RBytes w v n) :
    Calls Try.prog 66 #[v] w (RetGrN w) := by
  have HC := hid (cur_new h)
  obtain ⟨a, cap, rfl, _, _⟩ := h.form
  clear h
  obtain ⟨b, hb⟩ : ∃ b, w.heap.size = b := ⟨_, rfl⟩
  obtain ⟨wa, hwa⟩ : ∃ wa, w.alloc (.cells #[.slice a n cap, .int .i64 0, .int .u64 0] 89) = wa := ⟨_, rfl⟩
  have HWA := hid hwa
  have HCA : Hid (Cur wa b 0) := by show Cur _ _ _; rw [← hwa, ← hb]; exact HC.out
  have HB := hid hb
  clear hb hwa HC
  go_enter Try.func66, Try.ntmps66
  go_wp2_with fail
  rw [HB.out, HWA.out]
  refine (smallGraph_c b 0 _ HCA.out (by omega)).mono ?_
  rintro e w1 ⟨n1, u, L, rfl, hn1, hn2, hl, hO, hc, hd⟩
  have HO := hid hO
  have HC1 := hid hc
  have HD1 := hid hd
  obtain ⟨a3, n3, c3, rfl⟩ := hO.form
  clear hO hd hc
  go_wp2_with fail
  refine (smallChips_c b _ n1 _ HC1.out (by omega) (by omega)).mono ?_
  rintro e w2 ⟨u2, xs, rfl, hxl, hF, hc2, hd2⟩
  have HF : Hid (RLinks w2 (.slice a3 n3 c3) L ∧ RInts w2 u2 xs ∧ Below w.heap.size w w2) := ⟨(HO.out.dr hd2 HCA.out.lt).r, hF.r, by
    have hd := HD1.out.trans (hd2.low HD1.out.size)
    rw [← HWA.out, ← HB.out] at hd; exact Dr.fresh hd⟩
  obtain ⟨a4, n4, c4, rfl⟩ := hF.form3
  clear hF hc2 hd2
  go_wp2
  go_ret3
  exact ⟨_, _, _, _, _, rfl, hn1, hn2, hl, hxl, HF.out.1, HF.out.2.1, HF.out.2.2⟩
set_option maxRecDepth 100000 in
set_option maxHeartbeats 1000000 in
theorem DrawRankBalance_c (v : Value) (n : Nat) (w : World) (h : RBytes w v n) :
    Calls Try.prog 74 #[v] w (RetGrN w) := by
  have HC := hid (cur_new h)
  obtain ⟨a, cap, rfl, _, _⟩ := h.form
  clear h
  obtain ⟨b, hb⟩ : ∃ b, w.heap.size = b := ⟨_, rfl⟩
  obtain ⟨wa, hwa⟩ : ∃ wa, w.alloc (.cells #[.slice a n cap, .int .i64 0, .int .u64 0] 89) = wa := ⟨_, rfl⟩
  have HWA := hid hwa
  have HCA : Hid (Cur wa b 0) := by show Cur _ _ _; rw [← hwa, ← hb]; exact HC.out
  have HB := hid hb
  clear hb hwa HC
  go_enter Try.func74, Try.ntmps74
  go_wp2_with fail
  rw [HB.out, HWA.out]
  refine (smallGraph_c b 0 _ HCA.out (by omega)).mono ?_
  rintro e w1 ⟨n1, u, L, rfl, hn1, hn2, hl, hO, hc, hd⟩
  have HO := hid hO
  have HC1 := hid hc
  have HD1 := hid hd
  obtain ⟨a3, n3, c3, rfl⟩ := hO.form
  clear hO hd hc
  go_wp2_with fail
  refine (smallChips_c b _ n1 _ HC1.out (by omega) (by omega)).mono ?_
  rintro e w2 ⟨u2, xs, rfl, hxl, hF, hc2, hd2⟩
  have HF : Hid (RLinks w2 (.slice a3 n3 c3) L ∧ RInts w2 u2 xs ∧ Below w.heap.size w w2) := ⟨(HO.out.dr hd2 HCA.out.lt).r, hF.r, by
    have hd := HD1.out.trans (hd2.low HD1.out.size)
    rw [← HWA.out, ← HB.out] at hd; exact Dr.fresh hd⟩
  obtain ⟨a4, n4, c4, rfl⟩ := hF.form3
  clear hF hc2 hd2
  go_wp2
  go_ret3
  exact ⟨_, _, _, _, _, rfl, hn1, hn2, hl, hxl, HF.out.1, HF.out.2.1, HF.out.2.2⟩
set_option maxRecDepth 100000 in
set_option maxHeartbeats 1000000 in
theorem DrawBaseVertices_c (v : Value) (n : Nat) (w : World) (h : RBytes w v n) :
    Calls Try.prog 86 #[v] w (RetGrN w) := by
  have HH := hid h
  obtain ⟨a, cap, rfl, _, _⟩ := h.form
  clear h
  go_enter Try.func86, Try.ntmps86
  go_wp2_with fail
  refine (DrawRankOfChips_c _ n _ HH.out).mono ?_
  rintro e w1 ⟨n1, u, L, u2, xs, rfl, hn1, hn2, hl, hxl, hL, hF, hb⟩
  have HF := hid (And.intro hL (And.intro hF hb))
  obtain ⟨a3, c3, rfl⟩ := hL.form
  obtain ⟨a4, c4, rfl, _, _, _⟩ := hF
  clear hL hb
  go_wp2
  go_ret3
  exact ⟨_, _, _, _, _, rfl, hn1, hn2, hl, hxl, HF.out.1, HF.out.2.1, HF.out.2.2⟩

end Go.Proofs.Ytlehhfmbdcmpoaa
