/- The cursor that draws: next, pick, one, among. -/
import Derived.Test.YtnkbfgnmodfemaaGreatDoorLeaf
import Derived.Test.YtnkbfgnmodfemaaGreatDoorAppend
import Derived.BigQuiet
import Derived.Laws.BitsLemmas
import Derived.Laws.Bits64
namespace Go.Proofs.YtnkbfgnmodfemaaGreatDoor
open Go.RowKit
open Go.Lib (hid)

/-- a slice of bytes -/
def RBytes (w : World) (v : Value) (n : Nat) : Prop :=
  ∃ a cap, v = .slice a n cap ∧ n ≤ cap ∧ cap ≤ maxLen ∧ ∀ i, i < n → ∃ (g o : Nat) (x : Int), a = some ⟨g, o, none⟩ ∧ w.cell? ⟨g, o + i, none⟩ = some (.int .u8 x) ∧ 0 ≤ x ∧ x < 256
/-- a cursor in block b; its bytes lie below b; so many steps at most are behind it -/
def Cur (w : World) (b k : Nat) : Prop :=
  ∃ (a : Option Addr) (n cap : Nat) (at_ sd : Int), w.heap[b]? = some (.cells #[.slice a n cap, .int .i64 at_, .int .u64 sd] 51 (0, 0)) ∧ 0 ≤ at_ ∧ at_ ≤ (k : Int) ∧ n ≤ cap ∧ n ≤ cap ∧ cap ≤ maxLen ∧
    0 ≤ sd ∧ sd < 18446744073709551616 ∧ ∀ i, i < n → ∃ (g o : Nat) (x : Int), a = some ⟨g, o, none⟩ ∧ g < b ∧ w.cell? ⟨g, o + i, none⟩ = some (.int .u8 x) ∧ 0 ≤ x ∧ x < 256
theorem Cur.lt {w : World} {b k : Nat} (h : Cur w b k) : b < w.heap.size := by
  obtain ⟨a, n, cap, at_, sd, hb, _⟩ := h
  exact (Array.getElem?_eq_some_iff.1 hb).1
theorem Cur.keep {w w' : World} {b k : Nat} (h : Cur w b k) (hb : Below w.heap.size w w') : Cur w' b k := by
  obtain ⟨a, n, cap, at_, sd, h1, h2, h3, h4, h5, h6, h7, h8, h9⟩ := h
  refine ⟨a, n, cap, at_, sd, (hb.block _ (Array.getElem?_eq_some_iff.1 h1).1).trans h1, h2, h3, h4, h5, h6, h7, h8, fun i hi => ?_⟩
  obtain ⟨g, o, x, ha, hg, hc, hx⟩ := h9 i hi
  exact ⟨g, o, x, ha, hg, (hb.cell (p := ⟨g, o + i, none⟩) (cell_lt hc)).trans hc, hx⟩
theorem Cur.more {w : World} {b k j : Nat} (h : Cur w b k) (hk : k ≤ j) : Cur w b j := by
  obtain ⟨a, n, cap, at_, sd, h1, h2, h3, h4⟩ := h
  exact ⟨a, n, cap, at_, sd, h1, h2, by omega, h4⟩
theorem Cur.drewN {w : World} {b k q : Nat} (h : Cur w b k) : Cur (w.drewN q) b k := h
/-- a step of the cursor: only its block is written -/
def RetCur (b k : Nat) (w : World) (P : Int → Prop) (e : Ending) (w' : World) : Prop := ∃ x, e = .returned (.int .i64 x) ∧ P x ∧ Cur w' b k ∧ Touch b (b + 1) w w'

theorem u64_63 (n : Int) (h₀ : 0 ≤ n) (h₁ : n < 2 ^ 63) : IntKind.u64.wrap n = n := by rw [IntKind.wrap_u64]; omega
theorem seed_byte (S : Int) (h0 : 0 ≤ S) (h1 : S < 18446744073709551616) : ∃ x, wrap64 (bits .and .u64 (S / 1099511627776) 255) = x ∧ 0 ≤ x ∧ x < 256 := by
  have h := bits_mask .u64 63 (by decide) u64_63 8 (by decide) (S / 1099511627776) (by omega) (by omega)
  have e : ((2 : Int) ^ 8 - 1) = 255 := by decide
  have e2 : ((2 : Int) ^ 8) = 256 := by decide
  rw [e, e2] at h
  refine ⟨_, rfl, ?_⟩
  rw [h]
  unfold wrap64
  omega
theorem u64_range (x : Int) : 0 ≤ IntKind.u64.wrap x ∧ IntKind.u64.wrap x < 18446744073709551616 := by rw [IntKind.wrap_u64]; omega
theorem Touch.cell1 {lo hi : Nat} {w w' : World} (h : Touch lo hi w w') {b o : Nat} {v : Value} (hb : ¬ (lo ≤ b ∧ b < hi)) (hc : w.cell? ⟨b, o, none⟩ = some v) : w'.cell? ⟨b, o, none⟩ = some v := by
  have hlt : b < w.heap.size := cell_lt hc
  have hk := h.block b hlt hb
  unfold World.cell? at hc ⊢
  simp only at hc ⊢
  rw [hk]; exact hc
/-- the cursor behind a step -/
theorem cur_step {w : World} {b k : Nat} {a : Option Addr} {n cap : Nat} {at_ sd S : Int} {p r : Nat} (h1 : w.heap[b]? = some (.cells #[.slice a n cap, .int .i64 at_, .int .u64 sd] 51 (0, 0))) (h2 : 0 ≤ at_) (h3 : at_ ≤ (k : Int)) (h4 : n ≤ cap) (h5 : n ≤ cap) (h6 : cap ≤ maxLen)
    (h9 : ∀ i, i < n → ∃ (g o : Nat) (x : Int), a = some ⟨g, o, none⟩ ∧ g < b ∧ w.cell? ⟨g, o + i, none⟩ = some (.int .u8 x) ∧ 0 ≤ x ∧ x < 256) (hS : 0 ≤ S ∧ S < 18446744073709551616) :
    Cur ((((w.drewN p).setCell ⟨b, 1, none⟩ (.int .i64 (at_ + 1))).setCell ⟨b, 2, none⟩ (.int .u64 S)).drewN r) b (k + 1) ∧ Touch b (b + 1) w ((((w.drewN p).setCell ⟨b, 1, none⟩ (.int .i64 (at_ + 1))).setCell ⟨b, 2, none⟩ (.int .u64 S)).drewN r) := by
  have e1 := heap_setCell_same (w.drewN p) b 1 _ _ (.int .i64 (at_ + 1)) h1
  have e2 := heap_setCell_same _ b 2 _ _ (.int .u64 S) e1
  have hoth : ∀ c, c ≠ b → (((w.drewN p).setCell ⟨b, 1, none⟩ (.int .i64 (at_ + 1))).setCell ⟨b, 2, none⟩ (.int .u64 S)).heap[c]? = w.heap[c]? := fun c hc =>
    (heap_setCell_other _ _ _ _ hc).trans (heap_setCell_other _ _ _ _ hc)
  have hT : Touch b (b + 1) w ((((w.drewN p).setCell ⟨b, 1, none⟩ (.int .i64 (at_ + 1))).setCell ⟨b, 2, none⟩ (.int .u64 S)).drewN r) := ⟨rfl, rfl, rfl, by simp [World.setCell, World.drewN], fun c _ hc => hoth c (by omega)⟩
  refine ⟨⟨a, n, cap, at_ + 1, S, e2, by omega, by omega, h4, h5, h6, hS.1, hS.2, fun i hi => ?_⟩, hT⟩
  obtain ⟨g, o, x, ha, hg, hc, hx⟩ := h9 i hi
  exact ⟨g, o, x, ha, hg, hT.cell1 (by omega) hc, hx⟩

set_option maxRecDepth 100000 in
set_option maxHeartbeats 4000000 in
theorem next_c (b k : Nat) (w : World) (h : Cur w b k) (hk : k ≤ 1000000000000) :
    Calls Tryz.prog 75 #[.pointer (some ⟨b, 0, none⟩)] w (RetCur b (k + 1) w (fun x => 0 ≤ x ∧ x < 256)) := by
  obtain ⟨a, n, cap, at_, sd, h1, h2, h3, h4, h5, h6, h7, h8, h9⟩ := h
  unfold maxLen at h6
  have H1 := hid h1
  have H9 := hid h9
  have c0 : w.cell? ⟨b, 0, none⟩ = some (.slice a n cap) := by rw [cell_of_row _ _ _ _ _ _ h1]; rfl
  have c1 : w.cell? ⟨b, 1, none⟩ = some (.int .i64 at_) := by rw [cell_of_row _ _ _ _ _ _ h1]; rfl
  have c2 : w.cell? ⟨b, 2, none⟩ = some (.int .u64 sd) := by rw [cell_of_row _ _ _ _ _ _ h1]; rfl
  have d0 := frozen_of_row w b 0 _ _ h1
  have d1 := frozen_of_row w b 1 _ _ h1
  have d2 := frozen_of_row w b 2 _ _ h1
  have f1 : IntKind.i64.wrap (at_ + 1) = at_ + 1 := IntWalk.i64_in _ (by omega)
  clear h1 h9
  by_cases hlt : at_ < (n : Int)
  · obtain ⟨j, hj⟩ : ∃ j : Nat, at_ = j := ⟨at_.toNat, by omega⟩
    subst hj
    obtain ⟨g, o, x, rfl, hg, hc, hx1, hx2⟩ := H9.out j (by omega)
    have hgb : g ≠ b := by omega
    have t1 : decide ((j : Int) < (n : Int)) = true := decide_eq_true hlt
    have t2 : decide ((j : Int) + 1 ≤ (n : Int)) = true := decide_eq_true (by omega)
    go_enter Tryz.func75, Tryz.ntmps75
    go_wp2
    go_quiet (fail)
    go_wp2
    go_quiet (fail)
    go_wp2
    go_quiet (fail)
    go_wp2
    go_ret
    exact ⟨_, rfl, ⟨hx1, hx2⟩, cur_step H1.out h2 h3 h4 h5 h6 H9.out (u64_range _)⟩
  · have t1 : decide (at_ < (n : Int)) = false := decide_eq_false hlt
    have t2 : decide (at_ + 1 ≤ (n : Int)) = false := decide_eq_false (by omega)
    have t3 : ¬ (at_ + 1 ≤ (n : Int)) := by omega
    go_enter Tryz.func75, Tryz.ntmps75
    go_wp2
    go_quiet (fail)
    go_wp2
    go_quiet (fail)
    go_wp2
    go_ret
    refine ⟨_, rfl, ?_, cur_step (p := _) H1.out h2 h3 h4 h5 h6 H9.out (u64_range _)⟩
    obtain ⟨y, hy, h⟩ := seed_byte (IntKind.u64.wrap (IntKind.u64.wrap (IntKind.u64.wrap (sd * 6364136223846793005)) + 1442695040888963407)) (u64_range _).1 (u64_range _).2
    rw [← hy] at h
    exact h

theorem RetCur.mono {b k j : Nat} {w w1 w2 : World} {P : Int → Prop} {e : Ending} (h : RetCur b k w1 P e w2) (hk : k ≤ j) (ht : Touch b (b + 1) w w1) : RetCur b j w P e w2 := by
  obtain ⟨x, h1, h2, h3, h4⟩ := h
  exact ⟨x, h1, h2, h3.more hk, ht.trans h4⟩
set_option maxRecDepth 100000 in
set_option maxHeartbeats 4000000 in
theorem pick_c (b k : Nat) (n : Int) (w : World) (h : Cur w b k) (hk : k ≤ 999999999990) (hn : n ≤ 60000) :
    Calls Tryz.prog 48 #[.pointer (some ⟨b, 0, none⟩), .int .i64 n] w (RetCur b (k + 2) w (fun x => 0 ≤ x ∧ (x < n ∨ x = 0))) := by
  have HH := hid h
  clear h
  by_cases h1 : n ≤ 1
  · go_enter Tryz.func48, Tryz.ntmps48
    go_wp2
    go_ret
    exact ⟨0, rfl, ⟨Int.le_refl _, .inr rfl⟩, HH.out.more (by omega), Touch.refl _ _ _⟩
  · by_cases h2 : n > 200
    · go_enter Tryz.func48, Tryz.ntmps48
      go_wp2_with fail
      refine (next_c b k _ HH.out (by omega)).mono ?_
      rintro e w1 ⟨x, rfl, ⟨hx1, hx2⟩, hc1, ht1⟩
      have HC1 := hid hc1
      have HT1 := hid ht1
      clear hc1 ht1
      have f1 : IntKind.i64.wrap (x * 256) = x * 256 := IntWalk.i64_in _ (by omega)
      go_wp2_with fail
      refine (next_c b (k + 1) _ HC1.out (by omega)).mono ?_
      rintro e w2 ⟨y, rfl, ⟨hy1, hy2⟩, hc2, ht2⟩
      have HC2 := hid hc2
      have HT2 := hid (HT1.out.trans ht2)
      clear hc2 ht2
      have f2 : IntKind.i64.wrap (x * 256 + y) = x * 256 + y := IntWalk.i64_in _ (by omega)
      have f3 : (x * 256 + y).tmod n = (x * 256 + y) % n := Int.tmod_eq_emod_of_nonneg (by omega)
      have f4 := Int.emod_nonneg (x * 256 + y) (show n ≠ 0 by omega)
      have f5 := Int.emod_lt_of_pos (x * 256 + y) (show 0 < n by omega)
      have f6 : IntKind.i64.wrap ((x * 256 + y) % n) = (x * 256 + y) % n := IntWalk.i64_in _ (by omega)
      go_wp2
      go_ret
      exact ⟨_, rfl, ⟨f4, .inl f5⟩, HC2.out, HT2.out⟩
    · go_enter Tryz.func48, Tryz.ntmps48
      go_wp2_with fail
      refine (next_c b k _ HH.out (by omega)).mono ?_
      rintro e w1 ⟨x, rfl, ⟨hx1, hx2⟩, hc1, ht1⟩
      have HC1 := hid hc1
      have HT1 := hid ht1
      clear hc1 ht1
      have f3 : x.tmod n = x % n := Int.tmod_eq_emod_of_nonneg (by omega)
      have f4 := Int.emod_nonneg x (show n ≠ 0 by omega)
      have f5 := Int.emod_lt_of_pos x (show 0 < n by omega)
      have f6 : IntKind.i64.wrap (x % n) = x % n := IntWalk.i64_in _ (by omega)
      go_wp2
      go_ret
      exact ⟨_, rfl, ⟨f4, .inl f5⟩, HC1.out.more (by omega), HT1.out⟩

def RetCurB (b k : Nat) (w : World) (e : Ending) (w' : World) : Prop := ∃ x, e = .returned (.bool x) ∧ Cur w' b k ∧ Touch b (b + 1) w w'
set_option maxRecDepth 100000 in
set_option maxHeartbeats 4000000 in
theorem one_c (b k : Nat) (n : Int) (w : World) (h : Cur w b k) (hk : k ≤ 999999999990) (hn : n ≤ 60000) :
    Calls Tryz.prog 54 #[.pointer (some ⟨b, 0, none⟩), .int .i64 n] w (RetCurB b (k + 2) w) := by
  have HH := hid h
  clear h
  go_enter Tryz.func54, Tryz.ntmps54
  go_wp2_with fail
  refine (pick_c b k n _ HH.out hk hn).mono ?_
  rintro e w1 ⟨x, rfl, _, hc1, ht1⟩
  have HC1 := hid hc1
  have HT1 := hid ht1
  clear hc1 ht1
  go_wp2
  go_ret
  exact ⟨_, rfl, HC1.out, HT1.out⟩

set_option maxRecDepth 100000 in
set_option maxHeartbeats 4000000 in
theorem among_c (b k : Nat) (v : Value) (l : List Int) (w : World) (h : Cur w b k) (hk : k ≤ 999999999990) (hv : RInts w v l) (hl : 0 < l.length) (hl2 : l.length ≤ 1000) (hfr : ∀ p, v.ownBlock = some p → p ≠ b) :
    Calls Tryz.prog 46 #[.pointer (some ⟨b, 0, none⟩), v] w (RetCur b (k + 2) w (fun x => x ∈ l)) := by
  have HH := hid h
  obtain ⟨a, cap, rfl, h1, h2, hc⟩ := hv
  have HV := hid hc
  have HFR := hid hfr
  clear h hc hfr
  go_enter Tryz.func46, Tryz.ntmps46
  go_wp2_with fail
  refine (pick_c b k l.length _ HH.out hk (by omega)).mono ?_
  rintro e w1 ⟨x, rfl, ⟨hx1, hx2⟩, hc1, ht1⟩
  obtain ⟨y, rfl⟩ : ∃ y : Nat, x = y := ⟨x.toNat, by omega⟩
  have hy : y < l.length := by omega
  obtain ⟨g, o, x, rfl, hcell, HD, HX⟩ := ints_at HV.out hy
  have hgb : g ≠ b := HFR.out g rfl
  have hcell1 := ht1.cell1 (b := g) (by omega) hcell
  have HC1 := hid hc1
  have HT1 := hid ht1
  have hx : x ∈ l := by rw [← HX.out]; simp [List.getD, List.getElem?_eq_getElem hy]
  have hyz : (y : Int) < (l.length : Int) := by omega
  clear hc1 ht1
  go_wp2
  go_ret
  exact ⟨_, rfl, hx, HC1.out, HT1.out⟩

end Go.Proofs.YtnkbfgnmodfemaaGreatDoor
