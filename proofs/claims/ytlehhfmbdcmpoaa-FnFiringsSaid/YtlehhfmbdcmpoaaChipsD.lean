/- Drawn lists of numbers: vertices, chips. -/
import Derived.Test.YtlehhfmbdcmpoaaGraphD2
import Derived.Test.YtlehhfmbdcmpoaaMark
namespace Go.Proofs.Ytlehhfmbdcmpoaa
open Go.RowKit
open Go.Lib (hid)

theorem wpList_push_dr {W0 W : World} {ops : Array Oper} {rest : List Oper} {o : Oper} {a : Act} {Q : Exit → Act → World → Prop} (hgd : o.guard = none) (s x : Operand)
    (ho : o.op = .call { callee := .builtin .append, args := #[s, x], argTypes := #[23, 23] }) (b k lo : Nat) (v : Value) (xs : List Int) (y : Int) (hs : a.eval s = v) (hx : a.eval x = .slice (some ⟨W.heap.size, 0, none⟩) 1 1)
    (hF : FInts W lo W.heap.size v xs) (hd : Dr b lo W0 W) (hC : Cur W b k) (hb : b < lo) (hlo : lo ≤ W.heap.size) (m : Nat) (hm : Hid (xs.length = m)) (hl : m ≤ 1048576)
    (h : ∀ g c w', FInts w' lo w'.heap.size (.slice (some ⟨g, 0, none⟩) (m + 1) c) (xs ++ [y]) → Dr b lo W0 w' → Cur w' b k → lo ≤ w'.heap.size → wpList Try.prog ops Q rest (a.put o.dst (.slice (some ⟨g, 0, none⟩) (m + 1) c)) w') :
    wpList Try.prog ops Q (o :: rest) a (W.alloc (.cells #[.int .i64 y] 3)) :=
  wpList_push_r (W0 := W) hgd s x ho lo v xs y hs hx hF (Below.refl _ _) hlo m hm hl (xs ++ [y]) (hid rfl) fun g c w' h1 h2 =>
    h g c w' h1 (hd.below h2) (hC.low (h2.mono hb)) (Nat.le_trans hlo h2.size)
theorem FInts.tch {w w' : World} {lo b : Nat} {v : Value} {xs : List Int} (h : FInts w lo w.heap.size v xs) (ht : Touch b (b + 1) w w') (hb : b < lo) : FInts w' lo w'.heap.size v xs :=
  (h.same (.of_touch ht (.inr hb))).mono (Nat.le_refl _) ht.size
theorem FInts.grw {w w' : World} {lo : Nat} {v : Value} {xs : List Int} (h : FInts w lo w.heap.size v xs) (hb : Below w.heap.size w w') : FInts w' lo w'.heap.size v xs :=
  (h.keep hb).mono (Nat.le_refl _) hb.size

/-- drawn numbers -/
def RetNumsL (b k lo : Nat) (w : World) (e : Ending) (w' : World) : Prop := ∃ (v : Value) (xs : List Int), e = .returned v ∧ xs.length ≤ 20 ∧ FInts w' lo w'.heap.size v xs ∧ Cur w' b k ∧ Dr b lo w w'
def RetNums (b k : Nat) (w : World) : Ending → World → Prop := RetNumsL b k w.heap.size w
theorem retNums_mk {b k lo : Nat} {w w' : World} {v : Value} (xs : List Int) (h1 : xs.length ≤ 20) (h2 : FInts w' lo w'.heap.size v xs) (h3 : Cur w' b k) (h4 : Dr b lo w w') : RetNumsL b k lo w (.returned v) w' := ⟨v, xs, rfl, h1, h2, h3, h4⟩

set_option maxRecDepth 100000 in
set_option maxHeartbeats 4000000 in
theorem vertices_c (b k : Nat) (n : Int) (w : World) (h : Cur w b k) (hk : k ≤ 800000000000) (hn : n ≤ 12) :
    Calls Try.prog 118 #[.pointer (some ⟨b, 0, none⟩), .int .i64 n] w (RetNums b (k + 100) w) := by
  have HH := hid h
  have hlt0 := h.lt
  obtain ⟨lo, hlo⟩ : ∃ lo, w.heap.size = lo := ⟨_, rfl⟩
  have HLO := hid hlo
  rw [hlo] at hlt0
  have HS0 : Hid (lo ≤ w.heap.size) := Nat.le_of_eq hlo.symm
  clear h hlo
  show Calls _ _ _ _ (RetNumsL b (k + 100) w.heap.size w)
  rw [HLO.out]
  go_enter Try.func118, Try.ntmps118
  go_wp2
  go_loopg [5, 6] 13 (fun gk out iv wr => ∃ (i : Nat) (a : Option Addr) (p c : Nat) (xs : List Int) (s : Nat), out = .slice a p c ∧ iv = .int .i64 i ∧ i ≤ 12 ∧ gk = 13 - i ∧ xs.length = p ∧ p ≤ i ∧ s ≤ k + 4 * i ∧ FInts wr lo wr.heap.size (.slice a p c) xs ∧ Cur wr b s ∧ Dr b lo w wr ∧ lo ≤ wr.heap.size)
  case atStart => exact ⟨0, none, 0, 0, [], k, rfl, rfl, by omega, rfl, rfl, by omega, by omega, ints_nil _ _ _, HH.out, Dr.refl _ _ _, HS0.out⟩
  case round =>
    obtain ⟨i, a3, p, c3, xs, s, rfl, rfl, hi, rfl, hlk, hp, hs, hF, hc, hd, hsz⟩ := hrel
    have HF := hid hF
    have HC := hid hc
    have HD := hid hd
    have HS := hid hsz
    have HLK := hid hlk
    clear hF hc hd hsz hlk
    by_cases hlt : (i : Int) < n
    · go_wp2_with fail
      refine (one_c b s 2 _ HC.out (by omega) (by omega)).mono ?_
      rintro e w1 ⟨x, rfl, hc1, ht1⟩
      have HC1 := hid hc1
      have HD1 := hid (HD.out.touch HS0.out ht1)
      have HF1 := hid (HF.out.tch ht1 hlt0)
      have HS1 : Hid (lo ≤ w1.heap.size) := Nat.le_trans HS.out ht1.size
      clear hc1 ht1
      cases x
      · go_wp2
        go_roundg (13 - (i + 1))
        case rel => exact ⟨i + 1, _, p, _, xs, _, rfl, by go_num, by omega, by omega, HLK.out, by omega, by omega, HF1.out, HC1.out, HD1.out, HS1.out⟩
        case measure => omega
      · go_wp2_with (at_builtin; (refine wpList_push_dr (W0 := w) rfl _ _ rfl b (k := s + 2) lo (.slice a3 p c3) xs (i : Int) rfl rfl HF1.out HD1.out HC1.out hlt0 HS1.out p HLK ?_ ?_))
        · omega
        intro g7 c7 w7 hF7 hd7 hc7 hs7
        have HF7 := hid hF7; have HD7 := hid hd7; have HC7 := hid hc7; have HS7 := hid hs7
        clear hF7 hd7 hc7 hs7
        go_wp2
        go_roundg (13 - (i + 1))
        case rel => exact ⟨i + 1, _, p + 1, _, xs ++ [(i : Int)], _, rfl, by go_num, by omega, by omega, by rw [List.length_append, HLK.out]; rfl, by omega, by omega, HF7.out, HC7.out, HD7.out, HS7.out⟩
        case measure => omega
    · go_wp2_with fail
      refine (one_c b s 16 _ HC.out (by omega) (by omega)).mono ?_
      rintro e w1 ⟨x, rfl, hc1, ht1⟩
      have HC1 := hid hc1
      have HD1 := hid (HD.out.touch HS0.out ht1)
      have HF1 := hid (HF.out.tch ht1 hlt0)
      have HS1 : Hid (lo ≤ w1.heap.size) := Nat.le_trans HS.out ht1.size
      clear hc1 ht1
      cases x
      · go_wp2
        go_ret
        exact retNums_mk xs (by rw [HLK.out]; omega) HF1.out (HC1.out.more (by omega)) HD1.out
      · have HLT := hid (ints_lit w1 w1.heap.size (Nat.le_refl _) [n, 0, -1] (by simp)).r
        have HAL : Hid (Below w1.heap.size w1 _) := (Below.refl w1.heap.size w1).alloc (Nat.le_refl _) (.cells ([n, 0, -1].map (.int .i64 ·)).toArray 3)
        go_wp2_with fail
        refine (among_c b (s + 2) _ [n, 0, -1] _ (HC1.out.keep HAL.out) (by omega) HLT.out (by simp) (by simp) (fun p hp => by simp [Value.ownBlock] at hp; have := HS1.out; omega)).mono ?_
        rintro e w8 ⟨x8, rfl, _, hc8, ht8⟩
        have HC8 := hid hc8
        have HD8 := hid ((HD1.out.below (HAL.out.mono HS1.out)).touch HS0.out ht8)
        have HF8 := hid ((HF1.out.grw HAL.out).tch ht8 hlt0)
        have HS8 : Hid (lo ≤ w8.heap.size) := Nat.le_trans (Nat.le_trans HS1.out HAL.out.size) ht8.size
        clear hc8 ht8
        go_wp2_with (at_builtin; (refine wpList_push_dr (W0 := w) rfl _ _ rfl b (k := s + 4) lo (.slice a3 p c3) xs x8 rfl rfl HF8.out HD8.out HC8.out hlt0 HS8.out p HLK ?_ ?_))
        · omega
        intro g7 c7 w7 hF7 hd7 hc7 hs7
        have HF7 := hid hF7; have HD7 := hid hd7; have HC7 := hid hc7
        clear hF7 hd7 hc7 hs7
        go_wp2
        go_ret
        exact retNums_mk (xs ++ [x8]) (by rw [List.length_append, HLK.out]; simp; omega) HF7.out (HC7.out.more (by omega)) HD7.out

/-! more -/

set_option maxRecDepth 100000 in
set_option maxHeartbeats 4000000 in
theorem chipsD_c (b k : Nat) (n : Int) (w : World) (h : Cur w b k) (hk : k ≤ 800000000000) (hn : n ≤ 12) :
    Calls Try.prog 102 #[.pointer (some ⟨b, 0, none⟩), .int .i64 n] w (RetNums b (k + 100) w) := by
  have HH := hid h
  have hlt0 := h.lt
  obtain ⟨lo, hlo⟩ : ∃ lo, w.heap.size = lo := ⟨_, rfl⟩
  have HLO := hid hlo
  rw [hlo] at hlt0
  have HS0 : Hid (lo ≤ w.heap.size) := Nat.le_of_eq hlo.symm
  clear h hlo
  show Calls _ _ _ _ (RetNumsL b (k + 100) w.heap.size w)
  rw [HLO.out]
  go_enter Try.func102, Try.ntmps102
  go_wp2
  go_loopg [5] 14 (fun gk out wr => ∃ (a : Option Addr) (p c : Nat) (xs : List Int) (s : Nat), out = .slice a p c ∧ p ≤ 13 ∧ gk = 14 - p ∧ xs.length = p ∧ s ≤ k + 10 + 4 * p ∧ FInts wr lo wr.heap.size (.slice a p c) xs ∧ Cur wr b s ∧ Dr b lo w wr ∧ lo ≤ wr.heap.size)
  case atStart => exact ⟨none, 0, 0, [], k, rfl, by omega, rfl, rfl, by omega, ints_nil _ _ _, HH.out, Dr.refl _ _ _, HS0.out⟩
  case round =>
    obtain ⟨w1, rfl⟩ : ∃ w' : World, w' = wr := ⟨_, rfl⟩
    obtain ⟨a3, p, c3, xs, s, rfl, hp, rfl, hlk, hs, hF, hc, hd, hsz⟩ := hrel
    have HF1 := hid hF
    have HC1 := hid hc
    have HD1 := hid hd
    have HS1 := hid hsz
    have HLK := hid hlk
    clear hF hc hd hsz hlk
    by_cases hlt : (p : Int) < n
    · go_wp2_with fail
      refine (pick_c b (s) 7 _ HC1.out (by omega) (by omega)).mono ?_
      rintro e w2 ⟨y, rfl, ⟨hy1, hy2⟩, hc2, ht2⟩
      have HC2 := hid hc2
      have HD2 := hid (HD1.out.touch HS0.out ht2)
      have HF2 := hid (HF1.out.tch ht2 hlt0)
      have HS2 : Hid (lo ≤ w2.heap.size) := Nat.le_trans HS1.out ht2.size
      clear hc2 ht2
      have f1 : IntKind.i64.wrap (y - 2) = y - 2 := IntWalk.i64_in _ (by omega)
      go_wp2_with (at_builtin; (refine wpList_push_dr (W0 := w) rfl _ _ rfl b (k := s + 2) lo (.slice a3 p c3) xs (y - 2) rfl rfl HF2.out HD2.out HC2.out hlt0 HS2.out p HLK ?_ ?_))
      · omega
      intro g7 c7 w7 hF7 hd7 hc7 hs7
      have HF7 := hid hF7; have HD7 := hid hd7; have HC7 := hid hc7; have HS7 := hid hs7
      clear hF7 hd7 hc7 hs7
      go_wp2
      go_roundg (14 - (p + 1))
      case rel => exact ⟨_, p + 1, _, xs ++ [y - 2], _, rfl, by omega, by omega, by rw [List.length_append, HLK.out]; rfl, by omega, HF7.out, HC7.out, HD7.out, HS7.out⟩
      case measure => omega
    · go_wp2_with fail
      refine (pick_c b (s) 30 _ HC1.out (by omega) (by omega)).mono ?_
      rintro e w2 ⟨x, rfl, ⟨hx1, hx2⟩, hc2, ht2⟩
      have HC2 := hid hc2
      have HD2 := hid (HD1.out.touch HS0.out ht2)
      have HF2 := hid (HF1.out.tch ht2 hlt0)
      have HS2 : Hid (lo ≤ w2.heap.size) := Nat.le_trans HS1.out ht2.size
      clear hc2 ht2
      rcases Bool.eq_false_or_eq_true (x == 0) with t0 | t0
      · go_wp2_with (at_builtin; (refine wpList_push_dr (W0 := w) rfl _ _ rfl b (k := s + 2) lo (.slice a3 p c3) xs 0 rfl rfl HF2.out HD2.out HC2.out hlt0 HS2.out p HLK ?_ ?_))
        · omega
        intro g7 c7 w7 hF7 hd7 hc7 hs7
        have HF7 := hid hF7; have HD7 := hid hd7; have HC7 := hid hc7; have HS7 := hid hs7
        clear hF7 hd7 hc7 hs7
        go_wp2
        go_ret
        exact retNums_mk (xs ++ [0]) (by rw [List.length_append, HLK.out]; simp; omega) HF7.out (HC7.out.more (by omega)) HD7.out
      · rcases Bool.eq_false_or_eq_true (x == 1) with t1 | t1
        · by_cases hp0 : (p : Int) > 0
          · go_wp2_with fail
            refine (pick_c b (s + 2) p _ HC2.out (by omega) (by omega)).mono ?_
            rintro e w3 ⟨y, rfl, ⟨hy1, hy2⟩, hc3, ht3⟩
            have HC3 := hid hc3
            have HD3 := hid (HD2.out.touch HS0.out ht3)
            have HF3 := hid (HF2.out.tch ht3 hlt0)
            have HS3 : Hid (lo ≤ w3.heap.size) := Nat.le_trans HS2.out ht3.size
            clear hc3 ht3
            obtain ⟨i, rfl⟩ : ∃ i : Nat, y = i := ⟨y.toNat, by omega⟩
            have hi : i < p := by omega
            have hiz : (i : Int) < (p : Int) := by omega
            have HLT := hid (ints_lit w3 w3.heap.size (Nat.le_refl _) [1000, -1000, 1001, -1001, -9223372036854775808] (by simp)).r
            have HAL : Hid (Below w3.heap.size w3 _) := (Below.refl w3.heap.size w3).alloc (Nat.le_refl _) (.cells ([1000, -1000, 1001, -1001, -9223372036854775808].map (.int .i64 ·)).toArray 3)
            go_wp2_with fail
            refine (among_c b (s + 4) _ [1000, -1000, 1001, -1001, -9223372036854775808] _ (HC3.out.keep HAL.out) (by omega) HLT.out (by simp) (by simp) (fun p hp => by simp [Value.ownBlock] at hp; have := HS3.out; omega)).mono ?_
            rintro e w8 ⟨x8, rfl, _, hc8, ht8⟩
            have HC8 := hid hc8
            have HD8 := hid ((HD3.out.below (HAL.out.mono HS3.out)).touch HS0.out ht8)
            have HF8 := hid ((HF3.out.grw HAL.out).tch ht8 hlt0)
            have HS8 : Hid (lo ≤ w8.heap.size) := Nat.le_trans (Nat.le_trans HS3.out HAL.out.size) ht8.size
            clear hc8 ht8
            obtain ⟨g, z, rfl, hg1, hg2, hcl, hfr, _⟩ := HF8.out.at (i := i) (by have := HLK.out; omega)
            have hst := HF8.out.set i x8
            have hbl : Below lo w8 (w8.setCell ⟨g, i, none⟩ (.int .i64 x8)) := (Below.refl _ _).setCell hg1 _
            have HD9 := hid (HD8.out.below hbl)
            have HC9 := hid (HC8.out.low (hbl.mono hlt0))
            have HF9 := hid (hst.1.mono (Nat.le_refl _) (Nat.le_of_eq hst.2.2.symm))
            have HS9 : Hid (lo ≤ (w8.setCell ⟨g, i, none⟩ (.int .i64 x8)).heap.size) := Nat.le_trans HS8.out hbl.size
            clear hst hbl
            go_wp2
            go_ret
            exact retNums_mk (xs.set i x8) (by rw [List.length_set, HLK.out]; omega) HF9.out (HC9.out.more (by omega)) HD9.out
          · go_wp2
            go_ret
            exact retNums_mk (xs) (by rw [HLK.out]; omega) HF2.out (HC2.out.more (by omega)) HD2.out
        · go_wp2
          go_ret
          exact retNums_mk (xs) (by rw [HLK.out]; omega) HF2.out (HC2.out.more (by omega)) HD2.out

set_option maxRecDepth 100000 in
set_option maxHeartbeats 4000000 in
theorem smallChips_c (b k : Nat) (n : Int) (w : World) (h : Cur w b k) (hk : k ≤ 800000000000) (hn : n ≤ 12) :
    Calls Try.prog 154 #[.pointer (some ⟨b, 0, none⟩), .int .i64 n] w (RetNums b (k + 100) w) := by
  have HH := hid h
  have hlt0 := h.lt
  obtain ⟨lo, hlo⟩ : ∃ lo, w.heap.size = lo := ⟨_, rfl⟩
  have HLO := hid hlo
  rw [hlo] at hlt0
  have HS0 : Hid (lo ≤ w.heap.size) := Nat.le_of_eq hlo.symm
  clear h hlo
  show Calls _ _ _ _ (RetNumsL b (k + 100) w.heap.size w)
  rw [HLO.out]
  go_enter Try.func154, Try.ntmps154
  go_wp2
  go_loopg [5] 14 (fun gk out wr => ∃ (a : Option Addr) (p c : Nat) (xs : List Int) (s : Nat), out = .slice a p c ∧ p ≤ 13 ∧ gk = 14 - p ∧ xs.length = p ∧ s ≤ k + 10 + 4 * p ∧ FInts wr lo wr.heap.size (.slice a p c) xs ∧ Cur wr b s ∧ Dr b lo w wr ∧ lo ≤ wr.heap.size)
  case atStart => exact ⟨none, 0, 0, [], k, rfl, by omega, rfl, rfl, by omega, ints_nil _ _ _, HH.out, Dr.refl _ _ _, HS0.out⟩
  case round =>
    obtain ⟨w1, rfl⟩ : ∃ w' : World, w' = wr := ⟨_, rfl⟩
    obtain ⟨a3, p, c3, xs, s, rfl, hp, rfl, hlk, hs, hF, hc, hd, hsz⟩ := hrel
    have HF1 := hid hF
    have HC1 := hid hc
    have HD1 := hid hd
    have HS1 := hid hsz
    have HLK := hid hlk
    clear hF hc hd hsz hlk
    by_cases hlt : (p : Int) < n
    · by_cases h10 : (p : Int) < 10
      · have HLT := hid (ints_lit w1 w1.heap.size (Nat.le_refl _) [0, 0, 1, 1, 2, -1] (by simp)).r
        have HAL : Hid (Below w1.heap.size w1 _) := (Below.refl w1.heap.size w1).alloc (Nat.le_refl _) (.cells ([0, 0, 1, 1, 2, -1].map (.int .i64 ·)).toArray 3)
        go_wp2_with fail
        refine (among_c b (s) _ [0, 0, 1, 1, 2, -1] _ (HC1.out.keep HAL.out) (by omega) HLT.out (by simp) (by simp) (fun p hp => by simp [Value.ownBlock] at hp; have := HS1.out; omega)).mono ?_
        rintro e w2 ⟨x2, rfl, _, hc2, ht2⟩
        have HC2 := hid hc2
        have HD2 := hid ((HD1.out.below (HAL.out.mono HS1.out)).touch HS0.out ht2)
        have HF2 := hid ((HF1.out.grw HAL.out).tch ht2 hlt0)
        have HS2 : Hid (lo ≤ w2.heap.size) := Nat.le_trans (Nat.le_trans HS1.out HAL.out.size) ht2.size
        clear hc2 ht2
        go_wp2_with (at_builtin; (refine wpList_push_dr (W0 := w) rfl _ _ rfl b (k := s + 2) lo (.slice a3 p c3) xs x2 rfl rfl HF2.out HD2.out HC2.out hlt0 HS2.out p HLK ?_ ?_))
        · omega
        intro g7 c7 w7 hF7 hd7 hc7 hs7
        have HF7 := hid hF7; have HD7 := hid hd7; have HC7 := hid hc7; have HS7 := hid hs7
        clear hF7 hd7 hc7 hs7
        go_wp2
        go_roundg (14 - (p + 1))
        case rel => exact ⟨_, p + 1, _, xs ++ [x2], _, rfl, by omega, by omega, by rw [List.length_append, HLK.out]; rfl, by omega, HF7.out, HC7.out, HD7.out, HS7.out⟩
        case measure => omega
      · go_wp2_with fail
        refine (pick_c b (s) 24 _ HC1.out (by omega) (by omega)).mono ?_
        rintro e w2 ⟨x, rfl, ⟨hx1, hx2⟩, hc2, ht2⟩
        have HC2 := hid hc2
        have HD2 := hid (HD1.out.touch HS0.out ht2)
        have HF2 := hid (HF1.out.tch ht2 hlt0)
        have HS2 : Hid (lo ≤ w2.heap.size) := Nat.le_trans HS1.out ht2.size
        clear hc2 ht2
        rcases Bool.eq_false_or_eq_true (x == 0) with t0 | t0
        · by_cases hn0 : n > 0
          · by_cases hp0 : (p : Int) > 0
            · have hi : 0 < p := by omega
              have HLT := hid (ints_lit w2 w2.heap.size (Nat.le_refl _) [8, -8, 9, -9] (by simp)).r
              have HAL : Hid (Below w2.heap.size w2 _) := (Below.refl w2.heap.size w2).alloc (Nat.le_refl _) (.cells ([8, -8, 9, -9].map (.int .i64 ·)).toArray 3)
              go_wp2_with fail
              refine (among_c b (s + 2) _ [8, -8, 9, -9] _ (HC2.out.keep HAL.out) (by omega) HLT.out (by simp) (by simp) (fun p hp => by simp [Value.ownBlock] at hp; have := HS2.out; omega)).mono ?_
              rintro e w8 ⟨x8, rfl, _, hc8, ht8⟩
              have HC8 := hid hc8
              have HD8 := hid ((HD2.out.below (HAL.out.mono HS2.out)).touch HS0.out ht8)
              have HF8 := hid ((HF2.out.grw HAL.out).tch ht8 hlt0)
              have HS8 : Hid (lo ≤ w8.heap.size) := Nat.le_trans (Nat.le_trans HS2.out HAL.out.size) ht8.size
              clear hc8 ht8
              obtain ⟨g, z, rfl, hg1, hg2, hcl, hfr, _⟩ := HF8.out.at (i := 0) (by have := HLK.out; omega)
              have hst := HF8.out.set 0 x8
              have hbl : Below lo w8 (w8.setCell ⟨g, 0, none⟩ (.int .i64 x8)) := (Below.refl _ _).setCell hg1 _
              have HD9 := hid (HD8.out.below hbl)
              have HC9 := hid (HC8.out.low (hbl.mono hlt0))
              have HF9 := hid (hst.1.mono (Nat.le_refl _) (Nat.le_of_eq hst.2.2.symm))
              have HS9 : Hid (lo ≤ (w8.setCell ⟨g, 0, none⟩ (.int .i64 x8)).heap.size) := Nat.le_trans HS8.out hbl.size
              clear hst hbl
              go_wp2
              go_ret
              exact retNums_mk (xs.set 0 x8) (by rw [List.length_set, HLK.out]; omega) HF9.out (HC9.out.more (by omega)) HD9.out
            · exfalso; omega
          · exfalso; omega
        · rcases Bool.eq_false_or_eq_true (x == 1) with t1 | t1
          · go_wp2_with (at_builtin; (refine wpList_push_dr (W0 := w) rfl _ _ rfl b (k := s + 2) lo (.slice a3 p c3) xs 0 rfl rfl HF2.out HD2.out HC2.out hlt0 HS2.out p HLK ?_ ?_))
            · omega
            intro g7 c7 w7 hF7 hd7 hc7 hs7
            have HF7 := hid hF7; have HD7 := hid hd7; have HC7 := hid hc7; have HS7 := hid hs7
            clear hF7 hd7 hc7 hs7
            go_wp2
            go_ret
            exact retNums_mk (xs ++ [0]) (by rw [List.length_append, HLK.out]; simp; omega) HF7.out (HC7.out.more (by omega)) HD7.out
          · go_wp2
            go_ret
            exact retNums_mk (xs) (by rw [HLK.out]; omega) HF2.out (HC2.out.more (by omega)) HD2.out
    · go_wp2_with fail
      refine (pick_c b (s) 24 _ HC1.out (by omega) (by omega)).mono ?_
      rintro e w2 ⟨x, rfl, ⟨hx1, hx2⟩, hc2, ht2⟩
      have HC2 := hid hc2
      have HD2 := hid (HD1.out.touch HS0.out ht2)
      have HF2 := hid (HF1.out.tch ht2 hlt0)
      have HS2 : Hid (lo ≤ w2.heap.size) := Nat.le_trans HS1.out ht2.size
      clear hc2 ht2
      rcases Bool.eq_false_or_eq_true (x == 0) with t0 | t0
      · by_cases hn0 : n > 0
        · by_cases hp0 : (p : Int) > 0
          · have hi : 0 < p := by omega
            have HLT := hid (ints_lit w2 w2.heap.size (Nat.le_refl _) [8, -8, 9, -9] (by simp)).r
            have HAL : Hid (Below w2.heap.size w2 _) := (Below.refl w2.heap.size w2).alloc (Nat.le_refl _) (.cells ([8, -8, 9, -9].map (.int .i64 ·)).toArray 3)
            go_wp2_with fail
            refine (among_c b (s + 2) _ [8, -8, 9, -9] _ (HC2.out.keep HAL.out) (by omega) HLT.out (by simp) (by simp) (fun p hp => by simp [Value.ownBlock] at hp; have := HS2.out; omega)).mono ?_
            rintro e w8 ⟨x8, rfl, _, hc8, ht8⟩
            have HC8 := hid hc8
            have HD8 := hid ((HD2.out.below (HAL.out.mono HS2.out)).touch HS0.out ht8)
            have HF8 := hid ((HF2.out.grw HAL.out).tch ht8 hlt0)
            have HS8 : Hid (lo ≤ w8.heap.size) := Nat.le_trans (Nat.le_trans HS2.out HAL.out.size) ht8.size
            clear hc8 ht8
            obtain ⟨g, z, rfl, hg1, hg2, hcl, hfr, _⟩ := HF8.out.at (i := 0) (by have := HLK.out; omega)
            have hst := HF8.out.set 0 x8
            have hbl : Below lo w8 (w8.setCell ⟨g, 0, none⟩ (.int .i64 x8)) := (Below.refl _ _).setCell hg1 _
            have HD9 := hid (HD8.out.below hbl)
            have HC9 := hid (HC8.out.low (hbl.mono hlt0))
            have HF9 := hid (hst.1.mono (Nat.le_refl _) (Nat.le_of_eq hst.2.2.symm))
            have HS9 : Hid (lo ≤ (w8.setCell ⟨g, 0, none⟩ (.int .i64 x8)).heap.size) := Nat.le_trans HS8.out hbl.size
            clear hst hbl
            go_wp2
            go_ret
            exact retNums_mk (xs.set 0 x8) (by rw [List.length_set, HLK.out]; omega) HF9.out (HC9.out.more (by omega)) HD9.out
          · exfalso; omega
        · go_wp2
          go_ret
          exact retNums_mk (xs) (by rw [HLK.out]; omega) HF2.out (HC2.out.more (by omega)) HD2.out
      · rcases Bool.eq_false_or_eq_true (x == 1) with t1 | t1
        · go_wp2_with (at_builtin; (refine wpList_push_dr (W0 := w) rfl _ _ rfl b (k := s + 2) lo (.slice a3 p c3) xs 0 rfl rfl HF2.out HD2.out HC2.out hlt0 HS2.out p HLK ?_ ?_))
          · omega
          intro g7 c7 w7 hF7 hd7 hc7 hs7
          have HF7 := hid hF7; have HD7 := hid hd7; have HC7 := hid hc7; have HS7 := hid hs7
          clear hF7 hd7 hc7 hs7
          go_wp2
          go_ret
          exact retNums_mk (xs ++ [0]) (by rw [List.length_append, HLK.out]; simp; omega) HF7.out (HC7.out.more (by omega)) HD7.out
        · go_wp2
          go_ret
          exact retNums_mk (xs) (by rw [HLK.out]; omega) HF2.out (HC2.out.more (by omega)) HD2.out

end Go.Proofs.Ytlehhfmbdcmpoaa
