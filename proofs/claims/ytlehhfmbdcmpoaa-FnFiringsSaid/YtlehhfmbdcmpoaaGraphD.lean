/- Drawn graphs: graph, anyGraph. -/
import Derived.Test.YtlehhfmbdcmpoaaOLinks
import Derived.Test.YtlehhfmbdcmpoaaPush
namespace Go.Proofs.Ytlehhfmbdcmpoaa
open Go.RowKit
open Go.Lib (hid)

/-- only the cursor's block and what is new from lo on is written -/
structure Dr (b lo : Nat) (w w' : World) : Prop where
  os : w'.os = w.os
  tape : w'.tape = w.tape
  output : w'.output = w.output
  size : w.heap.size ≤ w'.heap.size
  block : ∀ c, c < lo → c ≠ b → w'.heap[c]? = w.heap[c]?
theorem Dr.refl (b lo : Nat) (w : World) : Dr b lo w w := ⟨rfl, rfl, rfl, Nat.le_refl _, fun _ _ _ => rfl⟩
theorem Dr.trans {b lo : Nat} {w w1 w2 : World} (h : Dr b lo w w1) (k : Dr b lo w1 w2) : Dr b lo w w2 :=
  ⟨k.os.trans h.os, k.tape.trans h.tape, k.output.trans h.output, Nat.le_trans h.size k.size, fun c h1 h2 => (k.block c h1 h2).trans (h.block c h1 h2)⟩
theorem Dr.low {b lo lo' : Nat} {w w' : World} (h : Dr b lo w w') (hl : lo' ≤ lo) : Dr b lo' w w' := ⟨h.os, h.tape, h.output, h.size, fun c h1 h2 => h.block c (by omega) h2⟩
theorem Dr.touch {b lo : Nat} {a w w' : World} (h : Dr b lo a w) (hlo : lo ≤ a.heap.size) (k : Touch b (b + 1) w w') : Dr b lo a w' :=
  h.trans ⟨k.os, k.tape, k.output, k.size, fun c h1 h2 => k.block c (by have := h.size; omega) (by omega)⟩
theorem Dr.below {b lo : Nat} {a w w' : World} (h : Dr b lo a w) (k : Below lo w w') : Dr b lo a w' :=
  h.trans ⟨k.os, k.tape, k.output, k.size, fun c h1 _ => k.block c h1⟩
theorem Cur.low {w w' : World} {b k : Nat} (h : Cur w b k) (hb : Below (b + 1) w w') : Cur w' b k := by
  obtain ⟨a, n, cap, at_, sd, h1, h2, h3, h4, h5, h6, h7, h8, h9⟩ := h
  refine ⟨a, n, cap, at_, sd, (hb.block _ (by omega)).trans h1, h2, h3, h4, h5, h6, h7, h8, fun i hi => ?_⟩
  obtain ⟨g, o, x, ha, hg, hc, hx⟩ := h9 i hi
  exact ⟨g, o, x, ha, hg, (hb.cell (p := ⟨g, o + i, none⟩) (show g < b + 1 by omega)).trans hc, hx⟩

theorem wpList_push_link {W0 W : World} {ops : Array Oper} {rest : List Oper} {o : Oper} {a : Act} {Q : Exit → Act → World → Prop} (hgd : o.guard = none) (s x : Operand)
    (ho : o.op = .call { callee := .builtin .append, args := #[s, x], argTypes := #[27, 27] }) (b k lo : Nat) (v : Value) (L : List Lnk) (p q r : Int) (hs : a.eval s = v) (hx : a.eval x = .slice (some ⟨W.heap.size, 0, none⟩) 1 1)
    (hO : OLinks W lo v L) (hd : Dr b lo W0 W) (hC : Cur W b k) (hb : b < lo) (hlo : lo ≤ W.heap.size) (hl : L.length < 1048576)
    (h : ∀ v' w', OLinks w' lo v' (L ++ [⟨p, q, r⟩]) → Dr b lo W0 w' → Cur w' b k → lo ≤ w'.heap.size → wpList Try.prog ops Q rest (a.put o.dst v') w') :
    wpList Try.prog ops Q (o :: rest) a (W.alloc (.cells #[.int .i64 p, .int .i64 q, .int .i64 r] 78)) := by
  have hal : Below W.heap.size W (W.alloc (.cells #[.int .i64 p, .int .i64 q, .int .i64 r] 78)) := (Below.refl _ _).alloc (Nat.le_refl _) _
  have hrow := heap_alloc_new W (.cells #[.int .i64 p, .int .i64 q, .int .i64 r] 78)
  have hO1 := hO.keep hal
  refine wpList_append_links hgd s x ho lo v L W.heap.size 1 p q r hs hx hO1 (by rw [cell_of_row _ _ _ _ _ _ hrow]; rfl) (by rw [cell_of_row _ _ _ _ _ _ hrow]; rfl) (by rw [cell_of_row _ _ _ _ _ _ hrow]; rfl) (by omega) (by have := hal.size; omega) ?_
  intro v' w' h1 h2
  have hbl := hO1.below (hal.mono hlo) h2 (Nat.le_refl _) (by have := hal.size; omega)
  exact h v' w' h1 (hd.below hbl) (hC.low (hbl.mono (by omega))) (Nat.le_trans hlo hbl.size)

/-- a drawn graph -/
def RetGraph (b k : Nat) (w : World) (e : Ending) (w' : World) : Prop := ∃ (n : Int) (v : Value) (L : List Lnk), e = .returned (.tuple #[.int .i64 n, v]) ∧ -1 ≤ n ∧ n ≤ 9 ∧ L.length ≤ 101 ∧ OLinks w' w.heap.size v L ∧ Cur w' b k ∧ Dr b w.heap.size w w'
/-- a drawn graph, valid by its making -/
def RetGraph0 (b k : Nat) (w : World) (e : Ending) (w' : World) : Prop := ∃ (n : Int) (v : Value) (L : List Lnk), e = .returned (.tuple #[.int .i64 n, v]) ∧ 1 ≤ n ∧ n ≤ 8 ∧ L.length ≤ 100 ∧ OLinks w' w.heap.size v L ∧ Cur w' b k ∧ Dr b w.heap.size w w'

set_option maxRecDepth 100000 in
set_option maxHeartbeats 4000000 in
theorem graph_c (b k : Nat) (w : World) (h : Cur w b k) (hk : k ≤ 900000000000) :
    Calls Try.prog 172 #[.pointer (some ⟨b, 0, none⟩)] w (RetGraph0 b (k + 1000) w) := by
  have HH := hid h
  have hlt0 := h.lt
  obtain ⟨lo, hlo⟩ : ∃ lo, w.heap.size = lo := ⟨_, rfl⟩
  have HLO := hid hlo
  rw [hlo] at hlt0
  clear h hlo
  unfold RetGraph0
  rw [HLO.out]
  go_enter Try.func172, Try.ntmps172
  go_wp2_with fail
  refine (pick_c b k 5 _ HH.out (by omega) (by omega)).mono ?_
  rintro e w1 ⟨n0, rfl, ⟨hn1, hn2⟩, hc1, ht1⟩
  have HC1 := hid hc1
  have HT1 := hid ((Dr.refl b lo w).touch (Nat.le_of_eq HLO.out.symm) ht1)
  clear hc1 ht1
  have f1 : IntKind.i64.wrap (1 + n0) = 1 + n0 := IntWalk.i64_in _ (by omega)
  go_wp2_with fail
  refine (one_c b (k + 2) 16 _ HC1.out (by omega) (by omega)).mono ?_
  rintro e w2 ⟨x, rfl, hc2, ht2⟩
  have HC2 := hid hc2
  have HT2 := hid (HT1.out.touch (Nat.le_of_eq HLO.out.symm) ht2)
  clear hc2 ht2
  cases x
  case' false => obtain ⟨m, hm, hm1, hm8⟩ : ∃ m : Nat, 1 + n0 = m ∧ 1 ≤ m ∧ m ≤ 8 := ⟨(1 + n0).toNat, by omega, by omega, by omega⟩
  case' true => obtain ⟨m, hm, hm1, hm8⟩ : ∃ m : Nat, (8 : Int) = m ∧ 1 ≤ m ∧ m ≤ 8 := ⟨8, rfl, by omega, by omega⟩
  all_goals
    go_wp2_with fail
    refine (pick_c b (k + 4) 3 _ HC2.out (by omega) (by omega)).mono ?_
    rintro e w3 ⟨y, rfl, ⟨hy1, hy2⟩, hc3, ht3⟩
    have HC3 := hid hc3
    have HT3 := hid (HT2.out.touch (Nat.le_of_eq HLO.out.symm) ht3)
    have HS3 : Hid (lo ≤ w3.heap.size) := by have := HT3.out.size; have := HLO.out; show _ ≤ _; omega
    clear hc3 ht3
    have f2 : IntKind.i64.wrap (1 + y) = 1 + y := IntWalk.i64_in _ (by omega)
    have f3 : IntKind.i64.wrap (1 + y + 1) = 1 + y + 1 := IntWalk.i64_in _ (by omega)
    go_wp2
    clear hm
    go_loopg [6, 7] m (fun gk lv iv wr => ∃ (i : Nat) (L : List Lnk) (s : Nat), iv = .int .i64 i ∧ i ≤ m ∧ gk = m - i ∧ Cur wr b s ∧ s ≤ k + 10 + i * 80 ∧ OLinks wr lo lv L ∧ L.length ≤ i * 8 ∧ Dr b lo w wr ∧ lo ≤ wr.heap.size)
    case atStart => exact ⟨0, [], _, rfl, by omega, rfl, HC3.out, by omega, olinks_nil _ _, by simp, HT3.out, HS3.out⟩
    case round =>
      obtain ⟨i, L0, s, rfl, hi, rfl, hc, hs, hO, hl, hd, hsz⟩ := hrel
      have HC4 := hid hc
      have HO4 := hid hO
      have HT4 := hid hd
      have HS4 := hid hsz
      clear hc hO hd hsz
      by_cases hlt : i < m
      · have hltz : (i : Int) < (m : Int) := by omega
        have f4 : IntKind.i64.wrap ((i : Int) + 1) = (i : Int) + 1 := IntWalk.i64_in _ (by omega)
        go_wp2
        go_loopg [6, 8] (m - (i + 1)) (fun gk lv jv wr => ∃ (j : Nat) (L : List Lnk) (q : Nat), jv = .int .i64 j ∧ j ≤ m ∧ i < j ∧ gk = m - j ∧ Cur wr b q ∧ q ≤ k + 10 + i * 80 + j * 8 ∧ OLinks wr lo lv L ∧ L.length ≤ i * 8 + (j - i - 1) ∧ Dr b lo w wr ∧ lo ≤ wr.heap.size)
        case atStart => exact ⟨i + 1, L0, s, by go_num, by omega, by omega, by omega, HC4.out, by omega, HO4.out, by omega, HT4.out, HS4.out⟩
        case round =>
          obtain ⟨j, L, q, rfl, hj, hij, rfl, hc, hq, hO, hl5, hd, hsz⟩ := hrel
          have HC5 := hid hc
          have HO5 := hid hO
          have HT5 := hid hd
          have HS5 := hid hsz
          clear hc hO hd hsz
          by_cases hltj : j < m
          · have hltzj : (j : Int) < (m : Int) := by omega
            rcases Bool.eq_false_or_eq_true ((j : Int) == (i : Int) + 1) with tb | tb
            · go_wp2_with fail
              refine (one_c b (q) 12 _ HC5.out (by omega) (by omega)).mono ?_
              rintro e wz ⟨z1, rfl, hcz, htz⟩
              have HCZ := hid hcz
              have HTZ := hid (HT5.out.touch (Nat.le_of_eq HLO.out.symm) htz)
              have HOZ := hid (HO5.out.touch htz hlt0)
              have HSZ : Hid (lo ≤ wz.heap.size) := Nat.le_trans HS5.out htz.size
              clear hcz htz
              cases z1
              · have HLT := hid (ints_lit wz wz.heap.size (Nat.le_refl _) [1, 1, 1, 2, 5] (by simp)).r
                have HAL : Hid (Below wz.heap.size wz _) := (Below.refl wz.heap.size wz).alloc (Nat.le_refl _) (.cells ([1, 1, 1, 2, 5].map (.int .i64 ·)).toArray 3)
                go_wp2_with fail
                refine (among_c b (q + 2) _ [1, 1, 1, 2, 5] _ (HCZ.out.keep HAL.out) (by omega) HLT.out (by simp) (by simp) (fun p hp => by simp [Value.ownBlock] at hp; have := HSZ.out; omega)).mono ?_
                rintro e w8 ⟨x8, rfl, _, hc8, ht8⟩
                have HC8 := hid hc8
                have HT8 := hid ((HTZ.out.below (HAL.out.mono HSZ.out)).touch (Nat.le_of_eq HLO.out.symm) ht8)
                have HO8 := hid ((HOZ.out.keep HAL.out).touch ht8 hlt0)
                have HS8 : Hid (lo ≤ w8.heap.size) := Nat.le_trans (Nat.le_trans HSZ.out HAL.out.size) ht8.size
                clear hc8 ht8
                go_wp2_with (at_builtin; (refine wpList_push_link (W0 := w) rfl _ _ rfl b (k := q + 4) lo _ L (i : Int) (j : Int) x8 ?_ ?_ HO8.out HT8.out HC8.out hlt0 HS8.out ?_ ?_))
                · rfl
                · rfl
                · omega
                intro v9 w9 hO9 hd9 hc9 hs9
                have HO9 := hid hO9; have HT9 := hid hd9; have HC9 := hid hc9; have HS9 := hid hs9
                clear hO9 hd9 hc9 hs9
                go_wp2
                go_roundg (m - (j + 1))
                case rel => exact ⟨j + 1, _, _, by go_num, by omega, by omega, by omega, HC9.out, by omega, HO9.out, by rw [List.length_append]; simp; omega, HT9.out, HS9.out⟩
                case measure => omega
              · go_wp2_with fail
                refine (one_c b (q + 2) (1 + y + 1) _ HCZ.out (by omega) (by omega)).mono ?_
                rintro e wv ⟨z2, rfl, hcv, htv⟩
                have HCV := hid hcv
                have HTV := hid (HTZ.out.touch (Nat.le_of_eq HLO.out.symm) htv)
                have HOV := hid (HOZ.out.touch htv hlt0)
                have HSV : Hid (lo ≤ wv.heap.size) := Nat.le_trans HSZ.out htv.size
                clear hcv htv
                cases z2
                · go_wp2
                  go_roundg (m - (j + 1))
                  case rel => exact ⟨j + 1, L, _, by go_num, by omega, by omega, by omega, HCV.out, by omega, HOV.out, by omega, HTV.out, HSV.out⟩
                  case measure => omega
                · have HLT := hid (ints_lit wv wv.heap.size (Nat.le_refl _) [1, 1, 1, 2, 5] (by simp)).r
                  have HAL : Hid (Below wv.heap.size wv _) := (Below.refl wv.heap.size wv).alloc (Nat.le_refl _) (.cells ([1, 1, 1, 2, 5].map (.int .i64 ·)).toArray 3)
                  go_wp2_with fail
                  refine (among_c b (q + 2 + 2) _ [1, 1, 1, 2, 5] _ (HCV.out.keep HAL.out) (by omega) HLT.out (by simp) (by simp) (fun p hp => by simp [Value.ownBlock] at hp; have := HSV.out; omega)).mono ?_
                  rintro e w8 ⟨x8, rfl, _, hc8, ht8⟩
                  have HC8 := hid hc8
                  have HT8 := hid ((HTV.out.below (HAL.out.mono HSV.out)).touch (Nat.le_of_eq HLO.out.symm) ht8)
                  have HO8 := hid ((HOV.out.keep HAL.out).touch ht8 hlt0)
                  have HS8 : Hid (lo ≤ w8.heap.size) := Nat.le_trans (Nat.le_trans HSV.out HAL.out.size) ht8.size
                  clear hc8 ht8
                  go_wp2_with (at_builtin; (refine wpList_push_link (W0 := w) rfl _ _ rfl b (k := q + 6) lo _ L (i : Int) (j : Int) x8 ?_ ?_ HO8.out HT8.out HC8.out hlt0 HS8.out ?_ ?_))
                  · rfl
                  · rfl
                  · omega
                  intro v9 w9 hO9 hd9 hc9 hs9
                  have HO9 := hid hO9; have HT9 := hid hd9; have HC9 := hid hc9; have HS9 := hid hs9
                  clear hO9 hd9 hc9 hs9
                  go_wp2
                  go_roundg (m - (j + 1))
                  case rel => exact ⟨j + 1, _, _, by go_num, by omega, by omega, by omega, HC9.out, by omega, HO9.out, by rw [List.length_append]; simp; omega, HT9.out, HS9.out⟩
                  case measure => omega
            · go_wp2_with fail
              refine (one_c b (q) (1 + y + 1) _ HC5.out (by omega) (by omega)).mono ?_
              rintro e wz ⟨z2, rfl, hcz, htz⟩
              have HCZ := hid hcz
              have HTZ := hid (HT5.out.touch (Nat.le_of_eq HLO.out.symm) htz)
              have HOZ := hid (HO5.out.touch htz hlt0)
              have HSZ : Hid (lo ≤ wz.heap.size) := Nat.le_trans HS5.out htz.size
              clear hcz htz
              cases z2
              · go_wp2
                go_roundg (m - (j + 1))
                case rel => exact ⟨j + 1, L, _, by go_num, by omega, by omega, by omega, HCZ.out, by omega, HOZ.out, by omega, HTZ.out, HSZ.out⟩
                case measure => omega
              · have HLT := hid (ints_lit wz wz.heap.size (Nat.le_refl _) [1, 1, 1, 2, 5] (by simp)).r
                have HAL : Hid (Below wz.heap.size wz _) := (Below.refl wz.heap.size wz).alloc (Nat.le_refl _) (.cells ([1, 1, 1, 2, 5].map (.int .i64 ·)).toArray 3)
                go_wp2_with fail
                refine (among_c b (q + 2) _ [1, 1, 1, 2, 5] _ (HCZ.out.keep HAL.out) (by omega) HLT.out (by simp) (by simp) (fun p hp => by simp [Value.ownBlock] at hp; have := HSZ.out; omega)).mono ?_
                rintro e w8 ⟨x8, rfl, _, hc8, ht8⟩
                have HC8 := hid hc8
                have HT8 := hid ((HTZ.out.below (HAL.out.mono HSZ.out)).touch (Nat.le_of_eq HLO.out.symm) ht8)
                have HO8 := hid ((HOZ.out.keep HAL.out).touch ht8 hlt0)
                have HS8 : Hid (lo ≤ w8.heap.size) := Nat.le_trans (Nat.le_trans HSZ.out HAL.out.size) ht8.size
                clear hc8 ht8
                go_wp2_with (at_builtin; (refine wpList_push_link (W0 := w) rfl _ _ rfl b (k := q + 4) lo _ L (i : Int) (j : Int) x8 ?_ ?_ HO8.out HT8.out HC8.out hlt0 HS8.out ?_ ?_))
                · rfl
                · rfl
                · omega
                intro v9 w9 hO9 hd9 hc9 hs9
                have HO9 := hid hO9; have HT9 := hid hd9; have HC9 := hid hc9; have HS9 := hid hs9
                clear hO9 hd9 hc9 hs9
                go_wp2
                go_roundg (m - (j + 1))
                case rel => exact ⟨j + 1, _, _, by go_num, by omega, by omega, by omega, HC9.out, by omega, HO9.out, by rw [List.length_append]; simp; omega, HT9.out, HS9.out⟩
                case measure => omega
          · obtain rfl : j = m := by omega
            go_wp2
            go_roundg (j - (i + 1))
            case rel => exact ⟨i + 1, L, q, by go_num, by omega, rfl, HC5.out, by omega, HO5.out, by omega, HT5.out, HS5.out⟩
            case measure => omega
      · obtain rfl : i = m := by omega
        go_wp2
        go_ret2
        exact ⟨_, _, _, rfl, by omega, by omega, by omega, HO4.out, HC4.out.more (by omega), HT4.out⟩

end Go.Proofs.Ytlehhfmbdcmpoaa
