/- Drawn nested splits: the cursor's function (printed by wip/splitdraw2.py). -/
import Derived.Test.YtnkbfgnmodfemaaGreatDoorSplN
import Derived.Test.YtnkbfgnmodfemaaGreatDoorSame
namespace Go.Proofs.YtnkbfgnmodfemaaGreatDoor
open Go.RowKit
open Go.Lib (hid)

theorem row_cellE {w : World} {g : Nat} {u : Value} (h : w.cell? ⟨g, 0, none⟩ = some u) : ∀ (a : Addr) (j : Nat) (z : Value × List Int) (x : List Int), some (⟨g, 0, none⟩ : Addr) = some a → [(u, x)][j]? = some z → w.cell? (a.add j) = some z.1 := by
  rintro a j z x he hz
  cases he
  cases j with
  | zero => simp at hz; subst hz; rw [addr_add]; exact h
  | succ j => simp at hz
theorem one_fint (w : World) (a : Int) : FInts (w.alloc (.cells #[.int .i64 a] 3)) w.heap.size (w.alloc (.cells #[.int .i64 a] 3)).heap.size (.slice (some ⟨w.heap.size, 0, none⟩) 1 1) [a] := by
  have := ints_lit w w.heap.size (Nat.le_refl _) [a] (by simp)
  simpa using this

set_option maxRecDepth 100000 in
set_option maxHeartbeats 4000000 in
theorem nested2_c (b k : Nat) (n : Nat) (hn7 : n ≤ 7) (w : World) (h : Cur w b k) (hk : k ≤ 600000000000) :
    Calls Tryz.prog 47 #[.pointer (some ⟨b, 0, none⟩), .int .i64 n] w (RetNest2 b (k + 1000) w.heap.size n w) := by
  have HC0 := hid h
  have hlt0 := h.lt
  obtain ⟨lo, hlo⟩ : ∃ lo, w.heap.size = lo := ⟨_, rfl⟩
  rw [hlo] at hlt0
  have HS0 : Hid (lo ≤ w.heap.size) := Nat.le_of_eq hlo.symm
  have HD0 : Hid (Dr b lo w w) := Dr.refl _ _ _
  have HLO := hid hlo
  clear h hlo
  rw [HLO.out]
  go_enter Tryz.func47, Tryz.ntmps47
  go_wp2
  go_loopg [6, 7, 8] 6 (fun gk l6 l7 iv wr => ∃ (lv uv : Value) (i s : Nat) (Z : List (Value × List Int)) (xs : List Int), l6 = lv ∧ l7 = uv ∧ iv = .int .i64 i ∧ 1 ≤ i ∧ i ≤ 7 ∧ gk = 7 - i ∧ Z.length + 1 ≤ i ∧ xs.length + 1 ≤ i ∧ i ≤ xs.length + 1 ∧ s ≤ k + 4 * i ∧ Hid (NS wr lo wr.heap.size lv uv Z xs) ∧ Hid (Cur wr b s) ∧ Hid (Dr b lo w wr) ∧ Hid (lo ≤ wr.heap.size))
  case atStart => exact ⟨_, _, 1, k, [], [], rfl, rfl, rfl, Nat.le_refl _, by omega, rfl, by simp, by simp, by simp, by omega, hid (ns_nil _ _ _), HC0, HD0, HS0⟩
  case round =>
    obtain ⟨lv, uv, i, s, Z, xs, rfl, rfl, rfl, hi1, hi7, rfl, hZ, hX, hX2, hs, HN1, HC1, HD1, HS1⟩ := hrel
    obtain ⟨w1, rfl⟩ : ∃ w1 : World, w1 = wr := ⟨_, rfl⟩
    by_cases hlt : i < n
    · have hltz : (i : Int) < (n : Int) := by omega
      obtain ⟨al, nl, cl, rfl, hnl⟩ := HN1.out.rows.form3
      obtain ⟨au, nu, cu, rfl⟩ := HN1.out.tw.form3
      obtain rfl := fints_len3 HN1.out.tw
      subst hnl
      obtain ⟨wa4, hwa4⟩ : ∃ wa, wa = w1.alloc (.cells #[.int .i64 (i : Int)] 3) := ⟨_, rfl⟩
      have hal4 : Below w1.heap.size w1 wa4 := by rw [hwa4]; exact (Below.refl _ _).alloc (Nat.le_refl _) _
      have NA4 := hid (HN1.out.same (w' := wa4) (fun c _ _ h3 => hal4.block c h3))
      have UA4 : Hid (FInts wa4 w1.heap.size wa4.heap.size (.slice (some ⟨w1.heap.size, 0, none⟩) 1 1) [(i : Int)]) := by show FInts _ _ _ _ _; rw [hwa4]; exact one_fint _ _
      have SZ4 : wa4.heap.size = w1.heap.size + 1 := by rw [hwa4]; simp
      have MD4 : Hid (w1.heap.size ≤ wa4.heap.size) := hal4.size
      have BA4 := hid (hal4.mono HS1.out)
      have ML4 := HS1
      have q4 := cell_new wa4 (.slice (some ⟨w1.heap.size, 0, none⟩) 1 1) 27
      rw [SZ4] at q4
      have HO4 := hid (NA4.out.rows.keep ((Below.refl _ _).alloc (Nat.le_refl _) (.cells #[.slice (some ⟨w1.heap.size, 0, none⟩) 1 1] 27)))
      have LO4 : Hid (lo ≤ (wa4.alloc (.cells #[.slice (some ⟨w1.heap.size, 0, none⟩) 1 1] 27)).heap.size) := by show _ ≤ _; rw [World.size_alloc, SZ4]; have := HS1.out; omega
      rw [hwa4] at q4 HO4 LO4
      clear hal4
      go_wp2_with (at_builtin; (refine wpList_append_vals rfl _ _ rfl lo _ Z [(.slice (some ⟨w1.heap.size, 0, none⟩) 1 1, [(i : Int)])] _ _ rfl rfl HO4.out (by simp) (fun a j z he hz => row_cellE q4 a j z _ he hz) (by simp [Value.oneCell']) (by simp; omega) LO4.out ?_; intro v4 w4 hO4 hg4 hat4))
      rw [← hwa4] at hg4
      have N4 := hid (NA4.out.pushRow (Nat.le_refl _) UA4.out ML4.out MD4.out hO4 hg4)
      have hbl4 : Below lo w1 w4 := BA4.out.trans (NA4.out.rowBelow (Nat.le_trans ML4.out MD4.out) hg4)
      have HC4 := hid (HC1.out.low (hbl4.mono hlt0))
      have HD4 := hid (HD1.out.below hbl4)
      have HS4 : Hid (lo ≤ w4.heap.size) := Nat.le_trans HS1.out hbl4.size
      obtain ⟨al4, cl4, rfl⟩ : ∃ a c, v4 = .slice a (Z.length + 1) c := (by obtain ⟨a, c, e⟩ := hO4.form; exact ⟨a, c, by rw [e]; simp⟩)
      clear hO4 hg4 hat4 hbl4 q4 HO4 LO4
      clear hwa4 SZ4
      go_wp2_with fail
      refine (pick_c b s 5 _ HC4.out (by omega) (by omega)).mono ?_
      rintro e w11 ⟨y, rfl, ⟨hy1, hy2⟩, hc11, ht11⟩
      have HC11 := hid (hc11.more (show _ ≤ (s + 2) by omega))
      have HD11 := hid (HD4.out.touch HS0.out ht11)
      have N_11 := hid (N4.out.tch ht11 hlt0)
      have HS11 : Hid (lo ≤ w11.heap.size) := Nat.le_trans HS4.out ht11.size
      clear hc11 ht11
      have f1 : IntKind.i64.wrap (2 * y) = 2 * y := IntWalk.i64_in _ (by omega)
      have f2 : IntKind.i64.wrap (2 * y + 2) = 2 * y + 2 := IntWalk.i64_in _ (by omega)
      have hF6 := N_11.out.tw.keep ((Below.refl _ _).alloc (Nat.le_refl _) (.cells #[.int .i64 (2 * y + 2)] 3))
      have hcn6 := cell_new w11 (.int .i64 (2 * y + 2)) 3
      have hlo6 : lo ≤ (w11.alloc (.cells #[.int .i64 (2 * y + 2)] 3)).heap.size := by rw [World.size_alloc]; have := HS11.out; omega
      go_wp2_with (at_builtin; (refine wpList_push_int rfl _ _ rfl lo _ _ xs (2 * y + 2) _ rfl rfl hF6 hcn6 (by omega) hlo6 ?_; intro g6 c6 w6 hG6 hg6 hat6))
      have N6 := hid (N_11.out.pushInt hG6 hg6 (hat6.imp (fun e => e.symm) (fun e => by subst e; simp [Value.ownBlock])))
      have hbl6 : Below lo w11 w6 := N_11.out.intBelow HS11.out hg6
      have HC6 := hid (HC11.out.low (hbl6.mono hlt0))
      have HD6 := hid (HD11.out.below hbl6)
      have HS6 : Hid (lo ≤ w6.heap.size) := Nat.le_trans HS11.out hbl6.size
      clear hF6 hcn6 hlo6 hG6 hg6 hat6 hbl6
      go_wp2
      go_roundg (7 - (i + 1))
      case rel => exact ⟨_, _, i + 1, s + 2, _, _, rfl, rfl, by go_num, by omega, by omega, rfl, by rw [List.length_append]; simp; omega, by rw [List.length_append]; simp; omega, by rw [List.length_append]; simp; omega, by omega, N6, HC6, HD6, HS6⟩
      case measure => omega
    · have hltz : ¬ (i : Int) < (n : Int) := by omega
      have hin : n ≤ i := by omega
      obtain ⟨l1, hl1⟩ : ∃ l1, w1.heap.size = l1 := ⟨_, rfl⟩
      have HL1 := hid hl1
      have hlt1 : b < l1 := by have := HS1.out; omega
      have HSB : Hid (l1 ≤ w1.heap.size) := Nat.le_of_eq hl1.symm
      clear hl1
      go_wp2
      go_loopg [9, 10] 6 (fun gk av iv wr => ∃ (a3 : Option Addr) (p c3 i : Nat) (ys : List Int), av = .slice a3 p c3 ∧ iv = .int .i64 i ∧ 1 ≤ i ∧ i ≤ 7 ∧ gk = 7 - i ∧ Hid (ys.length = p) ∧ p ≤ i ∧ Hid (FInts wr l1 wr.heap.size (.slice a3 p c3) ys) ∧ Hid (Cur wr b s) ∧ Hid (Dr b l1 w1 wr) ∧ Hid (l1 ≤ wr.heap.size))
      case atStart => exact ⟨none, 0, 0, 1, [], rfl, rfl, Nat.le_refl _, by omega, rfl, rfl, by omega, hid (ints_nil _ _ _), HC1, hid (Dr.refl _ _ _), HSB⟩
      case round =>
        obtain ⟨a3, p, c3, i2, ys, rfl, rfl, hi1', hi7', rfl, HLK, hpi, HF2, HC2, HD2, HS2⟩ := hrel
        obtain ⟨w2, rfl⟩ : ∃ w2 : World, w2 = wr := ⟨_, rfl⟩
        by_cases hlt2 : i2 < n
        · have hltz2 : (i2 : Int) < (n : Int) := by omega
          go_wp2_with (at_builtin; (refine wpList_push_dr (W0 := w1) rfl _ _ rfl b (k := s) l1 (.slice a3 p c3) ys (i2 : Int) rfl rfl HF2.out HD2.out HC2.out hlt1 HS2.out p HLK (by omega) ?_; intro g8 c8 w8 hF8 hd8 hc8 hs8; have HF8 := hid hF8; have HD8 := hid hd8; have HC8 := hid hc8; have HS8 := hid hs8; clear hF8 hd8 hc8 hs8))
          go_wp2
          go_roundg (7 - (i2 + 1))
          case rel => exact ⟨_, p + 1, _, i2 + 1, ys ++ [(i2 : Int)], rfl, by go_num, by omega, by omega, rfl, by show _ = _; rw [List.length_append, HLK.out]; rfl, by omega, HF8, HC8, HD8, HS8⟩
          case measure => omega
        · have hltz2 : ¬ (i2 : Int) < (n : Int) := by omega
          have nn2 := HN1.out.same (w' := w2) (fun c h1 h2 _ => HD2.out.block c (by have := HL1.out; omega) (by omega))
          rw [HL1.out] at nn2
          have NN2 := hid nn2
          clear nn2
          have HD3 := hid (HD1.out.trans (HD2.out.low (by have := HL1.out; have := HS1.out; omega)))
          have HS3 : Hid (lo ≤ w2.heap.size) := Nat.le_trans HS1.out HD2.out.size
          obtain ⟨al, nl, cl, rfl, hnl⟩ := HN1.out.rows.form3
          obtain ⟨au, nu, cu, rfl⟩ := HN1.out.tw.form3
          obtain rfl := fints_len3 HN1.out.tw
          subst hnl
          by_cases hn2 : (n : Int) > 2
          · have NA4 := NN2
            have UA4 := HF2
            have MD4 : Hid (l1 ≤ w2.heap.size) := HS2.out
            have ML4 : Hid (lo ≤ l1) := (by have := HL1.out; have := HS1.out; show _ ≤ _; omega)
            have BA4 : Hid (Below lo w2 w2) := Below.refl _ _
            have q4 := cell_new w2 (.slice a3 p c3) 27
            have HO4 := hid (NA4.out.rows.keep ((Below.refl _ _).alloc (Nat.le_refl _) (.cells #[.slice a3 p c3] 27)))
            have LO4 : Hid (lo ≤ (w2.alloc (.cells #[.slice a3 p c3] 27)).heap.size) := by show _ ≤ _; rw [World.size_alloc]; have := HS3.out; omega
            go_wp2_with (at_builtin; (refine wpList_append_vals rfl _ _ rfl lo _ Z [(.slice a3 p c3, ys)] _ _ rfl rfl HO4.out (by simp) (fun a j z he hz => row_cellE q4 a j z _ he hz) (by simp [Value.oneCell']) (by simp; omega) LO4.out ?_; intro v4 w4 hO4 hg4 hat4))
            have N4 := hid (NA4.out.pushRow (Nat.le_refl _) UA4.out ML4.out MD4.out hO4 hg4)
            have hbl4 : Below lo w2 w4 := BA4.out.trans (NA4.out.rowBelow (Nat.le_trans ML4.out MD4.out) hg4)
            have HC4 := hid (HC2.out.low (hbl4.mono hlt0))
            have HD4 := hid (HD3.out.below hbl4)
            have HS4 : Hid (lo ≤ w4.heap.size) := Nat.le_trans HS3.out hbl4.size
            obtain ⟨al4, cl4, rfl⟩ : ∃ a c, v4 = .slice a (Z.length + 1) c := (by obtain ⟨a, c, e⟩ := hO4.form; exact ⟨a, c, by rw [e]; simp⟩)
            clear hO4 hg4 hat4 hbl4 q4 HO4 LO4
            go_wp2_with fail
            refine (pick_c b s 5 _ HC4.out (by omega) (by omega)).mono ?_
            rintro e w21 ⟨y, rfl, ⟨hy1, hy2⟩, hc21, ht21⟩
            have HC21 := hid (hc21.more (show _ ≤ (s + 2) by omega))
            have HD21 := hid (HD4.out.touch HS0.out ht21)
            have N_21 := hid (N4.out.tch ht21 hlt0)
            have HS21 : Hid (lo ≤ w21.heap.size) := Nat.le_trans HS4.out ht21.size
            clear hc21 ht21
            have f1 : IntKind.i64.wrap (2 * y) = 2 * y := IntWalk.i64_in _ (by omega)
            have hF6 := N_21.out.tw.keep ((Below.refl _ _).alloc (Nat.le_refl _) (.cells #[.int .i64 (2 * y)] 3))
            have hcn6 := cell_new w21 (.int .i64 (2 * y)) 3
            have hlo6 : lo ≤ (w21.alloc (.cells #[.int .i64 (2 * y)] 3)).heap.size := by rw [World.size_alloc]; have := HS21.out; omega
            go_wp2_with (at_builtin; (refine wpList_push_int rfl _ _ rfl lo _ _ xs (2 * y) _ rfl rfl hF6 hcn6 (by omega) hlo6 ?_; intro g6 c6 w6 hG6 hg6 hat6))
            have N6 := hid (N_21.out.pushInt hG6 hg6 (hat6.imp (fun e => e.symm) (fun e => by subst e; simp [Value.ownBlock])))
            have hbl6 : Below lo w21 w6 := N_21.out.intBelow HS21.out hg6
            have HC6 := hid (HC21.out.low (hbl6.mono hlt0))
            have HD6 := hid (HD21.out.below hbl6)
            have HS6 : Hid (lo ≤ w6.heap.size) := Nat.le_trans HS21.out hbl6.size
            clear hF6 hcn6 hlo6 hG6 hg6 hat6 hbl6
            go_wp2_with fail
            refine (pick_c b (s + 2) 4 _ HC6.out (by omega) (by omega)).mono ?_
            rintro e w22 ⟨q, rfl, ⟨hq1, hq2⟩, hc22, ht22⟩
            have HC22 := hid (hc22.more (show _ ≤ (s + 4) by omega))
            have HD22 := hid (HD6.out.touch HS0.out ht22)
            have N_22 := hid (N6.out.tch ht22 hlt0)
            have HS22 : Hid (lo ≤ w22.heap.size) := Nat.le_trans HS6.out ht22.size
            clear hc22 ht22
            obtain ⟨q, rfl, hq3⟩ : ∃ q' : Nat, q = q' ∧ q' ≤ 3 := ⟨q.toNat, by omega, by omega⟩
            have HCZ := hid (HC22.out.more (show _ ≤ k + 100 by omega))
            go_wp2
            go_loopg [6, 7, 11] q (fun gk l6 l7 qv wr => ∃ (lv uv : Value) (q s : Nat) (Z : List (Value × List Int)) (xs : List Int), l6 = lv ∧ l7 = uv ∧ qv = .int .i64 q ∧ q ≤ 3 ∧ q = gk ∧ Z.length + q ≤ 11 ∧ xs.length + q ≤ 11 ∧ (n ≤ 1 ∨ 1 ≤ xs.length) ∧ s + 200 * q ≤ k + 700 ∧ Hid (NS wr lo wr.heap.size lv uv Z xs) ∧ Hid (Cur wr b s) ∧ Hid (Dr b lo w wr) ∧ Hid (lo ≤ wr.heap.size))
            case atStart => exact ⟨_, _, q, k + 100, _, _, rfl, rfl, rfl, hq3, rfl, by (try rw [List.length_append]); (try simp); omega, by (try rw [List.length_append]); (try simp); omega, by first | omega | (rw [List.length_append]; simp), by omega, N_22, HCZ, HD22, HS22⟩
            case round =>
              clear HCZ
              obtain ⟨lv, uv, q, s, Z, xs, rfl, rfl, rfl, hq3, rfl, hZ, hX, hX3, hs, HN1, HC1, HD1, HS1⟩ := hrel
              obtain ⟨w1, rfl⟩ : ∃ w1 : World, w1 = wr := ⟨_, rfl⟩
              by_cases hq0 : 0 < q
              · obtain ⟨q, rfl⟩ : ∃ p, q = p + 1 := ⟨q - 1, by omega⟩
                have hqz : ((q + 1 : Nat) : Int) > 0 := by omega
                have fq : IntKind.i64.wrap (((q + 1 : Nat) : Int) - 1) = (q : Int) := by rw [IntWalk.i64_in _ (by omega)]; omega
                have fn : IntKind.i64.wrap ((n : Int) - 2) = (n : Int) - 2 := IntWalk.i64_in _ (by omega)
                obtain ⟨al, nl, cl, rfl, hnl⟩ := HN1.out.rows.form3
                obtain ⟨au, nu, cu, rfl⟩ := HN1.out.tw.form3
                obtain rfl := fints_len3 HN1.out.tw
                subst hnl
                go_wp2_with fail
                refine (side_c b s (n : Int) _ HC1.out (by omega)).mono ?_
                rintro e w3 ⟨v3, a, rfl, ha20, hF3, hc3, hd3⟩
                obtain ⟨a3, n3, c3, rfl⟩ := hF3.form3
                obtain rfl := fints_len3 hF3
                have HF3 := hid hF3
                have HC3 := hid hc3
                have HD3 := hid (HD1.out.trans (hd3.low HS1.out))
                have NN3 := hid (HN1.out.same (w' := w3) (fun c h1 h2 h3 => hd3.block c h3 (by omega)))
                have HM3 : Hid (w1.heap.size ≤ w3.heap.size) := hd3.size
                have HS3 : Hid (lo ≤ w3.heap.size) := Nat.le_trans HS1.out hd3.size
                clear hF3 hc3 hd3
                go_wp2_with fail
                refine (slGood_c (n : Int) _ a _ HF3.out.r).mono ?_
                rintro e w' ⟨rfl, rfl⟩
                obtain ⟨g1, hg1⟩ : ∃ g1, splitB (n : Int) a = g1 := ⟨_, rfl⟩
                rw [hg1]
                clear hg1
                have hzz : (Z.length : Int) < 12 := by omega
                cases g1
                case' true =>
                  go_wp2_with fail
                  refine (l1In_c _ _ _ _).mono ?_
                  rintro e w' ⟨rfl, rfl⟩
                  obtain ⟨g2, hg2⟩ : ∃ g2, inB (a.length : Int) 2 ((n : Int) - 2) = g2 := ⟨_, rfl⟩
                  rw [hg2]
                  clear hg2
                  cases g2
                all_goals
                  go_wp2
                  go_loopg [13, 80] Z.length (fun gk fv iv wr => ∃ (f : Bool) (i : Nat), fv = .bool f ∧ iv = .int .i64 i ∧ i ≤ Z.length ∧ gk = Z.length - i ∧ Hid (Below w3.heap.size w3 wr) ∧ Hid (wr.heap.size = w3.heap.size))
                  case atStart => exact ⟨_, 0, rfl, rfl, Nat.zero_le _, rfl, hid (Below.refl _ _), hid rfl⟩
                  case round =>
                    obtain ⟨f, i, rfl, rfl, hi, rfl, HBI, HZI⟩ := hrel
                    obtain ⟨w4, rfl⟩ : ∃ w4 : World, w4 = wr := ⟨_, rfl⟩
                    by_cases hlti : i < Z.length
                    · have hltz : (i : Int) < (Z.length : Int) := by omega
                      obtain ⟨gz, ⟨z1, z2⟩, hag, hcell, hzm, _, _⟩ := NN3.out.rows.at hlti
                      subst hag
                      have hcell4 := (HBI.out.cell (p := ⟨gz, i, none⟩) (cell_lt hcell)).trans hcell
                      have HZR := hid ((NN3.out.pool.1 _ hzm).r.keep HBI.out)
                      have HAR := hid (HF3.out.r.keep HBI.out)
                      obtain ⟨az, nz, cz, rfl⟩ := (NN3.out.pool.1 _ hzm).form3
                      have hcell5 : w4.cell? ⟨gz, i, none⟩ = some (.slice az nz cz) := hcell4
                      clear hcell hcell4 hzm
                      cases f
                      · go_wp2
                        go_roundg (Z.length - (i + 1))
                        case rel => exact ⟨false, i + 1, rfl, by go_num, by omega, rfl, HBI, HZI⟩
                        case measure => omega
                      · go_wp2_with fail
                        refine (slFit_c _ _ a z2 _ HAR.out HZR.out).mono ?_
                        rintro e w' ⟨rfl, rfl⟩
                        obtain ⟨g3, hg3⟩ : ∃ g3, fitB a z2 = g3 := ⟨_, rfl⟩
                        rw [hg3]
                        clear hg3
                        cases g3
                        · go_wp2
                          go_roundg (Z.length - (i + 1))
                          case rel => exact ⟨false, i + 1, rfl, by go_num, by omega, rfl, HBI, HZI⟩
                          case measure => omega
                        · go_wp2_with fail
                          refine (l1Same_c _ _ a z2 _ HAR.out HZR.out).mono ?_
                          rintro e w5 ⟨rfl, m5, rfl⟩
                          obtain ⟨g4, hg4⟩ : ∃ g4, decide (a = z2) = g4 := ⟨_, rfl⟩
                          rw [hg4]
                          clear hg4
                          have HBI5 := hid (below_drewN HBI.out m5)
                          cases g4
                          · go_wp2
                            go_roundg (Z.length - (i + 1))
                            case rel => exact ⟨true, i + 1, rfl, by go_num, by omega, rfl, HBI5, HZI⟩
                            case measure => omega
                          · go_wp2
                            go_roundg (Z.length - (i + 1))
                            case rel => exact ⟨false, i + 1, rfl, by go_num, by omega, rfl, HBI5, HZI⟩
                            case measure => omega
                    · have hltz : ¬ (i : Int) < (Z.length : Int) := by omega
                      have NN4 := hid (NN3.out.same (w' := w4) (fun c _ _ h3 => HBI.out.block c h3))
                      have UF4 := hid ((HF3.out.keep HBI.out).mono (Nat.le_refl _) (Nat.le_of_eq HZI.out.symm))
                      have HC4 := hid (HC3.out.keep HBI.out)
                      have HD4 := hid (HD3.out.below (HBI.out.mono HS3.out))
                      have HS4 : Hid (lo ≤ w4.heap.size) := Nat.le_trans HS3.out HBI.out.size
                      have HM4 : Hid (w1.heap.size ≤ w4.heap.size) := Nat.le_trans HM3.out HBI.out.size
                      cases f
                      · go_wp2
                        go_roundg q
                        case rel => exact ⟨_, _, q, s + 100, _, _, rfl, rfl, by go_num, by omega, rfl, by omega, by omega, by omega, by omega, hid (NN4.out.mono HM4.out), HC4, HD4, HS4⟩
                        case measure => omega
                      · clear hi hltz
                        have NA7 := NN4
                        have UA7 := UF4
                        have MD7 : Hid (w1.heap.size ≤ w4.heap.size) := HM4.out
                        have ML7 : Hid (lo ≤ w1.heap.size) := HS1.out
                        have BA7 : Hid (Below lo w4 w4) := Below.refl _ _
                        have q7 := cell_new w4 (.slice a3 a.length c3) 27
                        have HO7 := hid (NA7.out.rows.keep ((Below.refl _ _).alloc (Nat.le_refl _) (.cells #[.slice a3 a.length c3] 27)))
                        have LO7 : Hid (lo ≤ (w4.alloc (.cells #[.slice a3 a.length c3] 27)).heap.size) := by show _ ≤ _; rw [World.size_alloc]; have := HS4.out; omega
                        go_wp2_with (at_builtin; (refine wpList_append_vals rfl _ _ rfl lo _ Z [(.slice a3 a.length c3, a)] _ _ rfl rfl HO7.out (by simp) (fun a j z he hz => row_cellE q7 a j z _ he hz) (by simp [Value.oneCell']) (by simp; omega) LO7.out ?_; intro v7 w7 hO7 hg7 hat7))
                        have N7 := hid (NA7.out.pushRow (Nat.le_refl _) UA7.out ML7.out MD7.out hO7 hg7)
                        have hbl7 : Below lo w4 w7 := BA7.out.trans (NA7.out.rowBelow (Nat.le_trans ML7.out MD7.out) hg7)
                        have HC7 := hid (HC4.out.low (hbl7.mono hlt0))
                        have HD7 := hid (HD4.out.below hbl7)
                        have HS7 : Hid (lo ≤ w7.heap.size) := Nat.le_trans HS4.out hbl7.size
                        obtain ⟨al7, cl7, rfl⟩ : ∃ a c, v7 = .slice a (Z.length + 1) c := (by obtain ⟨a, c, e⟩ := hO7.form; exact ⟨a, c, by rw [e]; simp⟩)
                        clear hO7 hg7 hat7 hbl7 q7 HO7 LO7
                        go_wp2_with fail
                        refine (pick_c b (s + 100) 4 _ HC7.out (by omega) (by omega)).mono ?_
                        rintro e w41 ⟨y, rfl, ⟨hy1, hy2⟩, hc41, ht41⟩
                        have HC41 := hid (hc41.more (show _ ≤ (s + 102) by omega))
                        have HD41 := hid (HD7.out.touch HS0.out ht41)
                        have N_41 := hid (N7.out.tch ht41 hlt0)
                        have HS41 : Hid (lo ≤ w41.heap.size) := Nat.le_trans HS7.out ht41.size
                        clear hc41 ht41
                        have f1 : IntKind.i64.wrap (2 * y) = 2 * y := IntWalk.i64_in _ (by omega)
                        have f2 : IntKind.i64.wrap (2 * y + 2) = 2 * y + 2 := IntWalk.i64_in _ (by omega)
                        have hF9 := N_41.out.tw.keep ((Below.refl _ _).alloc (Nat.le_refl _) (.cells #[.int .i64 (2 * y + 2)] 3))
                        have hcn9 := cell_new w41 (.int .i64 (2 * y + 2)) 3
                        have hlo9 : lo ≤ (w41.alloc (.cells #[.int .i64 (2 * y + 2)] 3)).heap.size := by rw [World.size_alloc]; have := HS41.out; omega
                        go_wp2_with (at_builtin; (refine wpList_push_int rfl _ _ rfl lo _ _ xs (2 * y + 2) _ rfl rfl hF9 hcn9 (by omega) hlo9 ?_; intro g9 c9 w9 hG9 hg9 hat9))
                        have N9 := hid (N_41.out.pushInt hG9 hg9 (hat9.imp (fun e => e.symm) (fun e => by subst e; simp [Value.ownBlock])))
                        have hbl9 : Below lo w41 w9 := N_41.out.intBelow HS41.out hg9
                        have HC9 := hid (HC41.out.low (hbl9.mono hlt0))
                        have HD9 := hid (HD41.out.below hbl9)
                        have HS9 : Hid (lo ≤ w9.heap.size) := Nat.le_trans HS41.out hbl9.size
                        clear hF9 hcn9 hlo9 hG9 hg9 hat9 hbl9
                        go_wp2
                        go_roundg q
                        case rel => exact ⟨_, _, q, s + 102, _, _, rfl, rfl, by go_num, by omega, rfl, by rw [List.length_append]; simp; omega, by rw [List.length_append]; simp; omega, by rw [List.length_append]; simp, by omega, N9, HC9, HD9, HS9⟩
                        case measure => omega
              · obtain rfl : q = 0 := by omega
                obtain ⟨al, nl, cl, rfl, hnl⟩ := HN1.out.rows.form3
                obtain ⟨au, nu, cu, rfl⟩ := HN1.out.tw.form3
                obtain rfl := fints_len3 HN1.out.tw
                subst hnl
                go_wp2
                go_ret2
                exact ⟨_, _, _, _, rfl, HN1.out, by omega, by omega, by omega, HC1.out.more (by omega), HD1.out⟩
          · have NN3 := hid (NN2.out.mono HS2.out)
            go_wp2_with fail
            refine (pick_c b s 4 _ HC2.out (by omega) (by omega)).mono ?_
            rintro e w21 ⟨q, rfl, ⟨hq1, hq2⟩, hc21, ht21⟩
            have HC21 := hid (hc21.more (show _ ≤ (s + 2) by omega))
            have HD21 := hid (HD3.out.touch HS0.out ht21)
            have N_21 := hid (NN3.out.tch ht21 hlt0)
            have HS21 : Hid (lo ≤ w21.heap.size) := Nat.le_trans HS3.out ht21.size
            clear hc21 ht21
            obtain ⟨q, rfl, hq3⟩ : ∃ q' : Nat, q = q' ∧ q' ≤ 3 := ⟨q.toNat, by omega, by omega⟩
            have HCZ := hid (HC21.out.more (show _ ≤ k + 100 by omega))
            go_wp2
            go_loopg [6, 7, 11] q (fun gk l6 l7 qv wr => ∃ (lv uv : Value) (q s : Nat) (Z : List (Value × List Int)) (xs : List Int), l6 = lv ∧ l7 = uv ∧ qv = .int .i64 q ∧ q ≤ 3 ∧ q = gk ∧ Z.length + q ≤ 11 ∧ xs.length + q ≤ 11 ∧ (n ≤ 1 ∨ 1 ≤ xs.length) ∧ s + 200 * q ≤ k + 700 ∧ Hid (NS wr lo wr.heap.size lv uv Z xs) ∧ Hid (Cur wr b s) ∧ Hid (Dr b lo w wr) ∧ Hid (lo ≤ wr.heap.size))
            case atStart => exact ⟨_, _, q, k + 100, _, _, rfl, rfl, rfl, hq3, rfl, by (try rw [List.length_append]); (try simp); omega, by (try rw [List.length_append]); (try simp); omega, by first | omega | (rw [List.length_append]; simp), by omega, N_21, HCZ, HD21, HS21⟩
            case round =>
              clear HCZ
              obtain ⟨lv, uv, q, s, Z, xs, rfl, rfl, rfl, hq3, rfl, hZ, hX, hX3, hs, HN1, HC1, HD1, HS1⟩ := hrel
              obtain ⟨w1, rfl⟩ : ∃ w1 : World, w1 = wr := ⟨_, rfl⟩
              by_cases hq0 : 0 < q
              · obtain ⟨q, rfl⟩ : ∃ p, q = p + 1 := ⟨q - 1, by omega⟩
                have hqz : ((q + 1 : Nat) : Int) > 0 := by omega
                have fq : IntKind.i64.wrap (((q + 1 : Nat) : Int) - 1) = (q : Int) := by rw [IntWalk.i64_in _ (by omega)]; omega
                have fn : IntKind.i64.wrap ((n : Int) - 2) = (n : Int) - 2 := IntWalk.i64_in _ (by omega)
                obtain ⟨al, nl, cl, rfl, hnl⟩ := HN1.out.rows.form3
                obtain ⟨au, nu, cu, rfl⟩ := HN1.out.tw.form3
                obtain rfl := fints_len3 HN1.out.tw
                subst hnl
                go_wp2_with fail
                refine (side_c b s (n : Int) _ HC1.out (by omega)).mono ?_
                rintro e w3 ⟨v3, a, rfl, ha20, hF3, hc3, hd3⟩
                obtain ⟨a3, n3, c3, rfl⟩ := hF3.form3
                obtain rfl := fints_len3 hF3
                have HF3 := hid hF3
                have HC3 := hid hc3
                have HD3 := hid (HD1.out.trans (hd3.low HS1.out))
                have NN3 := hid (HN1.out.same (w' := w3) (fun c h1 h2 h3 => hd3.block c h3 (by omega)))
                have HM3 : Hid (w1.heap.size ≤ w3.heap.size) := hd3.size
                have HS3 : Hid (lo ≤ w3.heap.size) := Nat.le_trans HS1.out hd3.size
                clear hF3 hc3 hd3
                go_wp2_with fail
                refine (slGood_c (n : Int) _ a _ HF3.out.r).mono ?_
                rintro e w' ⟨rfl, rfl⟩
                obtain ⟨g1, hg1⟩ : ∃ g1, splitB (n : Int) a = g1 := ⟨_, rfl⟩
                rw [hg1]
                clear hg1
                have hzz : (Z.length : Int) < 12 := by omega
                cases g1
                case' true =>
                  go_wp2_with fail
                  refine (l1In_c _ _ _ _).mono ?_
                  rintro e w' ⟨rfl, rfl⟩
                  obtain ⟨g2, hg2⟩ : ∃ g2, inB (a.length : Int) 2 ((n : Int) - 2) = g2 := ⟨_, rfl⟩
                  rw [hg2]
                  clear hg2
                  cases g2
                all_goals
                  go_wp2
                  go_loopg [13, 80] Z.length (fun gk fv iv wr => ∃ (f : Bool) (i : Nat), fv = .bool f ∧ iv = .int .i64 i ∧ i ≤ Z.length ∧ gk = Z.length - i ∧ Hid (Below w3.heap.size w3 wr) ∧ Hid (wr.heap.size = w3.heap.size))
                  case atStart => exact ⟨_, 0, rfl, rfl, Nat.zero_le _, rfl, hid (Below.refl _ _), hid rfl⟩
                  case round =>
                    obtain ⟨f, i, rfl, rfl, hi, rfl, HBI, HZI⟩ := hrel
                    obtain ⟨w4, rfl⟩ : ∃ w4 : World, w4 = wr := ⟨_, rfl⟩
                    by_cases hlti : i < Z.length
                    · have hltz : (i : Int) < (Z.length : Int) := by omega
                      obtain ⟨gz, ⟨z1, z2⟩, hag, hcell, hzm, _, _⟩ := NN3.out.rows.at hlti
                      subst hag
                      have hcell4 := (HBI.out.cell (p := ⟨gz, i, none⟩) (cell_lt hcell)).trans hcell
                      have HZR := hid ((NN3.out.pool.1 _ hzm).r.keep HBI.out)
                      have HAR := hid (HF3.out.r.keep HBI.out)
                      obtain ⟨az, nz, cz, rfl⟩ := (NN3.out.pool.1 _ hzm).form3
                      have hcell5 : w4.cell? ⟨gz, i, none⟩ = some (.slice az nz cz) := hcell4
                      clear hcell hcell4 hzm
                      cases f
                      · go_wp2
                        go_roundg (Z.length - (i + 1))
                        case rel => exact ⟨false, i + 1, rfl, by go_num, by omega, rfl, HBI, HZI⟩
                        case measure => omega
                      · go_wp2_with fail
                        refine (slFit_c _ _ a z2 _ HAR.out HZR.out).mono ?_
                        rintro e w' ⟨rfl, rfl⟩
                        obtain ⟨g3, hg3⟩ : ∃ g3, fitB a z2 = g3 := ⟨_, rfl⟩
                        rw [hg3]
                        clear hg3
                        cases g3
                        · go_wp2
                          go_roundg (Z.length - (i + 1))
                          case rel => exact ⟨false, i + 1, rfl, by go_num, by omega, rfl, HBI, HZI⟩
                          case measure => omega
                        · go_wp2_with fail
                          refine (l1Same_c _ _ a z2 _ HAR.out HZR.out).mono ?_
                          rintro e w5 ⟨rfl, m5, rfl⟩
                          obtain ⟨g4, hg4⟩ : ∃ g4, decide (a = z2) = g4 := ⟨_, rfl⟩
                          rw [hg4]
                          clear hg4
                          have HBI5 := hid (below_drewN HBI.out m5)
                          cases g4
                          · go_wp2
                            go_roundg (Z.length - (i + 1))
                            case rel => exact ⟨true, i + 1, rfl, by go_num, by omega, rfl, HBI5, HZI⟩
                            case measure => omega
                          · go_wp2
                            go_roundg (Z.length - (i + 1))
                            case rel => exact ⟨false, i + 1, rfl, by go_num, by omega, rfl, HBI5, HZI⟩
                            case measure => omega
                    · have hltz : ¬ (i : Int) < (Z.length : Int) := by omega
                      have NN4 := hid (NN3.out.same (w' := w4) (fun c _ _ h3 => HBI.out.block c h3))
                      have UF4 := hid ((HF3.out.keep HBI.out).mono (Nat.le_refl _) (Nat.le_of_eq HZI.out.symm))
                      have HC4 := hid (HC3.out.keep HBI.out)
                      have HD4 := hid (HD3.out.below (HBI.out.mono HS3.out))
                      have HS4 : Hid (lo ≤ w4.heap.size) := Nat.le_trans HS3.out HBI.out.size
                      have HM4 : Hid (w1.heap.size ≤ w4.heap.size) := Nat.le_trans HM3.out HBI.out.size
                      cases f
                      · go_wp2
                        go_roundg q
                        case rel => exact ⟨_, _, q, s + 100, _, _, rfl, rfl, by go_num, by omega, rfl, by omega, by omega, by omega, by omega, hid (NN4.out.mono HM4.out), HC4, HD4, HS4⟩
                        case measure => omega
                      · clear hi hltz
                        have NA7 := NN4
                        have UA7 := UF4
                        have MD7 : Hid (w1.heap.size ≤ w4.heap.size) := HM4.out
                        have ML7 : Hid (lo ≤ w1.heap.size) := HS1.out
                        have BA7 : Hid (Below lo w4 w4) := Below.refl _ _
                        have q7 := cell_new w4 (.slice a3 a.length c3) 27
                        have HO7 := hid (NA7.out.rows.keep ((Below.refl _ _).alloc (Nat.le_refl _) (.cells #[.slice a3 a.length c3] 27)))
                        have LO7 : Hid (lo ≤ (w4.alloc (.cells #[.slice a3 a.length c3] 27)).heap.size) := by show _ ≤ _; rw [World.size_alloc]; have := HS4.out; omega
                        go_wp2_with (at_builtin; (refine wpList_append_vals rfl _ _ rfl lo _ Z [(.slice a3 a.length c3, a)] _ _ rfl rfl HO7.out (by simp) (fun a j z he hz => row_cellE q7 a j z _ he hz) (by simp [Value.oneCell']) (by simp; omega) LO7.out ?_; intro v7 w7 hO7 hg7 hat7))
                        have N7 := hid (NA7.out.pushRow (Nat.le_refl _) UA7.out ML7.out MD7.out hO7 hg7)
                        have hbl7 : Below lo w4 w7 := BA7.out.trans (NA7.out.rowBelow (Nat.le_trans ML7.out MD7.out) hg7)
                        have HC7 := hid (HC4.out.low (hbl7.mono hlt0))
                        have HD7 := hid (HD4.out.below hbl7)
                        have HS7 : Hid (lo ≤ w7.heap.size) := Nat.le_trans HS4.out hbl7.size
                        obtain ⟨al7, cl7, rfl⟩ : ∃ a c, v7 = .slice a (Z.length + 1) c := (by obtain ⟨a, c, e⟩ := hO7.form; exact ⟨a, c, by rw [e]; simp⟩)
                        clear hO7 hg7 hat7 hbl7 q7 HO7 LO7
                        go_wp2_with fail
                        refine (pick_c b (s + 100) 4 _ HC7.out (by omega) (by omega)).mono ?_
                        rintro e w41 ⟨y, rfl, ⟨hy1, hy2⟩, hc41, ht41⟩
                        have HC41 := hid (hc41.more (show _ ≤ (s + 102) by omega))
                        have HD41 := hid (HD7.out.touch HS0.out ht41)
                        have N_41 := hid (N7.out.tch ht41 hlt0)
                        have HS41 : Hid (lo ≤ w41.heap.size) := Nat.le_trans HS7.out ht41.size
                        clear hc41 ht41
                        have f1 : IntKind.i64.wrap (2 * y) = 2 * y := IntWalk.i64_in _ (by omega)
                        have f2 : IntKind.i64.wrap (2 * y + 2) = 2 * y + 2 := IntWalk.i64_in _ (by omega)
                        have hF9 := N_41.out.tw.keep ((Below.refl _ _).alloc (Nat.le_refl _) (.cells #[.int .i64 (2 * y + 2)] 3))
                        have hcn9 := cell_new w41 (.int .i64 (2 * y + 2)) 3
                        have hlo9 : lo ≤ (w41.alloc (.cells #[.int .i64 (2 * y + 2)] 3)).heap.size := by rw [World.size_alloc]; have := HS41.out; omega
                        go_wp2_with (at_builtin; (refine wpList_push_int rfl _ _ rfl lo _ _ xs (2 * y + 2) _ rfl rfl hF9 hcn9 (by omega) hlo9 ?_; intro g9 c9 w9 hG9 hg9 hat9))
                        have N9 := hid (N_41.out.pushInt hG9 hg9 (hat9.imp (fun e => e.symm) (fun e => by subst e; simp [Value.ownBlock])))
                        have hbl9 : Below lo w41 w9 := N_41.out.intBelow HS41.out hg9
                        have HC9 := hid (HC41.out.low (hbl9.mono hlt0))
                        have HD9 := hid (HD41.out.below hbl9)
                        have HS9 : Hid (lo ≤ w9.heap.size) := Nat.le_trans HS41.out hbl9.size
                        clear hF9 hcn9 hlo9 hG9 hg9 hat9 hbl9
                        go_wp2
                        go_roundg q
                        case rel => exact ⟨_, _, q, s + 102, _, _, rfl, rfl, by go_num, by omega, rfl, by rw [List.length_append]; simp; omega, by rw [List.length_append]; simp; omega, by rw [List.length_append]; simp, by omega, N9, HC9, HD9, HS9⟩
                        case measure => omega
              · obtain rfl : q = 0 := by omega
                obtain ⟨al, nl, cl, rfl, hnl⟩ := HN1.out.rows.form3
                obtain ⟨au, nu, cu, rfl⟩ := HN1.out.tw.form3
                obtain rfl := fints_len3 HN1.out.tw
                subst hnl
                go_wp2
                go_ret2
                exact ⟨_, _, _, _, rfl, HN1.out, by omega, by omega, by omega, HC1.out.more (by omega), HD1.out⟩

theorem nested_c (b k : Nat) (n : Nat) (hn7 : n ≤ 7) (w : World) (h : Cur w b k) (hk : k ≤ 600000000000) :
    Calls Tryz.prog 47 #[.pointer (some ⟨b, 0, none⟩), .int .i64 n] w (RetNest b (k + 1000) w.heap.size w) :=
  (nested2_c b k n hn7 w h hk).mono fun _ _ ⟨v, u, _, xs, he, hN, _, _, _, hC, hD⟩ => ⟨v, u, _, xs, he, hN.r, hN.tw.r, hC, hD⟩

end Go.Proofs.YtnkbfgnmodfemaaGreatDoor
