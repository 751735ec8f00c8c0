/- The metric of splits with numbers: both programs' functions. -/
import Derived.Test.YtnkbfgnmodfemaaGreatDoorPend
import Derived.Test.YtnkbfgnmodfemaaGreatDoorClash
namespace Go.Proofs.YtnkbfgnmodfemaaGreatDoor
open Go.RowKit
open Go.Lib (hid)

/-- the sum of the numbers of the splits that part i and j, from place k on -/
def sumS (t : List Int) (i j : Int) : Nat → Int → List (List Int) → Int
  | _, acc, [] => acc
  | k, acc, a :: rest => sumS t i j (k + 1) (if hasB a i == hasB a j then acc else acc + t.getD k 0) rest
theorem sumS_nil (t : List Int) (i j : Int) (k : Nat) (acc : Int) : sumS t i j k acc [] = acc := rfl
theorem sumS_same (t : List Int) (i j : Int) (k : Nat) (acc : Int) (a : List Int) (rest : List (List Int)) (h : hasB a i = hasB a j) : sumS t i j k acc (a :: rest) = sumS t i j (k + 1) acc rest := by rw [sumS, h]; simp
theorem sumS_diff (t : List Int) (i j : Int) (k : Nat) (acc : Int) (a : List Int) (rest : List (List Int)) (h : ¬ hasB a i = hasB a j) : sumS t i j k acc (a :: rest) = sumS t i j (k + 1) (acc + t.getD k 0) rest := by
  rw [sumS, if_neg (by simpa using h)]

def mosRow (f : Nat → Int) : Nat → Nat → List Int → Option (List Int)
  | 0, _, acc => some acc
  | d + 1, j, acc => if f j % 2 == 0 then mosRow f d (j + 1) (acc ++ [f j / 2]) else none
theorem mosRow_zero (f : Nat → Int) (j : Nat) (acc : List Int) : mosRow f 0 j acc = some acc := rfl
theorem mosRow_even (f : Nat → Int) (d j : Nat) (acc : List Int) (h : (f j % 2 == 0) = true) : mosRow f (d + 1) j acc = mosRow f d (j + 1) (acc ++ [f j / 2]) := by rw [mosRow, if_pos h]
theorem mosRow_odd (f : Nat → Int) (d j : Nat) (acc : List Int) (h : (f j % 2 == 0) = false) : mosRow f (d + 1) j acc = none := by rw [mosRow, h]; rfl
def bindM (o : Option (List Int)) (k : List Int → Option (List (List Int))) : Option (List (List Int)) := match o with | none => none | some r => k r
def mosAll (F : Nat → Nat → Int) (n : Nat) : Nat → Nat → List (List Int) → Option (List (List Int))
  | 0, _, acc => some acc
  | d + 1, i, acc => bindM (mosRow (F i) n 0 []) fun r => mosAll F n d (i + 1) (acc ++ [r])
theorem mosAll_zero (F : Nat → Nat → Int) (n i : Nat) (acc : List (List Int)) : mosAll F n 0 i acc = some acc := rfl
theorem mosAll_succ (F : Nat → Nat → Int) (n d i : Nat) (acc : List (List Int)) : mosAll F n (d + 1) i acc = bindM (mosRow (F i) n 0 []) fun r => mosAll F n d (i + 1) (acc ++ [r]) := rfl

def mosF (L : List (List Int)) (t : List Int) (i j : Nat) : Int := sumS t i j 0 0 L
def mosOk (n : Int) (L : List (List Int)) (t : List Int) : Bool := splitsB n L && ((t.length == L.length) && allB t 0 20000)
def fin? (o : Option (List (List Int))) : List (List Int) × Bool := match o with | none => ([], false) | some R => if metB R then (R, true) else ([], false)
def mosB (n : Int) (L : List (List Int)) (t : List Int) : List (List Int) × Bool := if mosOk n L t then fin? (mosAll (mosF L t) n.toNat n.toNat 0 []) else ([], false)
theorem mosB_bad (n : Int) (L : List (List Int)) (t : List Int) (h : mosOk n L t = false) : mosB n L t = ([], false) := by rw [mosB, h]; rfl
theorem mosB_ok (n : Nat) (L : List (List Int)) (t : List Int) (h : mosOk n L t = true) : mosB n L t = fin? (mosAll (mosF L t) n n 0 []) := by rw [mosB, h, if_pos rfl]; rfl
theorem fin_none : fin? none = ([], false) := rfl
theorem fin_yes (R : List (List Int)) (h : metB R = true) : fin? (some R) = (R, true) := by show (if metB R then (R, true) else ([], false)) = _; rw [if_pos h]
theorem fin_no (R : List (List Int)) (h : metB R = false) : fin? (some R) = ([], false) := by show (if metB R then (R, true) else ([], false)) = _; rw [h]; rfl
theorem mos_tot (n : Int) (L : List (List Int)) (t : List Int) : tot (mosB n L t).1 ≤ 1099511627776 := by
  rcases Bool.eq_false_or_eq_true (mosOk n L t) with h | h
  · rw [mosB, h, if_pos rfl]
    cases mosAll (mosF L t) n.toNat n.toNat 0 [] with
    | none => rw [fin_none]; simp [tot]
    | some R =>
      rcases Bool.eq_false_or_eq_true (metB R) with h' | h'
      · rw [fin_yes R h']; exact metB_tot h'
      · rw [fin_no R h']; simp [tot]
  · rw [mosB_bad n L t h]; simp [tot]

set_option maxHeartbeats 400000 in
theorem mosCl_c (x : Int) (w : World) :
    Calls Tryz.prog 42 (#[.int .i64 x] ++ #[]) w fun e w' => e = .returned (.bool (!inB x 0 20000)) ∧ w = w' := by
  show Calls Tryz.prog 42 #[.int .i64 x] w _
  go_enter Tryz.func42, Tryz.ntmps42
  go_wp2_with (go_at_call 43; refine (within_c _ _ _ _).mono ?_; rintro e w' ⟨rfl, rfl⟩)
  go_ret
  exact ⟨rfl, rfl⟩

set_option maxRecDepth 100000 in
set_option maxHeartbeats 4000000 in
theorem sMetricOfSplits_u (n : Int) (v : Value) (L : List (List Int)) (u : Value) (t : List Int) (w : World) (h : RMat w v L) (h' : RInts w u t) :
    Calls Tryz.prog 21 #[.int .i64 n, v, u] w (RetMatB w (mosB n L t)) := by
  have hR := h
  have hR' := h'
  obtain ⟨a, cap, rfl, h1, h2, hc⟩ := h
  obtain ⟨a', cap', rfl, h1', h2', hc'⟩ := h'
  clear hc hc'
  unfold maxLen at h2 h2'
  rcases Bool.eq_false_or_eq_true (splitsB n L) with hm | hm
  · by_cases hlen : t.length = L.length
    · have t1 : ((t.length : Int) != (L.length : Int)) = false := bne_nat_false hlen
      have HLEN := hid hlen; clear hlen
      rcases Bool.eq_false_or_eq_true (allB t 0 20000) with hall | hall
      · have hok : mosOk n L t = true := by rw [mosOk, hm, hall]; simp [HLEN.out]
        have hparts : 2 ≤ n ∧ n ≤ 7 ∧ L.length ≤ 12 := by
          have h0 := hm
          unfold splitsB at h0
          simp only [Bool.and_eq_true, inB_iff, decide_eq_true_eq] at h0
          exact ⟨h0.1.1, h0.1.2, h0.2.1⟩
        obtain ⟨hn2, hn7, hL12⟩ := hparts
        obtain ⟨n, rfl⟩ := Int.eq_ofNat_of_zero_le (show 0 ≤ n by omega)
        have HB := hid (mosB_ok n L t hok); clear hok
        have HBND := hid (fun i (hi : i < L.length) => allB_at hall (show i < t.length by rw [HLEN.out]; exact hi))
        go_enter Tryz.func21, Tryz.ntmps21
        go_wp2_with fail
        refine (slList_lift _ _ L _ hR).mono ?_
        rintro e w1 ⟨rfl, hb1⟩
        rw [hm]
        have hR1 := hR.keep hb1
        have hR1' := hR'.keep hb1
        go_wp2_with (go_at_call 52; refine (l1All_c _ t _ _ _ hR1').mono ?_; rintro e w' ⟨rfl, rfl⟩)
        have HR1 := hid (And.intro hR1 hR1')
        have HB1 := hid hb1
        have hs1 := hb1.size
        clear hR hR' hR1 hR1' hb1 hall hm
        go_loopg [8, 9] n (fun gk out ii wr => ∃ i : Nat, ∃ R : List (List Int), i ≤ n ∧ gk = n - i ∧ ii = .int .i64 i ∧ mosAll (mosF L t) n n 0 [] = mosAll (mosF L t) n (n - i) i R ∧ R.length = i ∧
          FMat wr w1.heap.size wr.heap.size out R ∧ Below w1.heap.size w1 wr ∧ w1.heap.size ≤ wr.heap.size)
        case atStart =>
          exact ⟨0, [], Nat.zero_le _, rfl, rfl, rfl, rfl, mat_nil _ _ _, Below.refl _ _, Nat.le_refl _⟩
        case round =>
          obtain ⟨i, R, hi, rfl, rfl, hit, hRl, hF, hb, hsz⟩ := hrel
          obtain ⟨wo, rfl⟩ : ∃ wo : World, wo = wr := ⟨_, rfl⟩
          have HIT := hid hit; clear hit
          have HRL := hid hRl; clear hRl
          have HF := hid hF
          have HBO := hid hb
          clear hF hb
          by_cases hlti : i < n
          · have HST : Hid (mosAll (mosF L t) n n 0 [] = bindM (mosRow (mosF L t i) n 0 []) fun r => mosAll (mosF L t) n (n - (i + 1)) (i + 1) (R ++ [r])) := by
              show _ = _; rw [HIT.out, show n - i = (n - (i + 1)) + 1 by omega, mosAll_succ]
            go_wp2
            go_loopg [10, 11] n (fun gk row jj wr => ∃ j : Nat, ∃ r : List Int, j ≤ n ∧ gk = n - j ∧ jj = .int .i64 j ∧ mosRow (mosF L t i) n 0 [] = mosRow (mosF L t i) (n - j) j r ∧ r.length = j ∧
              FInts wr wo.heap.size wr.heap.size row r ∧ FMat wr w1.heap.size wo.heap.size _ R ∧ Below w1.heap.size w1 wr ∧ wo.heap.size ≤ wr.heap.size)
            case atStart =>
              exact ⟨0, [], Nat.zero_le _, rfl, rfl, rfl, rfl, ints_nil _ _ _, HF.out, HBO.out, Nat.le_refl _⟩
            case round =>
              obtain ⟨j, r, hj, rfl, rfl, hir, hrl, hFr, hFm, hb, hsw⟩ := hrel
              obtain ⟨wm, rfl⟩ : ∃ wm : World, wm = wr := ⟨_, rfl⟩
              have HIR := hid hir; clear hir
              have HRL2 := hid hrl; clear hrl
              have hFR := hFr
              have HFF := hid (And.intro hFr (And.intro hFm hb))
              by_cases hltj : j < n
              · have hLm := HR1.out.1.keep (hb : Below w1.heap.size w1 wm)
                have htm := HR1.out.2.keep (hb : Below w1.heap.size w1 wm)
                obtain ⟨al, cl, hv, hl1, hl2, hlc⟩ := hLm
                simp only [Value.slice.injEq, true_and] at hv
                obtain ⟨rfl, rfl⟩ := hv
                obtain ⟨at', ct, hv, ht1, ht2, htc⟩ := htm
                simp only [Value.slice.injEq, true_and] at hv
                obtain ⟨rfl, rfl⟩ := hv
                have HLC := hid hlc
                have HTC := hid htc
                clear hlc htc hl2 ht2 hFr hFm hb
                go_wp2
                go_loop [12, 43] (fun sum xx => ∃ k : Nat, ∃ acc : Int, k ≤ L.length ∧ 0 ≤ acc ∧ acc ≤ 20000 * (k : Int) ∧ xx = .int .i64 k ∧ sum = .int .i64 acc ∧ mosF L t i j = sumS t i j k acc (L.drop k)) (fun _ xx => L.length - (intOf xx).toNat)
                case atStart => exact ⟨0, 0, Nat.zero_le _, Int.le_refl _, by omega, rfl, rfl, rfl⟩
                case round =>
                  obtain ⟨k, acc, hk, ha0, ha1, rfl, rfl, hs⟩ := hrel
                  have HS := hid hs; clear hs
                  by_cases hltk : k < L.length
                  · obtain ⟨gl, ol, rr, y, rfl, hkl, hy, HD, _⟩ := mat_at HLC.out hltk
                    obtain ⟨gt, ot, rfl, hkt⟩ := HTC.out k (by rw [HLEN.out]; exact hltk)
                    have hbk := HBND.out k hltk
                    obtain ⟨z, hz⟩ : ∃ z, t.getD k 0 = z := ⟨_, rfl⟩
                    rw [hz] at hkt hbk
                    have HZ := hid hz; clear hz
                    have htz : (k : Int) < (t.length : Int) := by rw [HLEN.out]; omega
                    rcases Bool.eq_false_or_eq_true (hasB y (i : Int)) with s1 | s1 <;> rcases Bool.eq_false_or_eq_true (hasB y (j : Int)) with s2 | s2
                    all_goals
                      go_wp2_with (go_at_call 37; refine (l1Has_c _ y _ _ hy).mono ?_; rintro e w' ⟨rfl, rfl⟩)
                    · go_round
                      case rel => exact ⟨k + 1, acc, by omega, ha0, by omega, by go_num, rfl, by rw [HS.out, HD.out, sumS_same _ _ _ _ _ _ _ (by rw [s1, s2])]⟩
                      case measure => simp [intOf]; omega
                    · go_round
                      case rel => exact ⟨k + 1, acc + z, by omega, by omega, by omega, by go_num, rfl, by rw [HS.out, HD.out, sumS_diff _ _ _ _ _ _ _ (by rw [s1, s2]; simp), HZ.out]⟩
                      case measure => simp [intOf]; omega
                    · go_round
                      case rel => exact ⟨k + 1, acc + z, by omega, by omega, by omega, by go_num, rfl, by rw [HS.out, HD.out, sumS_diff _ _ _ _ _ _ _ (by rw [s1, s2]; simp), HZ.out]⟩
                      case measure => simp [intOf]; omega
                    · go_round
                      case rel => exact ⟨k + 1, acc, by omega, ha0, by omega, by go_num, rfl, by rw [HS.out, HD.out, sumS_same _ _ _ _ _ _ _ (by rw [s1, s2])]⟩
                      case measure => simp [intOf]; omega
                  · have HSUM : Hid (mosF L t i j = acc) := by show _ = _; rw [HS.out, List.drop_eq_nil_of_le (by omega), sumS_nil]
                    rcases Bool.eq_false_or_eq_true (acc % 2 == 0) with hev | hev
                    · have hev' : (acc % 2 != 0) = false := bne_of_true hev
                      obtain ⟨p1, p2, p3⟩ := push_pre hFR (acc / 2)
                      have HP3 := hid (Nat.le_trans hsw p3); clear p3
                      have hlen : r.length + [acc / 2].length ≤ 1099511627776 := by rw [HRL2.out]; simp; omega
                      go_wp2_with (at_builtin; refine wpList_append_ints rfl _ _ rfl _ _ _ _ _ [acc / 2] rfl rfl p1 p2 hlen HP3.out ?_; intro v' w' hF' hg hn)
                      have ht := push_post HFF.out.1 hg
                      have HO : Aside (mosRow (mosF L t i) n 0 [] = mosRow (mosF L t i) (n - (j + 1)) (j + 1) (r ++ [acc / 2]) ∧ (r ++ [acc / 2]).length = j + 1) :=
                        ⟨by rw [HIR.out, show n - j = (n - (j + 1)) + 1 by omega, mosRow_even _ _ _ _ (by rw [HSUM.out]; exact hev), HSUM.out], by rw [List.length_append, HRL2.out]; rfl⟩
                      have HO2 : Aside (FMat w' w1.heap.size wo.heap.size _ R ∧ Below w1.heap.size w1 w' ∧ wo.heap.size ≤ w'.heap.size) :=
                        ⟨HFF.out.2.1.same (.of_touch ht (.inl (Nat.le_refl _))), HFF.out.2.2.trans (ht.below hsz (by omega)), Nat.le_trans hsw ht.size⟩
                      clear hg hn ht p1 p2 hFR
                      go_roundg (n - (j + 1))
                      case rel => exact ⟨j + 1, _, by omega, rfl, by go_num, HO.out.1, HO.out.2, hF', HO2.out⟩
                      case measure => omega
                    · have hev' : (acc % 2 != 0) = true := bne_of_false hev
                      have HN : Hid (mosB n L t = ([], false)) := by
                        show _ = _; rw [HB.out, HST.out, HIR.out, show n - j = (n - (j + 1)) + 1 by omega, mosRow_odd _ _ _ _ (by rw [HSUM.out]; exact hev)]; rfl
                      have HBX := hid (HB1.out.trans (HFF.out.2.2.mono hs1))
                      go_wp2
                      go_ret2
                      exact retMatB_no HBX.out HN.out _ rfl
              · obtain rfl : j = n := by omega
                have HROW : Hid (mosRow (mosF L t i) j 0 [] = some r) := by show _ = _; rw [HIR.out, Nat.sub_self, mosRow_zero]
                obtain ⟨au, nu, cu, rfl⟩ := hFR.form3
                have ha : Below wm.heap.size wm (wm.alloc (.cells #[.slice au nu cu] 27)) := (Below.refl _ _).alloc (Nat.le_refl _) _
                have q1 := hFm.keep ha
                have q2 := hFR.keep ha
                have q3 := cell_new wm (.slice au nu cu) 27
                have q4 : w1.heap.size ≤ (wm.alloc (.cells #[.slice au nu cu] 27)).heap.size := by simp; omega
                have HQ4 := hid q4
                have hkl : R.length ≤ 1099511627776 := by rw [HRL.out]; omega
                have HBB := hid hb
                clear q4 ha hFr hFm hb hFR
                go_wp2_with (at_builtin; refine wpList_append_row rfl _ _ rfl _ _ _ _ _ _ _ _ _ _ rfl rfl q1 q2 q3 (Nat.le_refl _) hsz hkl HQ4.out ?_; intro v' w' hF' hg hn)
                have ht := push_row_post HFF.out.2.1 hg
                have HO : Aside (mosAll (mosF L t) j j 0 [] = mosAll (mosF L t) j (j - (i + 1)) (i + 1) (R ++ [r]) ∧ (R ++ [r]).length = i + 1) :=
                  ⟨by rw [HST.out, HROW.out]; rfl, by rw [List.length_append, HRL.out]; rfl⟩
                have HO2 : Aside (Below w1.heap.size w1 w' ∧ w1.heap.size ≤ w'.heap.size) := ⟨HBB.out.trans (ht.below (Nat.le_refl _) (by omega)), by have := ht.size; omega⟩
                clear hg hn ht q1 q2 q3
                go_roundg (j - (i + 1))
                case rel => exact ⟨i + 1, _, by omega, rfl, by go_num, HO.out.1, HO.out.2, hF', HO2.out⟩
                case measure => omega
          · obtain rfl : i = n := by omega
            have HALL : Hid (mosAll (mosF L t) i i 0 [] = some R) := by show _ = _; rw [HIT.out, Nat.sub_self, mosAll_zero]
            have HBB := hid (HB1.out.trans (HBO.out.mono hs1) : Below w.heap.size w wo)
            have hRR := HF.out.r
            have hFF := HF.out
            obtain ⟨au, nu, cu, rfl⟩ := hFF.form3
            have HFF := hid hFF
            clear HF hFF HBO
            rcases Bool.eq_false_or_eq_true (metB R) with t3 | t3
            · have HN : Hid (mosB i L t = (R, true)) := by show _ = _; rw [HB.out, HALL.out, fin_yes R t3]
              go_wp2_with fail
              refine (meGood_b _ R _ hRR).mono ?_
              rintro e w3 ⟨rfl, hb3⟩
              rw [t3]
              have HB3 := hid hb3
              clear hRR hb3
              go_wp2
              go_ret2
              have hs3 := HB3.out.size
              exact ⟨_, by rw [HN.out]; rfl, by rw [HN.out]; exact (HFF.out.keep HB3.out).mono (by omega) (by omega), HBB.out.trans (HB3.out.mono (by omega))⟩
            · have HN : Hid (mosB i L t = ([], false)) := by show _ = _; rw [HB.out, HALL.out, fin_no R t3]
              go_wp2_with fail
              refine (meGood_b _ R _ hRR).mono ?_
              rintro e w3 ⟨rfl, hb3⟩
              rw [t3]
              clear hRR
              go_wp2
              go_ret2
              exact retMatB_no (HBB.out.trans (hb3.mono (by omega))) HN.out _ rfl
      · have HB := hid (mosB_bad n L t (by rw [mosOk, hm, hall]; simp))
        go_enter Tryz.func21, Tryz.ntmps21
        go_wp2_with fail
        refine (slList_lift _ _ L _ hR).mono ?_
        rintro e w1 ⟨rfl, hb1⟩
        rw [hm]
        have hR1' := hR'.keep hb1
        go_wp2_with (go_at_call 52; refine (l1All_c _ t _ _ _ hR1').mono ?_; rintro e w' ⟨rfl, rfl⟩)
        go_ret2
        exact retMatB_no hb1 HB.out _ rfl
    · have t1 : ((t.length : Int) != (L.length : Int)) = true := bne_nat_true hlen
      have HB := hid (mosB_bad n L t (by rw [mosOk, hm]; simp [hlen]))
      clear hlen
      go_enter Tryz.func21, Tryz.ntmps21
      go_wp2_with fail
      refine (slList_lift _ _ L _ hR).mono ?_
      rintro e w1 ⟨rfl, hb1⟩
      rw [hm]
      go_wp2
      go_ret2
      exact retMatB_no hb1 HB.out _ rfl
  · have HB := hid (mosB_bad n L t (by rw [mosOk, hm]; rfl))
    go_enter Tryz.func21, Tryz.ntmps21
    go_wp2_with fail
    refine (slList_lift _ _ L _ hR).mono ?_
    rintro e w1 ⟨rfl, hb1⟩
    rw [hm]
    go_wp2
    go_ret2
    exact retMatB_no hb1 HB.out _ rfl

set_option maxRecDepth 100000 in
set_option maxHeartbeats 4000000 in
theorem iMetricOfSplits_u (n : Int) (v : Value) (L : List (List Int)) (u : Value) (t : List Int) (w : World) (h : RMat w v L) (h' : RInts w u t) :
    Calls Tryz.prog 19 #[.int .i64 n, v, u] w (RetMatB w (mosB n L t)) := by
  have hR := h
  have hR' := h'
  obtain ⟨a, cap, rfl, h1, h2, hc⟩ := h
  obtain ⟨a', cap', rfl, h1', h2', hc'⟩ := h'
  clear hc hc'
  unfold maxLen at h2 h2'
  rcases Bool.eq_false_or_eq_true (splitsB n L) with hm | hm
  · by_cases hlen : t.length = L.length
    · have t1 : ((t.length : Int) != (L.length : Int)) = false := bne_nat_false hlen
      have HLEN := hid hlen; clear hlen
      rcases Bool.eq_false_or_eq_true (allB t 0 20000) with hall | hall
      · have hok : mosOk n L t = true := by rw [mosOk, hm, hall]; simp [HLEN.out]
        have hparts : 2 ≤ n ∧ n ≤ 7 ∧ L.length ≤ 12 := by
          have h0 := hm
          unfold splitsB at h0
          simp only [Bool.and_eq_true, inB_iff, decide_eq_true_eq] at h0
          exact ⟨h0.1.1, h0.1.2, h0.2.1⟩
        obtain ⟨hn2, hn7, hL12⟩ := hparts
        obtain ⟨n, rfl⟩ := Int.eq_ofNat_of_zero_le (show 0 ≤ n by omega)
        have HB := hid (mosB_ok n L t hok); clear hok
        have HBND := hid (fun i (hi : i < L.length) => allB_at hall (show i < t.length by rw [HLEN.out]; exact hi))
        go_enter Tryz.func19, Tryz.ntmps19
        go_wp2_with fail
        refine (areSplits_c _ _ L _ hR).mono ?_
        rintro e w1 ⟨rfl, hb1⟩
        rw [hm]
        have hR1 := hR.keep hb1
        have hR1' := hR'.keep hb1
        go_wp2_with fail
        refine (containsFuncI_c _ t _ _ _ (fun x => !inB x 0 20000) hR1' Tryz.call42 (fun x => mosCl_c x _)).mono ?_
        rintro e w' ⟨rfl, rfl⟩
        have hany : (t.any fun x => !inB x 0 20000) = false := by
          have : (t.any fun x => !inB x 0 20000) = !allB t 0 20000 := by unfold allB; rw [Bool.eq_iff_iff]; simp
          rw [this, hall]; rfl
        rw [hany]
        clear hany
        go_wp2_with fail
        have HR1 := hid (And.intro hR1 hR1')
        have HB1 := hid hb1
        have hs1 := hb1.size
        clear hR hR' hR1 hR1' hb1 hall hm
        go_loopg [8, 32] n (fun gk out ii wr => ∃ i : Nat, ∃ R : List (List Int), i ≤ n ∧ gk = n - i ∧ ii = .int .i64 i ∧ mosAll (mosF L t) n n 0 [] = mosAll (mosF L t) n (n - i) i R ∧ R.length = i ∧
          FMat wr w1.heap.size wr.heap.size out R ∧ Below w1.heap.size w1 wr ∧ w1.heap.size ≤ wr.heap.size)
        case atStart =>
          exact ⟨0, [], Nat.zero_le _, rfl, rfl, rfl, rfl, (mat_empty w1 w1.heap.size (Nat.le_refl _)).mono (Nat.le_refl _) (by simp), (Below.refl _ _).alloc (Nat.le_refl _) _, by simp⟩
        case round =>
          obtain ⟨i, R, hi, rfl, rfl, hit, hRl, hF, hb, hsz⟩ := hrel
          obtain ⟨wo, rfl⟩ : ∃ wo : World, wo = wr := ⟨_, rfl⟩
          have HIT := hid hit; clear hit
          have HRL := hid hRl; clear hRl
          have HF := hid hF
          have HBO := hid hb
          clear hF hb
          by_cases hlti : i < n
          · have HST : Hid (mosAll (mosF L t) n n 0 [] = bindM (mosRow (mosF L t i) n 0 []) fun r => mosAll (mosF L t) n (n - (i + 1)) (i + 1) (R ++ [r])) := by
              show _ = _; rw [HIT.out, show n - i = (n - (i + 1)) + 1 by omega, mosAll_succ]
            go_wp2
            go_loopg [10, 37] n (fun gk row jj wr => ∃ j : Nat, ∃ r : List Int, j ≤ n ∧ gk = n - j ∧ jj = .int .i64 j ∧ mosRow (mosF L t i) n 0 [] = mosRow (mosF L t i) (n - j) j r ∧ r.length = j ∧
              FInts wr wo.heap.size wr.heap.size row r ∧ FMat wr w1.heap.size wo.heap.size _ R ∧ Below w1.heap.size w1 wr ∧ wo.heap.size ≤ wr.heap.size)
            case atStart =>
              exact ⟨0, [], Nat.zero_le _, rfl, rfl, rfl, rfl, (ints_empty wo wo.heap.size (Nat.le_refl _)).mono (Nat.le_refl _) (by simp), HF.out.keep ((Below.refl _ _).alloc (Nat.le_refl _) _), HBO.out.alloc hsz _, by simp⟩
            case round =>
              obtain ⟨j, r, hj, rfl, rfl, hir, hrl, hFr, hFm, hb, hsw⟩ := hrel
              obtain ⟨wm, rfl⟩ : ∃ wm : World, wm = wr := ⟨_, rfl⟩
              have HIR := hid hir; clear hir
              have HRL2 := hid hrl; clear hrl
              have hFR := hFr
              have HFF := hid (And.intro hFr (And.intro hFm hb))
              by_cases hltj : j < n
              · have hLm := HR1.out.1.keep (hb : Below w1.heap.size w1 wm)
                have htm := HR1.out.2.keep (hb : Below w1.heap.size w1 wm)
                obtain ⟨al, cl, hv, hl1, hl2, hlc⟩ := hLm
                simp only [Value.slice.injEq, true_and] at hv
                obtain ⟨rfl, rfl⟩ := hv
                obtain ⟨at', ct, hv, ht1, ht2, htc⟩ := htm
                simp only [Value.slice.injEq, true_and] at hv
                obtain ⟨rfl, rfl⟩ := hv
                have HLC := hid hlc
                have HTC := hid htc
                clear hlc htc hl2 ht2 hFr hFm hb
                go_wp2
                go_loop [12, 42] (fun sum xx => ∃ k : Nat, ∃ acc : Int, k ≤ L.length ∧ 0 ≤ acc ∧ acc ≤ 20000 * (k : Int) ∧ xx = .int .i64 k ∧ sum = .int .i64 acc ∧ mosF L t i j = sumS t i j k acc (L.drop k)) (fun _ xx => L.length - (intOf xx).toNat)
                case atStart => exact ⟨0, 0, Nat.zero_le _, Int.le_refl _, by omega, rfl, rfl, rfl⟩
                case round =>
                  obtain ⟨k, acc, hk, ha0, ha1, rfl, rfl, hs⟩ := hrel
                  have HS := hid hs; clear hs
                  by_cases hltk : k < L.length
                  · obtain ⟨gl, ol, rr, y, rfl, hkl, hy, HD, _⟩ := mat_at HLC.out hltk
                    obtain ⟨gt, ot, rfl, hkt⟩ := HTC.out k (by rw [HLEN.out]; exact hltk)
                    have hbk := HBND.out k hltk
                    obtain ⟨z, hz⟩ : ∃ z, t.getD k 0 = z := ⟨_, rfl⟩
                    rw [hz] at hkt hbk
                    have HZ := hid hz; clear hz
                    have htz : (k : Int) < (t.length : Int) := by rw [HLEN.out]; omega
                    rcases Bool.eq_false_or_eq_true (hasB y (i : Int)) with s1 | s1 <;> rcases Bool.eq_false_or_eq_true (hasB y (j : Int)) with s2 | s2
                    all_goals
                      go_wp2_with (go_at_call 44; refine (contains_c _ y _ _ hy).mono ?_; rintro e w' ⟨rfl, rfl⟩)
                    · go_round
                      case rel => exact ⟨k + 1, acc, by omega, ha0, by omega, by go_num, rfl, by rw [HS.out, HD.out, sumS_same _ _ _ _ _ _ _ (by rw [s1, s2])]⟩
                      case measure => simp [intOf]; omega
                    · go_round
                      case rel => exact ⟨k + 1, acc + z, by omega, by omega, by omega, by go_num, rfl, by rw [HS.out, HD.out, sumS_diff _ _ _ _ _ _ _ (by rw [s1, s2]; simp), HZ.out]⟩
                      case measure => simp [intOf]; omega
                    · go_round
                      case rel => exact ⟨k + 1, acc + z, by omega, by omega, by omega, by go_num, rfl, by rw [HS.out, HD.out, sumS_diff _ _ _ _ _ _ _ (by rw [s1, s2]; simp), HZ.out]⟩
                      case measure => simp [intOf]; omega
                    · go_round
                      case rel => exact ⟨k + 1, acc, by omega, ha0, by omega, by go_num, rfl, by rw [HS.out, HD.out, sumS_same _ _ _ _ _ _ _ (by rw [s1, s2])]⟩
                      case measure => simp [intOf]; omega
                  · have HSUM : Hid (mosF L t i j = acc) := by show _ = _; rw [HS.out, List.drop_eq_nil_of_le (by omega), sumS_nil]
                    rcases Bool.eq_false_or_eq_true (acc % 2 == 0) with hev | hev
                    · have hev' : (acc % 2 != 0) = false := bne_of_true hev
                      obtain ⟨p1, p2, p3⟩ := push_pre hFR (acc / 2)
                      have HP3 := hid (Nat.le_trans hsw p3); clear p3
                      have hlen : r.length + [acc / 2].length ≤ 1099511627776 := by rw [HRL2.out]; simp; omega
                      go_wp2_with (at_builtin; refine wpList_append_ints rfl _ _ rfl _ _ _ _ _ [acc / 2] rfl rfl p1 p2 hlen HP3.out ?_; intro v' w' hF' hg hn)
                      have ht := push_post HFF.out.1 hg
                      have HO : Aside (mosRow (mosF L t i) n 0 [] = mosRow (mosF L t i) (n - (j + 1)) (j + 1) (r ++ [acc / 2]) ∧ (r ++ [acc / 2]).length = j + 1) :=
                        ⟨by rw [HIR.out, show n - j = (n - (j + 1)) + 1 by omega, mosRow_even _ _ _ _ (by rw [HSUM.out]; exact hev), HSUM.out], by rw [List.length_append, HRL2.out]; rfl⟩
                      have HO2 : Aside (FMat w' w1.heap.size wo.heap.size _ R ∧ Below w1.heap.size w1 w' ∧ wo.heap.size ≤ w'.heap.size) :=
                        ⟨HFF.out.2.1.same (.of_touch ht (.inl (Nat.le_refl _))), HFF.out.2.2.trans (ht.below hsz (by omega)), Nat.le_trans hsw ht.size⟩
                      clear hg hn ht p1 p2 hFR
                      go_roundg (n - (j + 1))
                      case rel => exact ⟨j + 1, _, by omega, rfl, by go_num, HO.out.1, HO.out.2, hF', HO2.out⟩
                      case measure => omega
                    · have hev' : (acc % 2 != 0) = true := bne_of_false hev
                      have HN : Hid (mosB n L t = ([], false)) := by
                        show _ = _; rw [HB.out, HST.out, HIR.out, show n - j = (n - (j + 1)) + 1 by omega, mosRow_odd _ _ _ _ (by rw [HSUM.out]; exact hev)]; rfl
                      have HBX := hid (HB1.out.trans (HFF.out.2.2.mono hs1))
                      go_wp2
                      go_ret2
                      exact retMatB_no HBX.out HN.out _ rfl
              · obtain rfl : j = n := by omega
                have HROW : Hid (mosRow (mosF L t i) j 0 [] = some r) := by show _ = _; rw [HIR.out, Nat.sub_self, mosRow_zero]
                obtain ⟨au, nu, cu, rfl⟩ := hFR.form3
                have ha : Below wm.heap.size wm (wm.alloc (.cells #[.slice au nu cu] 27)) := (Below.refl _ _).alloc (Nat.le_refl _) _
                have q1 := hFm.keep ha
                have q2 := hFR.keep ha
                have q3 := cell_new wm (.slice au nu cu) 27
                have q4 : w1.heap.size ≤ (wm.alloc (.cells #[.slice au nu cu] 27)).heap.size := by simp; omega
                have HQ4 := hid q4
                have hkl : R.length ≤ 1099511627776 := by rw [HRL.out]; omega
                have HBB := hid hb
                clear q4 ha hFr hFm hb hFR
                go_wp2_with (at_builtin; refine wpList_append_row rfl _ _ rfl _ _ _ _ _ _ _ _ _ _ rfl rfl q1 q2 q3 (Nat.le_refl _) hsz hkl HQ4.out ?_; intro v' w' hF' hg hn)
                have ht := push_row_post HFF.out.2.1 hg
                have HO : Aside (mosAll (mosF L t) j j 0 [] = mosAll (mosF L t) j (j - (i + 1)) (i + 1) (R ++ [r]) ∧ (R ++ [r]).length = i + 1) :=
                  ⟨by rw [HST.out, HROW.out]; rfl, by rw [List.length_append, HRL.out]; rfl⟩
                have HO2 : Aside (Below w1.heap.size w1 w' ∧ w1.heap.size ≤ w'.heap.size) := ⟨HBB.out.trans (ht.below (Nat.le_refl _) (by omega)), by have := ht.size; omega⟩
                clear hg hn ht q1 q2 q3
                go_roundg (j - (i + 1))
                case rel => exact ⟨i + 1, _, by omega, rfl, by go_num, HO.out.1, HO.out.2, hF', HO2.out⟩
                case measure => omega
          · obtain rfl : i = n := by omega
            have HALL : Hid (mosAll (mosF L t) i i 0 [] = some R) := by show _ = _; rw [HIT.out, Nat.sub_self, mosAll_zero]
            have HBB := hid (HB1.out.trans (HBO.out.mono hs1) : Below w.heap.size w wo)
            have hRR := HF.out.r
            have hFF := HF.out
            obtain ⟨au, nu, cu, rfl⟩ := hFF.form3
            have HFF := hid hFF
            clear HF hFF HBO
            rcases Bool.eq_false_or_eq_true (metB R) with t3 | t3
            · have HN : Hid (mosB i L t = (R, true)) := by show _ = _; rw [HB.out, HALL.out, fin_yes R t3]
              go_wp2_with fail
              refine (toldMetric_yes _ R _ hRR t3).mono ?_
              rintro e w3 ⟨rfl, hb3⟩
              have HB3 := hid hb3
              clear hRR hb3
              go_wp2
              go_ret2
              have hs3 := HB3.out.size
              exact ⟨_, by rw [HN.out]; rfl, by rw [HN.out]; exact (HFF.out.keep HB3.out).mono (by omega) (by omega), HBB.out.trans (HB3.out.mono (by omega))⟩
            · have HN : Hid (mosB i L t = ([], false)) := by show _ = _; rw [HB.out, HALL.out, fin_no R t3]
              go_wp2_with fail
              refine (toldMetric_no _ R _ hRR t3).mono ?_
              rintro e w3 ⟨rfl, hb3⟩
              clear hRR
              go_wp2
              go_ret2
              exact retMatB_no (HBB.out.trans (hb3.mono (by omega))) HN.out _ rfl
      · have HB := hid (mosB_bad n L t (by rw [mosOk, hm, hall]; simp))
        go_enter Tryz.func19, Tryz.ntmps19
        go_wp2_with fail
        refine (areSplits_c _ _ L _ hR).mono ?_
        rintro e w1 ⟨rfl, hb1⟩
        rw [hm]
        have hR1' := hR'.keep hb1
        go_wp2_with fail
        refine (containsFuncI_c _ t _ _ _ (fun x => !inB x 0 20000) hR1' Tryz.call42 (fun x => mosCl_c x _)).mono ?_
        rintro e w' ⟨rfl, rfl⟩
        have hany : (t.any fun x => !inB x 0 20000) = true := by
          have : (t.any fun x => !inB x 0 20000) = !allB t 0 20000 := by unfold allB; rw [Bool.eq_iff_iff]; simp
          rw [this, hall]; rfl
        rw [hany]
        clear hany
        go_wp2_with fail
        go_ret2
        exact retMatB_no hb1 HB.out _ rfl
    · have t1 : ((t.length : Int) != (L.length : Int)) = true := bne_nat_true hlen
      have HB := hid (mosB_bad n L t (by rw [mosOk, hm]; simp [hlen]))
      clear hlen
      go_enter Tryz.func19, Tryz.ntmps19
      go_wp2_with fail
      refine (areSplits_c _ _ L _ hR).mono ?_
      rintro e w1 ⟨rfl, hb1⟩
      rw [hm]
      go_wp2
      go_ret2
      exact retMatB_no hb1 HB.out _ rfl
  · have HB := hid (mosB_bad n L t (by rw [mosOk, hm]; rfl))
    go_enter Tryz.func19, Tryz.ntmps19
    go_wp2_with fail
    refine (areSplits_c _ _ L _ hR).mono ?_
    rintro e w1 ⟨rfl, hb1⟩
    rw [hm]
    go_wp2
    go_ret2
    exact retMatB_no hb1 HB.out _ rfl

end Go.Proofs.YtnkbfgnmodfemaaGreatDoor
