/- Whether times are starts: both programs' functions. -/
import Derived.Test.YtegeelldcomnnaaProject
import Derived.Test.YtegeelldcomnnaaFuncs
namespace Go.Proofs.Ytegeelldcomnnaa
open Go.RowKit
open Go.Lib (hid)

/-- tasks, and a time for each -/
def timesB (L : List Tsk) (S : List Int) : Bool := tasksB L && ((S.length == L.length) && allB S 0 100000)
theorem timesB_yes {L : List Tsk} {S : List Int} (h : timesB L S = true) : tasksB L = true ∧ S.length = L.length ∧ allB S 0 100000 = true := by
  rw [timesB, Bool.and_eq_true, Bool.and_eq_true] at h
  exact ⟨h.1, eq_of_beq h.2.1, h.2.2⟩
theorem allB_at {l : List Int} {lo hi : Int} (h : allB l lo hi = true) {i : Nat} (hi' : i < l.length) : lo ≤ l.getD i 0 ∧ l.getD i 0 ≤ hi := by
  unfold allB at h
  rw [List.all_eq_true] at h
  exact inB_iff.1 (h (l.getD i 0) (by simp [List.getD, List.getElem?_eq_getElem hi']))
theorem bne_nat_t {a b : Nat} (h : a = b) : ((a : Int) == (b : Int)) = true := by subst h; simp
theorem bne_nat_f {a b : Nat} (h : ¬ a = b) : ((a : Int) == (b : Int)) = false := beq_eq_false_iff_ne.2 (by omega)

set_option maxHeartbeats 400000 in
theorem timeF_c (x : Int) (w : World) :
    Calls Try.prog 173 (#[.int .i64 x] ++ #[]) w fun e w' => e = .returned (.bool (!inB x 0 100000)) ∧ w = w' := by
  show Calls Try.prog 173 #[.int .i64 x] w _
  go_enter Try.func173, Try.ntmps173
  go_wp2_with (go_at_call 98; refine (within_c _ _ _ _).mono ?_; rintro e w' ⟨rfl, rfl⟩)
  go_ret
  exact ⟨rfl, rfl⟩

set_option maxHeartbeats 400000 in
theorem areTimes_c (u : Value) (S : List Int) (w : World) (h : RInts w u S) :
    Calls Try.prog 161 #[u] w fun e w' => e = .returned (.bool (allB S 0 100000)) ∧ w = w' := by
  go_enter Try.func161, Try.ntmps161
  go_wp2_with fail
  refine (containsFuncI_c _ S _ _ _ (fun x => !inB x 0 100000) h Try.call173 (fun x => timeF_c x _)).mono ?_
  rintro e w' ⟨rfl, rfl⟩
  have hany : (S.any fun x => !inB x 0 100000) = !allB S 0 100000 := by unfold allB; rw [Bool.eq_iff_iff]; simp
  rw [hany]
  go_wp2
  go_ret
  exact ⟨ret_bool (by simp), rfl⟩

set_option maxHeartbeats 1000000 in
theorem pjTimes_c (v u : Value) (L : List Tsk) (S : List Int) (w : World) (h : RTasks w v L) (h' : RInts w u S) :
    Calls Try.prog 138 #[v, u] w fun e w' => e = .returned (.bool (timesB L S)) ∧ Below w.heap.size w w' := by
  have hR := h
  have hR' := h'
  obtain ⟨a, cap, rfl, _, _, hc⟩ := h
  obtain ⟨b, capb, rfl, _, _, hc'⟩ := h'
  clear hc hc'
  rcases Bool.eq_false_or_eq_true (tasksB L) with t | t
  · by_cases hl : S.length = L.length
    · have hE := bne_nat_t hl
      have HLEN := hid hl; clear hl
      go_enter Try.func138, Try.ntmps138
      go_wp2_with fail
      refine (pjGood_c _ L _ hR).mono ?_
      rintro e w1 ⟨rfl, hb1⟩
      rw [t]
      have hR1 := hR'.keep hb1
      go_wp2_with (go_at_call 100; refine (l1All_c _ S _ _ _ hR1).mono ?_; rintro e w' ⟨rfl, rfl⟩)
      go_ret
      exact ⟨ret_bool (by rw [timesB, t, beq_iff_eq.2 HLEN.out]; rfl), hb1⟩
    · have hE := bne_nat_f hl
      have HLEN := hid hl; clear hl
      go_enter Try.func138, Try.ntmps138
      go_wp2_with fail
      refine (pjGood_c _ L _ hR).mono ?_
      rintro e w1 ⟨rfl, hb1⟩
      rw [t]
      go_wp2_with fail
      go_ret
      exact ⟨ret_bool (by rw [timesB, t, beq_eq_false_iff_ne.2 HLEN.out]; rfl), hb1⟩
  · go_enter Try.func138, Try.ntmps138
    go_wp2_with fail
    refine (pjGood_c _ L _ hR).mono ?_
    rintro e w1 ⟨rfl, hb1⟩
    rw [t]
    go_wp2_with fail
    go_ret
    exact ⟨ret_bool (by rw [timesB, t]; rfl), hb1⟩

set_option maxHeartbeats 1000000 in
theorem areTaskTimes_c (v u : Value) (L : List Tsk) (S : List Int) (w : World) (h : RTasks w v L) (h' : RInts w u S) :
    Calls Try.prog 126 #[v, u] w fun e w' => e = .returned (.bool (timesB L S)) ∧ Below w.heap.size w w' := by
  have hR := h
  have hR' := h'
  obtain ⟨a, cap, rfl, _, _, hc⟩ := h
  obtain ⟨b, capb, rfl, _, _, hc'⟩ := h'
  clear hc hc'
  rcases Bool.eq_false_or_eq_true (tasksB L) with t | t
  · by_cases hl : S.length = L.length
    · have hE := bne_nat_t hl
      have HLEN := hid hl; clear hl
      go_enter Try.func126, Try.ntmps126
      go_wp2_with fail
      refine (areTasks_c _ L _ hR).mono ?_
      rintro e w1 ⟨rfl, hb1⟩
      rw [t]
      have hR1 := hR'.keep hb1
      go_wp2_with (go_at_call 161; refine (areTimes_c _ S _ hR1).mono ?_; rintro e w' ⟨rfl, rfl⟩)
      go_ret
      exact ⟨ret_bool (by rw [timesB, t, beq_iff_eq.2 HLEN.out]; rfl), hb1⟩
    · have hE := bne_nat_f hl
      have HLEN := hid hl; clear hl
      go_enter Try.func126, Try.ntmps126
      go_wp2_with fail
      refine (areTasks_c _ L _ hR).mono ?_
      rintro e w1 ⟨rfl, hb1⟩
      rw [t]
      go_wp2_with fail
      go_ret
      exact ⟨ret_bool (by rw [timesB, t, beq_eq_false_iff_ne.2 HLEN.out]; rfl), hb1⟩
  · go_enter Try.func126, Try.ntmps126
    go_wp2_with fail
    refine (areTasks_c _ L _ hR).mono ?_
    rintro e w1 ⟨rfl, hb1⟩
    rw [t]
    go_wp2_with fail
    go_ret
    exact ⟨ret_bool (by rw [timesB, t]; rfl), hb1⟩

def stI (S : List Int) (L : List Tsk) (x : Int) : List Int → Bool → Bool
  | [], r => r
  | k :: ks, r => if x < S.getD k.toNat 0 + (L.getD k.toNat noTsk).time then false else stI S L x ks r
theorem stI_nil (S : List Int) (L : List Tsk) (x : Int) (r : Bool) : stI S L x [] r = r := rfl
theorem stI_yes {S : List Int} {L : List Tsk} {x : Int} {k : Int} {ks : List Int} {r : Bool} (h : x < S.getD k.toNat 0 + (L.getD k.toNat noTsk).time) : stI S L x (k :: ks) r = false := by rw [stI, if_pos h]
theorem stI_no {S : List Int} {L : List Tsk} {x : Int} {k : Int} {ks : List Int} {r : Bool} (h : ¬ x < S.getD k.toNat 0 + (L.getD k.toNat noTsk).time) : stI S L x (k :: ks) r = stI S L x ks r := by rw [stI, if_neg h]
def stO (S : List Int) (L : List Tsk) : Nat → List Tsk → Bool
  | _, [] => true
  | i, t :: ts => stI S L (S.getD i 0) t.needs (stO S L (i + 1) ts)
theorem stO_nil (S : List Int) (L : List Tsk) (i : Nat) : stO S L i [] = true := rfl
theorem stO_cons (S : List Int) (L : List Tsk) (i : Nat) (t : Tsk) (ts : List Tsk) : stO S L i (t :: ts) = stI S L (S.getD i 0) t.needs (stO S L (i + 1) ts) := rfl
/-- no task starts ahead of the end of one that it needs -/
def startsB (L : List Tsk) (S : List Int) : Bool := stO S L 0 L

set_option maxRecDepth 100000 in
set_option maxHeartbeats 2000000 in
theorem pjStarts_c (v u : Value) (L : List Tsk) (S : List Int) (w : World) (h : RTasks w v L) (h' : RInts w u S) (hL : GoodT L) (hlen : S.length = L.length) (hS : allB S 0 100000 = true) :
    Calls Try.prog 139 #[v, u] w fun e w' => e = .returned (.bool (startsB L S)) ∧ Below w.heap.size w w' := by
  have HL := hid hL; clear hL
  have HU := hid h'
  have HLEN := hid hlen; clear hlen
  have HS := hid (fun i hi => allB_at (i := i) hS hi); clear hS
  obtain ⟨g, o, cap, r, h1, h2, hv, hc⟩ := rtasks_open h
  obtain ⟨a', cap', hvv, h1', h2', _⟩ := h
  obtain ⟨b, capb, rfl, hb1, hb2, hc'⟩ := h'
  clear hc'
  have HC := hid hc; clear hc
  subst hvv
  unfold maxLen at h2' hb2
  have hl12 := HL.out.1
  go_enter Try.func139, Try.ntmps139
  go_wp2
  go_loopg [11] L.length (fun gk i wr => ∃ k : Nat, k ≤ L.length ∧ gk = L.length - k ∧ i = .int .i64 k ∧ startsB L S = stO S L k (L.drop k) ∧ Below w.heap.size w wr)
  case atStart => exact ⟨0, Nat.zero_le _, rfl, rfl, by rw [List.drop_zero]; rfl, Below.refl _ _⟩
  case round =>
    obtain ⟨k, hk, rfl, rfl, hr, hb⟩ := hrel
    obtain ⟨wo, rfl⟩ : ∃ wo : World, wo = wr := ⟨_, rfl⟩
    have HRR := hid hr; clear hr
    have HB := hid hb
    by_cases hlt : k < L.length
    · have hcell := HC.out k hlt
      have hv := hv (by omega)
      simp only [Value.slice.injEq, true_and] at hv
      obtain ⟨rfl, rfl⟩ := hv
      obtain ⟨y, hyy⟩ : ∃ y, (L.getD k noTsk).needs = y := ⟨_, rfl⟩
      obtain ⟨tm, htt⟩ : ∃ tm, (L.getD k noTsk).time = tm := ⟨_, rfl⟩
      rw [hyy, htt] at hcell
      obtain ⟨c1, c2, hy⟩ := hcell
      obtain ⟨ay, cy, hry, hy1, hy2, hyc⟩ := hy
      rw [hry] at c1
      have e1 := (hb.cell (p := ⟨g, o + k * 2, none⟩) (cell_lt c1)).trans c1
      have e2 := (hb.cell (p := ⟨g, o + k * 2 + 1, none⟩) (cell_lt c2)).trans c2
      have HY : Hid (RInts w (.slice ay y.length cy) y) := ⟨ay, cy, rfl, hy1, hy2, hyc⟩
      have HYY := hid hyy; clear hyy
      unfold maxLen at hy2
      obtain ⟨x, hxx⟩ : ∃ x, S.getD k 0 = x := ⟨_, rfl⟩
      have HXX := hid hxx; clear hxx
      clear hyc c1 c2 hry htt hb
      have hltz : (k : Int) < (L.length : Int) := by omega
      go_wp2
      go_loopg [19] y.length (fun gk i wr => ∃ j : Nat, j ≤ y.length ∧ gk = y.length - j ∧ i = .int .i64 j ∧ startsB L S = stI S L x (y.drop j) (stO S L (k + 1) (L.drop (k + 1))) ∧ Below wo.heap.size wo wr)
      case atStart => exact ⟨0, Nat.zero_le _, rfl, rfl, by rw [List.drop_zero, HRR.out, drop_cons L noTsk k hlt, stO_cons, HYY.out, HXX.out], (Below.refl _ _).alloc (Nat.le_refl _) _⟩
      case round =>
        obtain ⟨j, hj, rfl, rfl, hr, hb⟩ := hrel
        have HR1 := hid hr; clear hr
        have HB2 := hid (HB.out.trans (hb.mono HB.out.size))
        have HB1 := hid hb
        clear e1 e2
        by_cases hltj : j < y.length
        · obtain ⟨ay', cy', hv, _, _, hyc⟩ := HY.out.keep HB2.out
          simp only [Value.slice.injEq, true_and] at hv
          obtain ⟨rfl, rfl⟩ := hv
          obtain ⟨gy, oy, n', rfl, e1, HD, HX⟩ := ints_at hyc hltj
          have hx : 0 ≤ n' ∧ n' < (k : Int) := by
            have := (HL.out.2 k hlt).1 n'
            rw [HYY.out] at this
            exact this (by rw [← HX.out]; simp [List.getD, List.getElem?_eq_getElem hltj])
          obtain ⟨n, rfl⟩ : ∃ n : Nat, n' = (n : Int) := ⟨n'.toNat, by omega⟩
          have hn : n < k := by omega
          obtain ⟨b', capb', hv, _, _, hc'⟩ := HU.out.keep HB2.out
          simp only [Value.slice.injEq, true_and] at hv
          obtain ⟨rfl, rfl⟩ := hv
          obtain ⟨gb, ob, z, rfl, e2, _, HZ⟩ := ints_at hc' (show n < S.length by have := HLEN.out; omega)
          obtain ⟨gb', ob', x', he, e4, _, HX'⟩ := ints_at hc' (show k < S.length by have := HLEN.out; omega)
          simp only [Option.some.injEq, Addr.mk.injEq, and_true] at he
          obtain ⟨rfl, rfl⟩ := he
          have hxx : x = x' := HXX.out.symm.trans HX'.out
          subst hxx
          have hcell := (HC.out n (by omega)).2.1
          obtain ⟨tn, htn⟩ : ∃ tn, (L.getD n noTsk).time = tn := ⟨_, rfl⟩
          have ht0 := (HL.out.2 n (by omega)).2
          have hz0 := HS.out n (by have := HLEN.out; omega)
          rw [HZ.out] at hz0
          rw [htn] at hcell ht0
          have e3 := (HB2.out.cell (p := ⟨g, o + n * 2 + 1, none⟩) (cell_lt hcell)).trans hcell
          have HTN := hid htn
          clear hyc hb hcell htn hc'
          have hltz1 : (j : Int) < (y.length : Int) := by omega
          have hltz2 : (n : Int) < (S.length : Int) := by have := HLEN.out; omega
          have hltz4 : (k : Int) < (S.length : Int) := by have := HLEN.out; omega
          have hltz3 : (n : Int) < (L.length : Int) := by omega
          have f1 : IntKind.i64.wrap (z + tn) = z + tn := IntWalk.i64_in _ (by omega)
          by_cases hlt3 : x < z + tn
          all_goals
            go_wp2
            go_quiet (fail)
            go_wp2
          · go_ret
            exact ⟨ret_bool (by rw [HR1.out, HD.out, stI_yes (by rw [Int.toNat_natCast, HZ.out, HTN.out]; omega)]), below_dn HB2.out _⟩
          · go_roundg (y.length - (j + 1))
            case rel => exact ⟨j + 1, by omega, rfl, by go_num, by rw [HR1.out, HD.out, stI_no (by rw [Int.toNat_natCast, HZ.out, HTN.out]; omega)], below_dn HB1.out _⟩
            case measure => omega
        · have HG : Hid (startsB L S = stO S L (k + 1) (L.drop (k + 1))) := by show _ = _; rw [HR1.out, List.drop_eq_nil_of_le (by omega), stI_nil]
          clear hb
          go_wp2
          go_roundg (L.length - (k + 1))
          case rel => exact ⟨k + 1, by omega, rfl, by go_num, HG.out, HB2.out⟩
          case measure => omega
    · have HG : Hid (startsB L S = true) := by show _ = _; rw [HRR.out, List.drop_eq_nil_of_le (by omega), stO_nil]
      clear hb
      go_wp2
      go_ret
      exact ⟨ret_bool HG.out.symm, HB.out⟩

set_option maxRecDepth 100000 in
set_option maxHeartbeats 2000000 in
theorem areStarts_c (v u : Value) (L : List Tsk) (S : List Int) (w : World) (h : RTasks w v L) (h' : RInts w u S) (hL : GoodT L) (hlen : S.length = L.length) (hS : allB S 0 100000 = true) :
    Calls Try.prog 127 #[v, u] w fun e w' => e = .returned (.bool (startsB L S)) ∧ Below w.heap.size w w' := by
  have HL := hid hL; clear hL
  have HU := hid h'
  have HLEN := hid hlen; clear hlen
  have HS := hid (fun i hi => allB_at (i := i) hS hi); clear hS
  obtain ⟨g, o, cap, r, h1, h2, hv, hc⟩ := rtasks_open h
  obtain ⟨a', cap', hvv, h1', h2', _⟩ := h
  obtain ⟨b, capb, rfl, hb1, hb2, hc'⟩ := h'
  clear hc'
  have HC := hid hc; clear hc
  subst hvv
  unfold maxLen at h2' hb2
  have hl12 := HL.out.1
  go_enter Try.func127, Try.ntmps127
  go_wp2
  go_loopg [11] L.length (fun gk i wr => ∃ k : Nat, k ≤ L.length ∧ gk = L.length - k ∧ i = .int .i64 k ∧ startsB L S = stO S L k (L.drop k) ∧ Below w.heap.size w wr)
  case atStart => exact ⟨0, Nat.zero_le _, rfl, rfl, by rw [List.drop_zero]; rfl, Below.refl _ _⟩
  case round =>
    obtain ⟨k, hk, rfl, rfl, hr, hb⟩ := hrel
    obtain ⟨wo, rfl⟩ : ∃ wo : World, wo = wr := ⟨_, rfl⟩
    have HRR := hid hr; clear hr
    have HB := hid hb
    by_cases hlt : k < L.length
    · have hcell := HC.out k hlt
      have hv := hv (by omega)
      simp only [Value.slice.injEq, true_and] at hv
      obtain ⟨rfl, rfl⟩ := hv
      obtain ⟨y, hyy⟩ : ∃ y, (L.getD k noTsk).needs = y := ⟨_, rfl⟩
      obtain ⟨tm, htt⟩ : ∃ tm, (L.getD k noTsk).time = tm := ⟨_, rfl⟩
      rw [hyy, htt] at hcell
      obtain ⟨c1, c2, hy⟩ := hcell
      obtain ⟨ay, cy, hry, hy1, hy2, hyc⟩ := hy
      rw [hry] at c1
      have e1 := (hb.cell (p := ⟨g, o + k * 2, none⟩) (cell_lt c1)).trans c1
      have e2 := (hb.cell (p := ⟨g, o + k * 2 + 1, none⟩) (cell_lt c2)).trans c2
      have HY : Hid (RInts w (.slice ay y.length cy) y) := ⟨ay, cy, rfl, hy1, hy2, hyc⟩
      have HYY := hid hyy; clear hyy
      unfold maxLen at hy2
      obtain ⟨x, hxx⟩ : ∃ x, S.getD k 0 = x := ⟨_, rfl⟩
      have HXX := hid hxx; clear hxx
      clear hyc c1 c2 hry htt hb
      have hltz : (k : Int) < (L.length : Int) := by omega
      go_wp2
      go_loopg [19] y.length (fun gk i wr => ∃ j : Nat, j ≤ y.length ∧ gk = y.length - j ∧ i = .int .i64 j ∧ startsB L S = stI S L x (y.drop j) (stO S L (k + 1) (L.drop (k + 1))) ∧ Below wo.heap.size wo wr)
      case atStart => exact ⟨0, Nat.zero_le _, rfl, rfl, by rw [List.drop_zero, HRR.out, drop_cons L noTsk k hlt, stO_cons, HYY.out, HXX.out], (Below.refl _ _).alloc (Nat.le_refl _) _⟩
      case round =>
        obtain ⟨j, hj, rfl, rfl, hr, hb⟩ := hrel
        have HR1 := hid hr; clear hr
        have HB2 := hid (HB.out.trans (hb.mono HB.out.size))
        have HB1 := hid hb
        clear e1 e2
        by_cases hltj : j < y.length
        · obtain ⟨ay', cy', hv, _, _, hyc⟩ := HY.out.keep HB2.out
          simp only [Value.slice.injEq, true_and] at hv
          obtain ⟨rfl, rfl⟩ := hv
          obtain ⟨gy, oy, n', rfl, e1, HD, HX⟩ := ints_at hyc hltj
          have hx : 0 ≤ n' ∧ n' < (k : Int) := by
            have := (HL.out.2 k hlt).1 n'
            rw [HYY.out] at this
            exact this (by rw [← HX.out]; simp [List.getD, List.getElem?_eq_getElem hltj])
          obtain ⟨n, rfl⟩ : ∃ n : Nat, n' = (n : Int) := ⟨n'.toNat, by omega⟩
          have hn : n < k := by omega
          obtain ⟨b', capb', hv, _, _, hc'⟩ := HU.out.keep HB2.out
          simp only [Value.slice.injEq, true_and] at hv
          obtain ⟨rfl, rfl⟩ := hv
          obtain ⟨gb, ob, z, rfl, e2, _, HZ⟩ := ints_at hc' (show n < S.length by have := HLEN.out; omega)
          obtain ⟨gb', ob', x', he, e4, _, HX'⟩ := ints_at hc' (show k < S.length by have := HLEN.out; omega)
          simp only [Option.some.injEq, Addr.mk.injEq, and_true] at he
          obtain ⟨rfl, rfl⟩ := he
          have hxx : x = x' := HXX.out.symm.trans HX'.out
          subst hxx
          have hcell := (HC.out n (by omega)).2.1
          obtain ⟨tn, htn⟩ : ∃ tn, (L.getD n noTsk).time = tn := ⟨_, rfl⟩
          have ht0 := (HL.out.2 n (by omega)).2
          have hz0 := HS.out n (by have := HLEN.out; omega)
          rw [HZ.out] at hz0
          rw [htn] at hcell ht0
          have e3 := (HB2.out.cell (p := ⟨g, o + n * 2 + 1, none⟩) (cell_lt hcell)).trans hcell
          have HTN := hid htn
          clear hyc hb hcell htn hc'
          have hltz1 : (j : Int) < (y.length : Int) := by omega
          have hltz2 : (n : Int) < (S.length : Int) := by have := HLEN.out; omega
          have hltz4 : (k : Int) < (S.length : Int) := by have := HLEN.out; omega
          have hltz3 : (n : Int) < (L.length : Int) := by omega
          have f1 : IntKind.i64.wrap (z + tn) = z + tn := IntWalk.i64_in _ (by omega)
          by_cases hlt3 : x < z + tn
          all_goals
            go_wp2
            go_quiet (fail)
            go_wp2
          · go_ret
            exact ⟨ret_bool (by rw [HR1.out, HD.out, stI_yes (by rw [Int.toNat_natCast, HZ.out, HTN.out]; omega)]), below_dn HB2.out _⟩
          · go_roundg (y.length - (j + 1))
            case rel => exact ⟨j + 1, by omega, rfl, by go_num, by rw [HR1.out, HD.out, stI_no (by rw [Int.toNat_natCast, HZ.out, HTN.out]; omega)], below_dn HB1.out _⟩
            case measure => omega
        · have HG : Hid (startsB L S = stO S L (k + 1) (L.drop (k + 1))) := by show _ = _; rw [HR1.out, List.drop_eq_nil_of_le (by omega), stI_nil]
          clear hb
          go_wp2
          go_roundg (L.length - (k + 1))
          case rel => exact ⟨k + 1, by omega, rfl, by go_num, HG.out, HB2.out⟩
          case measure => omega
    · have HG : Hid (startsB L S = true) := by show _ = _; rw [HRR.out, List.drop_eq_nil_of_le (by omega), stO_nil]
      clear hb
      go_wp2
      go_ret
      exact ⟨ret_bool HG.out.symm, HB.out⟩

def areStB (L : List Tsk) (S : List Int) : Bool × Bool := if timesB L S then (startsB L S, true) else (false, false)
theorem areStB_yes {L : List Tsk} {S : List Int} (h : timesB L S = true) : areStB L S = (startsB L S, true) := by rw [areStB, h]; rfl
theorem areStB_no {L : List Tsk} {S : List Int} (h : timesB L S = false) : areStB L S = (false, false) := by rw [areStB, h]; rfl

set_option maxHeartbeats 1000000 in
theorem iAreStarts_u (v : Value) (L : List Tsk) (u : Value) (S : List Int) (w : World) (h : RTasks w v L) (h' : RInts w u S) :
    Calls Try.prog 51 #[v, u] w fun e w' => e = .returned (.tuple #[.bool (areStB L S).1, .bool (areStB L S).2]) ∧ Below w.heap.size w w' := by
  rcases Bool.eq_false_or_eq_true (timesB L S) with t | t
  · have HT := hid (timesB_yes t)
    have HB := hid (areStB_yes t)
    go_enter Try.func51, Try.ntmps51
    go_wp2_with fail
    refine (areTaskTimes_c _ _ L S _ h h').mono ?_
    rintro e w1 ⟨rfl, hb1⟩
    rw [t]
    have h1 := h.keep hb1
    have h1' := h'.keep hb1
    have HB1 := hid hb1; clear hb1
    go_wp2_with fail
    refine (areStarts_c _ _ L S _ h1 h1' (good_of_tasksB HT.out.1) HT.out.2.1 HT.out.2.2).mono ?_
    rintro e w2 ⟨rfl, hb2⟩
    have HB2 := hid (HB1.out.trans (hb2.mono HB1.out.size)); clear hb2
    go_wp2
    go_ret2
    exact ⟨by rw [HB.out]; rfl, HB2.out⟩
  · have HB := hid (areStB_no t)
    go_enter Try.func51, Try.ntmps51
    go_wp2_with fail
    refine (areTaskTimes_c _ _ L S _ h h').mono ?_
    rintro e w1 ⟨rfl, hb1⟩
    rw [t]
    go_wp2
    go_ret2
    exact ⟨by rw [HB.out]; rfl, hb1⟩

end Go.Proofs.Ytegeelldcomnnaa
