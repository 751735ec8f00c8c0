/- Whether vertices and links are a graph: both programs' functions. -/
import Derived.Test.YtifdhapaonideaaLink
namespace Go.Proofs.Ytifdhapaonideaa
open Go.RowKit
open Go.Lib (hid)

/-- one link by itself -/
def lnkB (n : Int) (x : Lnk) : Bool := inB x.b 1 (n - 1) && inB x.a 0 (x.b - 1) && inB x.n 1 5
/-- y is ahead of x -/
def aheadB (y x : Lnk) : Bool := decide (y.a < x.a) || (y.a == x.a && decide (y.b < x.b))
def goodL (n : Int) : Option Lnk → List Lnk → Bool
  | _, [] => true
  | p, x :: xs => lnkB n x && ((match p with | none => true | some y => aheadB y x) && goodL n (some x) xs)
/-- n vertices and links are a graph -/
def goodG (n : Int) (L : List Lnk) : Bool := inB n 1 8 && goodL n none L
def prevL (l : List Lnk) (k : Nat) : Option Lnk := if k = 0 then none else some (l.getD (k - 1) noLnk)
theorem prevL_none (l : List Lnk) (k : Nat) (h : ¬ 0 < k) : prevL l k = none := by unfold prevL; rw [if_pos (by omega)]
theorem prevL_succ (l : List Lnk) (k : Nat) : prevL l (k + 1) = some (l.getD k noLnk) := by simp [prevL]
theorem goodL_cons (n : Int) (p : Option Lnk) (x : Lnk) (xs : List Lnk) : goodL n p (x :: xs) = (lnkB n x && ((match p with | none => true | some y => aheadB y x) && goodL n (some x) xs)) := rfl
theorem goodL_nil (n : Int) (p : Option Lnk) : goodL n p [] = true := by cases p <;> rfl
theorem goodL_bad {n : Int} {x : Lnk} (h : lnkB n x = false) (p : Option Lnk) (xs : List Lnk) : goodL n p (x :: xs) = false := by rw [goodL_cons, h, Bool.false_and]
theorem goodL_first {n : Int} {x : Lnk} (h : lnkB n x = true) (xs : List Lnk) : goodL n none (x :: xs) = goodL n (some x) xs := by rw [goodL_cons, h]; rfl
theorem goodL_next {n : Int} {x y : Lnk} (h : lnkB n x = true) (h' : aheadB y x = true) (xs : List Lnk) : goodL n (some y) (x :: xs) = goodL n (some x) xs := by rw [goodL_cons, h]; simp [h']
theorem goodL_late {n : Int} {x y : Lnk} (h' : aheadB y x = false) (xs : List Lnk) : goodL n (some y) (x :: xs) = false := by rw [goodL_cons]; simp [h']
theorem lnkB_parts (n : Int) (a b m : Int) : lnkB n ⟨a, b, m⟩ = (inB b 1 (n - 1) && inB a 0 (b - 1) && inB m 1 5) := rfl
theorem lnkB_parts2 (n : Int) (a b m : Int) : lnkB n ⟨a, b, m⟩ = (inB a 0 (n - 1) && inB b 0 (n - 1) && decide (a < b) && inB m 1 5) := by
  unfold lnkB
  rw [Bool.eq_iff_iff]
  simp [inB]
  omega

set_option maxRecDepth 100000 in
set_option maxHeartbeats 4000000 in
theorem chGood_c (n : Int) (v : Value) (L : List Lnk) (w : World) (h : RLinks w v L) :
    Calls Try.prog 89 #[.int .i64 n, v] w fun e w' => e = .returned (.bool (goodG n L)) ∧ Below w.heap.size w w' := by
  have HR := hid h
  obtain ⟨a, cap, rfl, h1, h2, hc⟩ := h
  clear hc
  unfold maxLen at h2
  rcases Bool.eq_false_or_eq_true (inB n 1 8) with hn | hn
  · obtain ⟨hn1, hn2⟩ := inB_iff.1 hn
    have HG : Hid (goodG n L = goodL n none L) := by show goodG n L = goodL n none L; rw [goodG, hn, Bool.true_and]
    go_enter Try.func89, Try.ntmps89
    go_wp2_with (go_at_call 80; refine (l1In_c _ _ _ _).mono ?_; rintro e w' ⟨rfl, rfl⟩)
    clear hn
    go_loopg [12] L.length (fun gk i wr => ∃ k : Nat, k ≤ L.length ∧ gk = L.length - k ∧ i = .int .i64 k ∧ goodL n none L = goodL n (prevL L k) (L.drop k) ∧ Below w.heap.size w wr)
    case atStart => exact ⟨0, Nat.zero_le _, rfl, rfl, rfl, Below.refl _ _⟩
    case round =>
      obtain ⟨k, hk, rfl, rfl, hr, hb⟩ := hrel
      have HRR := hid hr; clear hr
      have HB := hid hb
      by_cases hlt : k < L.length
      · have hR := HR.out.keep hb
        have hab : ∀ o : Obj, Below w.heap.size w (wr.alloc o) := fun o => hb.alloc hb.size _
        have HAB := hid hab; clear hab
        obtain ⟨a', cap', hv, _, _, hc⟩ := hR
        simp only [Value.slice.injEq, true_and] at hv
        obtain ⟨rfl, rfl⟩ := hv
        obtain ⟨g, o, x, y, z, rfl, c1, c2, c3, HD, HX⟩ := links_at hc hlt
        have hg := cell_lt c1
        have hltz : (k : Int) < (L.length : Int) := by omega
        rcases Bool.eq_false_or_eq_true (lnkB n ⟨x, y, z⟩) with hl | hl
        · have HL := hid hl
          have hparts := hl
          rw [lnkB_parts] at hparts
          simp only [Bool.and_eq_true] at hparts
          obtain ⟨⟨t1, t2⟩, t3⟩ := hparts
          have b1 := (inB_iff.1 t2).2
          have b2 := (inB_iff.1 t1).2
          have b4 := (inB_iff.1 t1).1
          clear hl
          by_cases hk0 : 0 < k
          · obtain ⟨j, rfl⟩ : ∃ j, k = j + 1 := ⟨k - 1, by omega⟩
            obtain ⟨g', o', x', y', z', hg', d1, d2, d3, _, HY⟩ := links_at hc (show j < L.length by omega)
            simp only [Option.some.injEq, Addr.mk.injEq, and_true] at hg'
            obtain ⟨rfl, rfl⟩ := hg'
            clear hc hb hk0
            have HP := hid (prevL_succ L j)
            have q0 : (0 : Int) < (j : Int) + 1 := by omega
            by_cases q1 : x' < x
            · have HA : Hid (aheadB ⟨x', y', z'⟩ ⟨x, y, z⟩ = true) := by show _ = _; simp [aheadB, q1]
              have q2 : ¬ x < x' := by omega
              have q6 : decide (x < x') = false := decide_eq_false q2
              have q3 : (x' == x) = false := by rw [beq_eq_false_iff_ne]; omega
              go_wp2_with (go_at_call 80; refine (l1In_c _ _ _ _).mono ?_; rintro e w' ⟨rfl, rfl⟩)
              go_quiet (fail)
              go_wp2
              go_roundg (L.length - (j + 1 + 1))
              case rel => exact ⟨j + 1 + 1, by omega, rfl, by go_num, by rw [HRR.out, HP.out, HY.out, HD.out, goodL_next HL.out HA.out, prevL_succ, HX.out], below_drewN (HAB.out _) _⟩
              case measure => omega
            · by_cases q2 : x < x'
              · have HA : Hid (aheadB ⟨x', y', z'⟩ ⟨x, y, z⟩ = false) := by show _ = _; simp [aheadB]; omega
                have q6 : decide (x < x') = true := decide_eq_true q2
                go_wp2_with (go_at_call 80; refine (l1In_c _ _ _ _).mono ?_; rintro e w' ⟨rfl, rfl⟩)
                go_quiet (fail)
                go_wp2
                go_ret
                exact ⟨ret_bool (by rw [HG.out, HRR.out, HP.out, HY.out, HD.out, goodL_late HA.out]), below_drewN (HAB.out _) _⟩
              · have q3 : (x' == x) = true := by rw [beq_iff_eq]; omega
                have q6 : decide (x < x') = false := decide_eq_false q2
                by_cases q4 : y' < y
                · have HA : Hid (aheadB ⟨x', y', z'⟩ ⟨x, y, z⟩ = true) := by show _ = _; simp only [aheadB]; rw [q3]; simp [q4]
                  have q5 : ¬ y ≤ y' := by omega
                  have q7 : decide (y ≤ y') = false := decide_eq_false q5
                  go_wp2_with (go_at_call 80; refine (l1In_c _ _ _ _).mono ?_; rintro e w' ⟨rfl, rfl⟩)
                  go_quiet (fail)
                  go_wp2
                  go_roundg (L.length - (j + 1 + 1))
                  case rel => exact ⟨j + 1 + 1, by omega, rfl, by go_num, by rw [HRR.out, HP.out, HY.out, HD.out, goodL_next HL.out HA.out, prevL_succ, HX.out], below_drewN (HAB.out _) _⟩
                  case measure => omega
                · have HA : Hid (aheadB ⟨x', y', z'⟩ ⟨x, y, z⟩ = false) := by show _ = _; simp [aheadB]; omega
                  have q5 : y ≤ y' := by omega
                  have q7 : decide (y ≤ y') = true := decide_eq_true q5
                  go_wp2_with (go_at_call 80; refine (l1In_c _ _ _ _).mono ?_; rintro e w' ⟨rfl, rfl⟩)
                  go_quiet (fail)
                  go_wp2
                  go_ret
                  exact ⟨ret_bool (by rw [HG.out, HRR.out, HP.out, HY.out, HD.out, goodL_late HA.out]), below_drewN (HAB.out _) _⟩
          · clear hc hb
            have hk1 : k = 0 := by omega
            subst hk1
            have HP := hid (prevL_none L 0 (by omega))
            simp only [Nat.zero_mul, Nat.add_zero] at c1 c2 c3
            go_wp2_with (go_at_call 80; refine (l1In_c _ _ _ _).mono ?_; rintro e w' ⟨rfl, rfl⟩)
            go_quiet (fail)
            go_wp2
            go_roundg (L.length - (0 + 1))
            case rel => exact ⟨0 + 1, by omega, rfl, by go_num, by rw [HRR.out, HP.out, HD.out, goodL_first HL.out, prevL_succ, HX.out], below_drewN (HAB.out _) _⟩
            case measure => omega
        · have HL := hid hl
          have hparts := hl
          clear hc hb
          rw [lnkB_parts] at hparts
          rcases Bool.eq_false_or_eq_true (inB y 1 (n - 1)) with t1 | t1
          · have b2 := inB_iff.1 t1
            rcases Bool.eq_false_or_eq_true (inB x 0 (y - 1)) with t2 | t2
            · rw [t1, t2, Bool.true_and, Bool.true_and] at hparts
              clear hl
              go_wp2_with (go_at_call 80; refine (l1In_c _ _ _ _).mono ?_; rintro e w' ⟨rfl, rfl⟩)
              go_ret
              exact ⟨ret_bool (by rw [HG.out, HRR.out, HD.out, goodL_bad HL.out]), HAB.out _⟩
            · clear hl hparts
              go_wp2_with (go_at_call 80; refine (l1In_c _ _ _ _).mono ?_; rintro e w' ⟨rfl, rfl⟩)
              go_ret
              exact ⟨ret_bool (by rw [HG.out, HRR.out, HD.out, goodL_bad HL.out]), HAB.out _⟩
          · clear hl hparts
            go_wp2_with (go_at_call 80; refine (l1In_c _ _ _ _).mono ?_; rintro e w' ⟨rfl, rfl⟩)
            go_ret
            exact ⟨ret_bool (by rw [HG.out, HRR.out, HD.out, goodL_bad HL.out]), HAB.out _⟩
      · clear hb
        go_wp2
        go_ret
        exact ⟨ret_bool (by rw [HG.out, HRR.out, List.drop_eq_nil_of_le (by omega), goodL_nil]), HB.out⟩
  · have HN := hid hn
    go_enter Try.func89, Try.ntmps89
    go_wp2_with (go_at_call 80; refine (l1In_c _ _ _ _).mono ?_; rintro e w' ⟨rfl, rfl⟩)
    go_ret
    exact ⟨ret_bool (by rw [goodG, HN.out, Bool.false_and]), Below.refl _ _⟩
set_option maxRecDepth 100000 in
set_option maxHeartbeats 4000000 in
theorem isGraph_c (n : Int) (v : Value) (L : List Lnk) (w : World) (h : RLinks w v L) :
    Calls Try.prog 101 #[.int .i64 n, v] w fun e w' => e = .returned (.bool (goodG n L)) ∧ Below w.heap.size w w' := by
  have HR := hid h
  obtain ⟨a, cap, rfl, h1, h2, hc⟩ := h
  clear hc
  unfold maxLen at h2
  rcases Bool.eq_false_or_eq_true (inB n 1 8) with hn | hn
  · obtain ⟨hn1, hn2⟩ := inB_iff.1 hn
    have HG : Hid (goodG n L = goodL n none L) := by show goodG n L = goodL n none L; rw [goodG, hn, Bool.true_and]
    go_enter Try.func101, Try.ntmps101
    go_wp2_with (go_at_call 96; refine (within_c _ _ _ _).mono ?_; rintro e w' ⟨rfl, rfl⟩)
    clear hn
    go_loopg [12] L.length (fun gk i wr => ∃ k : Nat, k ≤ L.length ∧ gk = L.length - k ∧ i = .int .i64 k ∧ goodL n none L = goodL n (prevL L k) (L.drop k) ∧ Below w.heap.size w wr)
    case atStart => exact ⟨0, Nat.zero_le _, rfl, rfl, rfl, Below.refl _ _⟩
    case round =>
      obtain ⟨k, hk, rfl, rfl, hr, hb⟩ := hrel
      have HRR := hid hr; clear hr
      have HB := hid hb
      by_cases hlt : k < L.length
      · have hR := HR.out.keep hb
        have hab : ∀ o : Obj, Below w.heap.size w (wr.alloc o) := fun o => hb.alloc hb.size _
        have HAB := hid hab; clear hab
        obtain ⟨a', cap', hv, _, _, hc⟩ := hR
        simp only [Value.slice.injEq, true_and] at hv
        obtain ⟨rfl, rfl⟩ := hv
        obtain ⟨g, o, x, y, z, rfl, c1, c2, c3, HD, HX⟩ := links_at hc hlt
        have hg := cell_lt c1
        have hltz : (k : Int) < (L.length : Int) := by omega
        rcases Bool.eq_false_or_eq_true (lnkB n ⟨x, y, z⟩) with hl | hl
        · have HL := hid hl
          have hparts := hl
          rw [lnkB_parts2] at hparts
          simp only [Bool.and_eq_true] at hparts
          obtain ⟨⟨⟨t1, t2⟩, t4⟩, t3⟩ := hparts
          have b1 := of_decide_eq_true t4
          have b2 := (inB_iff.1 t2).2
          have b3 : ¬ y ≤ x := by omega
          clear hl
          by_cases hk0 : 0 < k
          · obtain ⟨j, rfl⟩ : ∃ j, k = j + 1 := ⟨k - 1, by omega⟩
            obtain ⟨g', o', x', y', z', hg', d1, d2, d3, _, HY⟩ := links_at hc (show j < L.length by omega)
            simp only [Option.some.injEq, Addr.mk.injEq, and_true] at hg'
            obtain ⟨rfl, rfl⟩ := hg'
            clear hc hb hk0
            have HP := hid (prevL_succ L j)
            have q0 : (0 : Int) < (j : Int) + 1 := by omega
            by_cases q1 : x' < x
            · have HA : Hid (aheadB ⟨x', y', z'⟩ ⟨x, y, z⟩ = true) := by show _ = _; simp [aheadB, q1]
              have q2 : ¬ x < x' := by omega
              have q6 : decide (x < x') = false := decide_eq_false q2
              have q3 : (x' == x) = false := by rw [beq_eq_false_iff_ne]; omega
              go_wp2_with (go_at_call 96; refine (within_c _ _ _ _).mono ?_; rintro e w' ⟨rfl, rfl⟩)
              go_quiet (fail)
              go_wp2
              go_roundg (L.length - (j + 1 + 1))
              case rel => exact ⟨j + 1 + 1, by omega, rfl, by go_num, by rw [HRR.out, HP.out, HY.out, HD.out, goodL_next HL.out HA.out, prevL_succ, HX.out], below_drewN (HAB.out _) _⟩
              case measure => omega
            · by_cases q2 : x < x'
              · have HA : Hid (aheadB ⟨x', y', z'⟩ ⟨x, y, z⟩ = false) := by show _ = _; simp [aheadB]; omega
                have q6 : decide (x < x') = true := decide_eq_true q2
                go_wp2_with (go_at_call 96; refine (within_c _ _ _ _).mono ?_; rintro e w' ⟨rfl, rfl⟩)
                go_quiet (fail)
                go_wp2
                go_ret
                exact ⟨ret_bool (by rw [HG.out, HRR.out, HP.out, HY.out, HD.out, goodL_late HA.out]), below_drewN (HAB.out _) _⟩
              · have q3 : (x' == x) = true := by rw [beq_iff_eq]; omega
                have q6 : decide (x < x') = false := decide_eq_false q2
                by_cases q4 : y' < y
                · have HA : Hid (aheadB ⟨x', y', z'⟩ ⟨x, y, z⟩ = true) := by show _ = _; simp only [aheadB]; rw [q3]; simp [q4]
                  have q5 : ¬ y ≤ y' := by omega
                  have q7 : decide (y ≤ y') = false := decide_eq_false q5
                  go_wp2_with (go_at_call 96; refine (within_c _ _ _ _).mono ?_; rintro e w' ⟨rfl, rfl⟩)
                  go_quiet (fail)
                  go_wp2
                  go_roundg (L.length - (j + 1 + 1))
                  case rel => exact ⟨j + 1 + 1, by omega, rfl, by go_num, by rw [HRR.out, HP.out, HY.out, HD.out, goodL_next HL.out HA.out, prevL_succ, HX.out], below_drewN (HAB.out _) _⟩
                  case measure => omega
                · have HA : Hid (aheadB ⟨x', y', z'⟩ ⟨x, y, z⟩ = false) := by show _ = _; simp [aheadB]; omega
                  have q5 : y ≤ y' := by omega
                  have q7 : decide (y ≤ y') = true := decide_eq_true q5
                  go_wp2_with (go_at_call 96; refine (within_c _ _ _ _).mono ?_; rintro e w' ⟨rfl, rfl⟩)
                  go_quiet (fail)
                  go_wp2
                  go_ret
                  exact ⟨ret_bool (by rw [HG.out, HRR.out, HP.out, HY.out, HD.out, goodL_late HA.out]), below_drewN (HAB.out _) _⟩
          · clear hc hb
            have hk1 : k = 0 := by omega
            subst hk1
            have HP := hid (prevL_none L 0 (by omega))
            simp only [Nat.zero_mul, Nat.add_zero] at c1 c2 c3
            go_wp2_with (go_at_call 96; refine (within_c _ _ _ _).mono ?_; rintro e w' ⟨rfl, rfl⟩)
            go_quiet (fail)
            go_wp2
            go_roundg (L.length - (0 + 1))
            case rel => exact ⟨0 + 1, by omega, rfl, by go_num, by rw [HRR.out, HP.out, HD.out, goodL_first HL.out, prevL_succ, HX.out], below_drewN (HAB.out _) _⟩
            case measure => omega
        · have HL := hid hl
          have hparts := hl
          clear hc hb
          rw [lnkB_parts2] at hparts
          rcases Bool.eq_false_or_eq_true (inB x 0 (n - 1)) with t1 | t1
          · rcases Bool.eq_false_or_eq_true (inB y 0 (n - 1)) with t2 | t2
            · by_cases t4 : x < y
              · rw [t1, t2, decide_eq_true t4, Bool.true_and, Bool.true_and, Bool.true_and] at hparts
                have b3 : ¬ y ≤ x := by omega
                clear hl
                go_wp2_with (go_at_call 96; refine (within_c _ _ _ _).mono ?_; rintro e w' ⟨rfl, rfl⟩)
                go_ret
                exact ⟨ret_bool (by rw [HG.out, HRR.out, HD.out, goodL_bad HL.out]), HAB.out _⟩
              · have b3 : y ≤ x := by omega
                clear hl hparts
                go_wp2_with (go_at_call 96; refine (within_c _ _ _ _).mono ?_; rintro e w' ⟨rfl, rfl⟩)
                go_ret
                exact ⟨ret_bool (by rw [HG.out, HRR.out, HD.out, goodL_bad HL.out]), HAB.out _⟩
            · clear hl hparts
              go_wp2_with (go_at_call 96; refine (within_c _ _ _ _).mono ?_; rintro e w' ⟨rfl, rfl⟩)
              go_ret
              exact ⟨ret_bool (by rw [HG.out, HRR.out, HD.out, goodL_bad HL.out]), HAB.out _⟩
          · clear hl hparts
            go_wp2_with (go_at_call 96; refine (within_c _ _ _ _).mono ?_; rintro e w' ⟨rfl, rfl⟩)
            go_ret
            exact ⟨ret_bool (by rw [HG.out, HRR.out, HD.out, goodL_bad HL.out]), HAB.out _⟩
      · clear hb
        go_wp2
        go_ret
        exact ⟨ret_bool (by rw [HG.out, HRR.out, List.drop_eq_nil_of_le (by omega), goodL_nil]), HB.out⟩
  · have HN := hid hn
    go_enter Try.func101, Try.ntmps101
    go_wp2_with (go_at_call 96; refine (within_c _ _ _ _).mono ?_; rintro e w' ⟨rfl, rfl⟩)
    go_ret
    exact ⟨ret_bool (by rw [goodG, HN.out, Bool.false_and]), Below.refl _ _⟩

end Go.Proofs.Ytifdhapaonideaa
