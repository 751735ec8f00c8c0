/- The first two splits of a list that are not compatible: both programs' functions. -/
import Derived.Test.YtnkbfgnmodfemaaGreatDoorFit
import Derived.Test.YtnkbfgnmodfemaaGreatDoorFuncs
namespace Go.Proofs.YtnkbfgnmodfemaaGreatDoor
open Go.RowKit
open Go.Lib (hid)

theorem bne_nat {a b : Nat} : ((a : Int) != (b : Int)) = !(a == b) := by
  rw [Bool.eq_iff_iff]; simp; omega

/-- all lists are splits of n points, and not too many -/
def splitsB (n : Int) (L : List (List Int)) : Bool := inB n 2 7 && (decide (L.length ≤ 12) && L.all fun a => splitB n a)
def goodsB (n : Int) (L : List (List Int)) : Bool := L.all fun a => splitB n a
theorem goodsB_cons (n : Int) (a : List Int) (L : List (List Int)) : goodsB n (a :: L) = (splitB n a && goodsB n L) := rfl
theorem goodsB_nil (n : Int) : goodsB n [] = true := rfl

set_option maxHeartbeats 1000000 in
theorem slList_c (n : Int) (v : Value) (L : List (List Int)) (w : World) (h : RMat w v L) :
    Calls Tryz.prog 51 #[.int .i64 n, v] w fun e w' => e = .returned (.bool (splitsB n L)) ∧ w = w' := by
  obtain ⟨a, cap, rfl, h1, h2, hc⟩ := h
  unfold maxLen at h2
  have HS : Hid (splitsB n L = (inB n 2 7 && (decide (L.length ≤ 12) && goodsB n L))) := rfl
  go_enter Tryz.func51, Tryz.ntmps51
  go_wp2
  go_loop [9] (fun i => ∃ k : Nat, k ≤ L.length ∧ i = .int .i64 k ∧ goodsB n L = goodsB n (L.drop k)) (fun i => L.length - (intOf i).toNat)
  case atStart => exact ⟨0, Nat.zero_le _, rfl, rfl⟩
  case round =>
    obtain ⟨k, hk, rfl, hr⟩ := hrel
    have HR := hid hr; clear hr
    by_cases hlt : k < L.length
    · obtain ⟨g, o, r, x, rfl, hk, hx, HD, _⟩ := mat_at hc hlt
      clear hc
      rcases Bool.eq_false_or_eq_true (splitB n x) with t | t
      all_goals go_wp2_with (go_at_call 36; refine (slGood_c _ _ x _ hx).mono ?_; rintro e w' ⟨rfl, rfl⟩)
      · go_round
        case rel => exact ⟨k + 1, by omega, by go_num, by rw [HR.out, HD.out, goodsB_cons, t, Bool.true_and]⟩
        case measure => simp [intOf]; omega
      · go_ret
        exact ⟨ret_bool (by rw [HS.out, HR.out, HD.out, goodsB_cons, t]; simp), rfl⟩
    · have HG : Hid (goodsB n L = true) := by show _ = true; rw [HR.out, List.drop_eq_nil_of_le (by omega), goodsB_nil]
      clear hc
      rcases Bool.eq_false_or_eq_true (inB n 2 7) with t | t
      all_goals go_wp2_with (go_at_call 66; refine (slCount_c _ _).mono ?_; rintro e w' ⟨rfl, rfl⟩)
      all_goals
        go_ret
        refine ⟨ret_bool ?_, rfl⟩
        rw [HS.out, HG.out, t]
        first | rfl | (rw [Bool.eq_iff_iff]; simp; try omega)

set_option maxHeartbeats 400000 in
theorem areSplitsF_c (n : Int) (b : Nat) (r : Value) (x : List Int) (w : World) (h : RInts w r x) (hc : w.cell? ⟨b, 0, none⟩ = some (.int .i64 n)) :
    Calls Tryz.prog 69 (#[r] ++ #[.pointer (some ⟨b, 0, none⟩)]) w fun e w' => e = .returned (.bool (!splitB n x)) ∧ w = w' := by
  show Calls Tryz.prog 69 #[r, .pointer (some ⟨b, 0, none⟩)] w _
  go_enter Tryz.func69, Tryz.ntmps69
  go_wp2_with (go_at_call 32; refine (isSplit_c _ _ x _ h).mono ?_; rintro e w' ⟨rfl, rfl⟩)
  go_ret
  exact ⟨rfl, rfl⟩

set_option maxHeartbeats 1000000 in
theorem areSplits_c (n : Int) (v : Value) (L : List (List Int)) (w : World) (h : RMat w v L) :
    Calls Tryz.prog 39 #[.int .i64 n, v] w fun e w' => e = .returned (.bool (splitsB n L)) ∧ Below w.heap.size w w' := by
  have hR := h
  obtain ⟨a, cap, rfl, h1, h2, hc⟩ := h
  clear hc
  unfold maxLen at h2
  have HS : Hid (splitsB n L = (inB n 2 7 && (decide (L.length ≤ 12) && goodsB n L))) := rfl
  have hb0 : Below w.heap.size w (w.alloc (.cells #[.int .i64 n] 3)) := (Below.refl _ _).alloc (Nat.le_refl _) _
  have HC := hid (cell_new w (.int .i64 n) 3)
  rcases Bool.eq_false_or_eq_true (inB n 2 7) with t | t
  · by_cases hl : L.length ≤ 12
    · go_enter Tryz.func39, Tryz.ntmps39
      go_wp2_with (go_at_call 43; refine (within_c _ _ _ _).mono ?_; rintro e w' ⟨rfl, rfl⟩)
      refine (containsFuncM_c _ L _ _ _ (fun x => !splitB n x) (hR.keep hb0) Tryz.call69 (fun r x hr => areSplitsF_c n _ r x _ hr HC.out)).mono ?_
      rintro e w1 ⟨rfl, hw1⟩
      rw [hw1] at hb0
      clear hw1
      go_wp2
      go_ret
      refine ⟨ret_bool ?_, hb0⟩
      rw [HS.out, t, decide_eq_true hl]
      unfold goodsB; rw [Bool.eq_iff_iff]; simp
    · go_enter Tryz.func39, Tryz.ntmps39
      go_wp2_with (go_at_call 43; refine (within_c _ _ _ _).mono ?_; rintro e w' ⟨rfl, rfl⟩)
      go_ret
      exact ⟨ret_bool (by rw [HS.out, t, decide_eq_false (by omega)]; rfl), hb0⟩
  · go_enter Tryz.func39, Tryz.ntmps39
    go_wp2_with (go_at_call 43; refine (within_c _ _ _ _).mono ?_; rintro e w' ⟨rfl, rfl⟩)
    go_ret
    exact ⟨ret_bool (by rw [HS.out, t]; rfl), hb0⟩

def clashRow (a : List Int) (i : Nat) : Nat → List (List Int) → Option (Nat × Nat)
  | _, [] => none
  | k, b :: bs => if fitB a b then clashRow a i (k + 1) bs else some (i, k)
theorem clashRow_nil (a : List Int) (i k : Nat) : clashRow a i k [] = none := rfl
theorem clashRow_yes (a b : List Int) (i k : Nat) (bs : List (List Int)) (h : fitB a b = true) : clashRow a i k (b :: bs) = clashRow a i (k + 1) bs := by rw [clashRow, if_pos h]
theorem clashRow_no (a b : List Int) (i k : Nat) (bs : List (List Int)) (h : fitB a b = false) : clashRow a i k (b :: bs) = some (i, k) := by rw [clashRow, h]; rfl
def orElse' (a b : Option (Nat × Nat)) : Option (Nat × Nat) := match a with | some p => some p | none => b
def clashL : Nat → List (List Int) → Option (Nat × Nat)
  | _, [] => none
  | i, a :: rest => orElse' (clashRow a i (i + 1) rest) (clashL (i + 1) rest)
theorem clashL_nil (i : Nat) : clashL i [] = none := rfl
theorem clashL_cons (i : Nat) (a : List Int) (rest : List (List Int)) : clashL i (a :: rest) = orElse' (clashRow a i (i + 1) rest) (clashL (i + 1) rest) := rfl
def clashB (n : Int) (L : List (List Int)) : (Int × Int) × Bool :=
  if splitsB n L then (match clashL 0 L with | some p => ((p.1, p.2), true) | none => ((0, 0), false)) else ((0, 0), false)
theorem clashB_bad (n : Int) (L : List (List Int)) (h : splitsB n L = false) : clashB n L = ((0, 0), false) := by rw [clashB, h]; rfl
theorem clashB_some (n : Int) (L : List (List Int)) (h : splitsB n L = true) (i k : Nat) (hc : clashL 0 L = some (i, k)) : clashB n L = (((i : Int), (k : Int)), true) := by rw [clashB, h, hc]; rfl
theorem clashB_none (n : Int) (L : List (List Int)) (h : splitsB n L = true) (hc : clashL 0 L = none) : clashB n L = ((0, 0), false) := by rw [clashB, h, hc]; rfl

theorem slList_lift (n : Int) (v : Value) (L : List (List Int)) (w : World) (h : RMat w v L) :
    Calls Tryz.prog 51 #[.int .i64 n, v] w fun e w' => e = .returned (.bool (splitsB n L)) ∧ Below w.heap.size w w' :=
  (slList_c n v L w h).mono fun _ _ ⟨h1, h2⟩ => ⟨h1, by rw [← h2]; exact Below.refl _ _⟩

set_option maxRecDepth 100000 in
set_option maxHeartbeats 1000000 in
theorem iFirstClash_u (n : Int) (v : Value) (L : List (List Int)) (w : World) (h : RMat w v L) :
    Calls Tryz.prog 18 #[.int .i64 n, v] w fun e w' => e = .returned (.tuple #[.int .i64 (clashB n L).1.1, .int .i64 (clashB n L).1.2, .bool (clashB n L).2]) ∧ Below w.heap.size w w' := by
  rcases Bool.eq_false_or_eq_true (splitsB n L) with t | t
  · have T := hid t
    go_enter Tryz.func18, Tryz.ntmps18
    go_wp2_with fail
    refine (areSplits_c _ _ L _ h).mono ?_
    rintro e w1 ⟨rfl, hb1⟩
    have hR := h.keep hb1
    clear h
    obtain ⟨a, cap, rfl, h1, h2, hc⟩ := hR
    unfold maxLen at h2
    rw [t]
    go_wp2
    go_loop [16] (fun i => ∃ k : Nat, k ≤ L.length ∧ i = .int .i64 k ∧ clashL 0 L = clashL k (L.drop k)) (fun i => L.length - (intOf i).toNat)
    case atStart => exact ⟨0, Nat.zero_le _, rfl, rfl⟩
    case round =>
      obtain ⟨i, hi, rfl, hr⟩ := hrel
      have HR := hid hr; clear hr
      by_cases hlt : i < L.length
      · obtain ⟨g, o, r, x, rfl, hk, hx, HD, _⟩ := mat_at hc hlt
        have HC := hid hc; clear hc
        go_wp2
        go_loop [9] (fun j => ∃ k : Nat, k ≤ L.length ∧ j = .int .i64 k ∧ clashL 0 L = orElse' (clashRow x i k (L.drop k)) (clashL (i + 1) (L.drop (i + 1)))) (fun j => L.length - (intOf j).toNat)
        case atStart => exact ⟨i + 1, by omega, by go_num, by rw [HR.out, HD.out, clashL_cons]⟩
        case round =>
          obtain ⟨k, hkl, rfl, hr⟩ := hrel
          have HR' := hid hr; clear hr
          by_cases hlt' : k < L.length
          · obtain ⟨g', o', r', y, he, hk', hy, HD', _⟩ := mat_at HC.out hlt'
            simp only [Option.some.injEq, Addr.mk.injEq, and_true] at he
            obtain ⟨rfl, rfl⟩ := he
            rcases Bool.eq_false_or_eq_true (fitB x y) with t2 | t2
            all_goals go_wp2_with (go_at_call 40; refine (areCompatible_c _ _ x y _ hx hy).mono ?_; rintro e w' ⟨rfl, rfl⟩)
            · go_round
              case rel => exact ⟨k + 1, by omega, by go_num, by rw [HR'.out, HD'.out, clashRow_yes _ _ _ _ _ t2]⟩
              case measure => simp [intOf]; omega
            · have HB := hid (clashB_some n L T.out i k (by rw [HR'.out, HD'.out, clashRow_no _ _ _ _ _ t2]; rfl))
              go_ret3
              exact ⟨by rw [HB.out]; rfl, hb1⟩
          · go_wp2
            go_round
            case rel => exact ⟨i + 1, by omega, by go_num, by rw [HR'.out, List.drop_eq_nil_of_le (show L.length ≤ k by omega), clashRow_nil]; rfl⟩
            case measure => simp [intOf]; omega
      · have HB := hid (clashB_none n L T.out (by rw [HR.out, List.drop_eq_nil_of_le (by omega), clashL_nil]))
        clear hc
        go_wp2
        go_ret3
        exact ⟨by rw [HB.out]; rfl, hb1⟩
  · have HB := hid (clashB_bad n L t)
    go_enter Tryz.func18, Tryz.ntmps18
    go_wp2_with fail
    refine (areSplits_c _ _ L _ h).mono ?_
    rintro e w1 ⟨rfl, hb1⟩
    rw [t]
    go_wp2
    go_ret3
    exact ⟨by rw [HB.out]; rfl, hb1⟩

end Go.Proofs.YtnkbfgnmodfemaaGreatDoor
