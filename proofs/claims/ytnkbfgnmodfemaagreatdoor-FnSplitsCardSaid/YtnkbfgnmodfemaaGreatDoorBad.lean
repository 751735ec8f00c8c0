/- The first four points that break the condition: both programs' functions. -/
import Derived.Test.YtnkbfgnmodfemaaGreatDoorSums
namespace Go.Proofs.YtnkbfgnmodfemaaGreatDoor
open Go.RowKit
open Go.Lib (hid)

/-- the first that is there -/
def oe (a b : Option (List Int)) : Option (List Int) := match a with | some r => some r | none => b
theorem oe_none (b : Option (List Int)) : oe none b = b := rfl
theorem oe_some (r : List Int) (b : Option (List Int)) : oe (some r) b = some r := rfl
theorem oe_assoc (a b c : Option (List Int)) : oe (oe a b) c = oe a (oe b c) := by cases a <;> rfl
def findR (f : Nat → Option (List Int)) : Nat → Nat → Option (List Int)
  | 0, _ => none
  | m + 1, i => oe (f i) (findR f m (i + 1))
/-- the first that f gives from i on, below n -/
def findFrom (n i : Nat) (f : Nat → Option (List Int)) : Option (List Int) := findR f (n - i) i
theorem findFrom_ge {n i : Nat} (f : Nat → Option (List Int)) (h : n ≤ i) : findFrom n i f = none := by rw [findFrom, show n - i = 0 by omega]; rfl
theorem findFrom_lt {n i : Nat} (f : Nat → Option (List Int)) (h : i < n) : findFrom n i f = oe (f i) (findFrom n (i + 1) f) := by
  rw [findFrom, findFrom, show n - i = (n - (i + 1)) + 1 by omega]; rfl
theorem findFrom_or {n i : Nat} {f : Nat → Option (List Int)} {r : List Int} : findFrom n i f = some r → ∃ j, i ≤ j ∧ j < n ∧ f j = some r := by
  obtain ⟨m, hm⟩ : ∃ m, n - i = m := ⟨_, rfl⟩
  induction m generalizing i with
  | zero => intro h; rw [findFrom_ge f (by omega)] at h; cases h
  | succ m ih =>
    intro h
    rw [findFrom_lt f (by omega)] at h
    cases hf : f i with
    | some q => rw [hf, oe_some] at h; exact ⟨i, Nat.le_refl _, by omega, by rw [hf, h]⟩
    | none =>
      rw [hf, oe_none] at h
      obtain ⟨j, h1, h2, h3⟩ := ih (by omega) h
      exact ⟨j, by omega, h2, h3⟩

def goodF (M : List (List Int)) (i j k l : Nat) : Bool := tw3 (sumA M i j k l) (sumA M i k j l) (sumA M i l j k)
def badL (M : List (List Int)) (i j k l : Nat) : Option (List Int) := if goodF M i j k l then none else some [(i : Int), (j : Int), (k : Int), (l : Int)]
theorem badL_yes {M : List (List Int)} {i j k l : Nat} (h : goodF M i j k l = true) : badL M i j k l = none := by rw [badL, h]; rfl
theorem badL_no {M : List (List Int)} {i j k l : Nat} (h : goodF M i j k l = false) : badL M i j k l = some [(i : Int), (j : Int), (k : Int), (l : Int)] := by rw [badL, h]; rfl
def badK (M : List (List Int)) (n i j k : Nat) : Option (List Int) := findFrom n (k + 1) (badL M i j k)
def badJ (M : List (List Int)) (n i j : Nat) : Option (List Int) := findFrom n (j + 1) (badK M n i j)
def badI (M : List (List Int)) (n i : Nat) : Option (List Int) := findFrom n (i + 1) (badJ M n i)
/-- the first four points that break the condition -/
def badF (M : List (List Int)) : Option (List Int) := findFrom M.length 0 (badI M M.length)
theorem badF_len {M : List (List Int)} {r : List Int} (h : badF M = some r) : r.length = 4 := by
  obtain ⟨i, _, _, h1⟩ := findFrom_or h
  obtain ⟨j, _, _, h2⟩ := findFrom_or h1
  obtain ⟨k, _, _, h3⟩ := findFrom_or h2
  obtain ⟨l, _, _, h4⟩ := findFrom_or h3
  rcases Bool.eq_false_or_eq_true (goodF M i j k l) with t | t
  · rw [badL_yes t] at h4; cases h4
  · rw [badL_no t] at h4; cases h4; rfl
def getL (o : Option (List Int)) : List Int := o.getD []

theorem loopR_find {f : Nat → Option (List Int) → Bool × Option (List Int)} {q : Nat → Option (List Int)} {n : Nat} : ∀ (m i : Nat), i + m = n → (∀ j, i ≤ j → j < n → f j none = ((q j).isNone, q j)) → loopR f m i none = ((findFrom n i q).isNone, findFrom n i q) := by
  intro m
  induction m with
  | zero => intro i hi _; rw [loopR_zero, findFrom_ge _ (by omega)]; rfl
  | succ m ih =>
    intro i hi hq
    have h1 := hq i (Nat.le_refl _) (by omega)
    rw [findFrom_lt _ (by omega)]
    cases hf : q i with
    | none =>
      rw [hf] at h1
      rw [loopR_yes (by rw [h1]; rfl), h1, oe_none]
      exact ih (i + 1) (by omega) (fun j h2 h3 => hq j (by omega) h3)
    | some r =>
      rw [hf] at h1
      rw [loopR_no (by rw [h1]; rfl), h1, oe_some]; rfl
def okB (M : List (List Int)) (_s : Option (List Int)) (xs : List Int) : Bool := goodF M (xs.getD 0 0).toNat (xs.getD 1 0).toNat (xs.getD 2 0).toNat (xs.getD 3 0).toNat
def stepB (M : List (List Int)) (s : Option (List Int)) (xs : List Int) : Option (List Int) := if okB M s xs then s else some xs
theorem nextR_bad (M : List (List Int)) : nextR (okB M) (stepB M) M.length 4 M.length 0 [] none = ((badF M).isNone, badF M) := by
  rw [nextR_loop _ _ (by simp) (by omega)]
  refine loopR_find _ _ (by omega) (fun i _ hi => ?_)
  rw [nextR_loop _ _ (by simp) (by omega)]
  refine loopR_find _ _ (by omega) (fun j hj0 hj => ?_)
  rw [nextR_loop _ _ (by simp) (by omega)]
  refine loopR_find _ _ (by omega) (fun k hk0 hk => ?_)
  rw [nextR_loop _ _ (by simp) (by omega)]
  refine loopR_find _ _ (by omega) (fun l _ hl => ?_)
  rw [nextR_yes _ _ (by simp)]
  rcases Bool.eq_false_or_eq_true (goodF M i j k l) with t | t
  · rw [badL_yes t]; simp [okB, stepB, t]
  · rw [badL_no t]; simp [okB, stepB, t]

/-- a list in new memory; nil if there is none -/
def RetOptL (w : World) (o : Option (List Int)) (e : Ending) (w' : World) : Prop := ∃ v, e = .returned v ∧ FInts w' w.heap.size w'.heap.size v (getL o) ∧ Below w.heap.size w w'

theorem four_fints (w : World) (lo : Nat) (hlo : lo ≤ w.heap.size) (a b c d : Int) : FInts (w.alloc (.cells #[.int .i64 a, .int .i64 b, .int .i64 c, .int .i64 d] 3)) lo (w.heap.size + 1) (.slice (some ⟨w.heap.size, 0, none⟩) 4 4) [a, b, c, d] := by
  have := ints_lit w lo hlo [a, b, c, d] (by simp)
  simpa using this

set_option maxRecDepth 100000 in
set_option maxHeartbeats 4000000 in
theorem meBad_c (v : Value) (M : List (List Int)) (w : World) (hm : metB M = true) (h : RMat w v M) :
    Calls Tryz.prog 59 #[v] w (RetOptL w (badF M)) := by
  have hp := metB_parts hm
  have hn7 := hp.2.1
  have HMET := hid hm
  have HR := hid h
  obtain ⟨a, cap, rfl, q1, q2, hcc⟩ := h
  unfold maxLen at q2
  clear hp hm hcc
  go_enter Tryz.func59, Tryz.ntmps59
  go_wp2
  go_loopg [9] M.length (fun gk iv wr => ∃ i : Nat, i ≤ M.length ∧ gk = M.length - i ∧ iv = .int .i64 i ∧ badF M = findFrom M.length i (badI M M.length) ∧ Below w.heap.size w wr)
  case atStart => exact ⟨0, Nat.zero_le _, rfl, rfl, rfl, Below.refl _ _⟩
  case round =>
    obtain ⟨i, hi, rfl, rfl, hr, hb⟩ := hrel
    have HR1 := hid hr
    have HBI := hid hb
    clear hr hb
    by_cases hlt : i < M.length
    · have hltz : (i : Int) < (M.length : Int) := by omega
      go_wp2
      go_loopg [4] M.length (fun gk jv wr => ∃ j : Nat, i + 1 ≤ j ∧ j ≤ M.length ∧ gk + j = M.length + i + 1 ∧ jv = .int .i64 j ∧ badF M = oe (findFrom M.length j (badJ M M.length i)) (findFrom M.length (i + 1) (badI M M.length)) ∧ Below w.heap.size w wr)
      case atStart => exact ⟨i + 1, Nat.le_refl _, by omega, by omega, by go_num, by rw [HR1.out, findFrom_lt _ hlt]; rfl, HBI.out⟩
      case round =>
        obtain ⟨j, hj0, hj, hgk, rfl, hr, hb⟩ := hrel
        have HR2 := hid hr
        have HBJ := hid hb
        clear hr hb
        by_cases hltj : j < M.length
        · have hltzj : (j : Int) < (M.length : Int) := by omega
          go_wp2
          go_loopg [5] M.length (fun gk kv wr => ∃ k : Nat, j + 1 ≤ k ∧ k ≤ M.length ∧ gk + k = M.length + j + 1 ∧ kv = .int .i64 k ∧ badF M = oe (findFrom M.length k (badK M M.length i j)) (oe (findFrom M.length (j + 1) (badJ M M.length i)) (findFrom M.length (i + 1) (badI M M.length))) ∧ Below w.heap.size w wr)
          case atStart => exact ⟨j + 1, Nat.le_refl _, by omega, by omega, by go_num, by rw [HR2.out, findFrom_lt _ hltj, oe_assoc]; rfl, HBJ.out⟩
          case round =>
            obtain ⟨k, hk0, hk, hgk2, rfl, hr, hb⟩ := hrel
            have HR3 := hid hr
            have HBK := hid hb
            clear hr hb
            by_cases hltk : k < M.length
            · have hltzk : (k : Int) < (M.length : Int) := by omega
              go_wp2
              go_loopg [6] M.length (fun gk lv wr => ∃ l : Nat, k + 1 ≤ l ∧ l ≤ M.length ∧ gk + l = M.length + k + 1 ∧ lv = .int .i64 l ∧ badF M = oe (findFrom M.length l (badL M i j k)) (oe (findFrom M.length (k + 1) (badK M M.length i j)) (oe (findFrom M.length (j + 1) (badJ M M.length i)) (findFrom M.length (i + 1) (badI M M.length)))) ∧ Below w.heap.size w wr)
              case atStart => exact ⟨k + 1, Nat.le_refl _, by omega, by omega, by go_num, by rw [HR3.out, findFrom_lt _ hltk, oe_assoc]; rfl, HBK.out⟩
              case round =>
                obtain ⟨l, hl0, hl, hgk3, rfl, hr, hb⟩ := hrel
                have HR4 := hid hr
                have HBL := hid hb
                clear hr hb
                by_cases hltl : l < M.length
                · have hltzl : (l : Int) < (M.length : Int) := by omega
                  go_wp2_with fail
                  refine (meSums_c _ M _ HMET.out (HR.out.keep HBL.out) i j k l hlt hltj hltk hltl).mono ?_
                  rintro e w1 ⟨u, rfl, hF, hb1⟩
                  have HB1 := hid (HBL.out.trans (hb1.mono HBL.out.size))
                  have hu := hF.r
                  clear hF hb1
                  go_wp2_with fail
                  refine (meTwice_c _ (sumA M i j k l) (sumA M i k j l) (sumA M i l j k) _ hu).mono ?_
                  rintro e w2 ⟨rfl, hb2⟩
                  have HB2 := hid (HB1.out.trans (hb2.mono HB1.out.size))
                  clear hu hb2
                  have HG : Hid (tw3 (sumA M i j k l) (sumA M i k j l) (sumA M i l j k) = goodF M i j k l) := rfl
                  rw [HG.out]
                  rcases Bool.eq_false_or_eq_true (goodF M i j k l) with t | t
                  · rw [t]
                    have HST : Hid (badF M = oe (findFrom M.length (l + 1) (badL M i j k)) (oe (findFrom M.length (k + 1) (badK M M.length i j)) (oe (findFrom M.length (j + 1) (badJ M M.length i)) (findFrom M.length (i + 1) (badI M M.length))))) := by
                      show _ = _; rw [HR4.out, findFrom_lt _ hltl, badL_yes t, oe_none]
                    go_wp2
                    go_roundg (M.length + k + 1 - (l + 1))
                    case rel => exact ⟨l + 1, by omega, by omega, by omega, by go_num, HST.out, HB2.out⟩
                    case measure => omega
                  · rw [t]
                    have HST : Hid (badF M = some [(i : Int), (j : Int), (k : Int), (l : Int)]) := by
                      show _ = _; rw [HR4.out, findFrom_lt _ hltl, badL_no t, oe_some, oe_some]
                    have HF := hid (four_fints w2 w.heap.size HB2.out.size (i : Int) (j : Int) (k : Int) (l : Int))
                    go_wp2
                    go_ret
                    exact ⟨_, rfl, by rw [HST.out]; exact fints_new HF.out, HB2.out.alloc HB2.out.size _⟩
                · have HST : Hid (badF M = oe (findFrom M.length (k + 1) (badK M M.length i j)) (oe (findFrom M.length (j + 1) (badJ M M.length i)) (findFrom M.length (i + 1) (badI M M.length)))) := by
                    show _ = _; rw [HR4.out, findFrom_ge _ (by omega), oe_none]
                  go_wp2
                  go_roundg (M.length + j + 1 - (k + 1))
                  case rel => exact ⟨k + 1, by omega, by omega, by omega, by go_num, HST.out, HBL.out⟩
                  case measure => omega
            · have HST : Hid (badF M = oe (findFrom M.length (j + 1) (badJ M M.length i)) (findFrom M.length (i + 1) (badI M M.length))) := by
                show _ = _; rw [HR3.out, findFrom_ge _ (by omega), oe_none]
              go_wp2
              go_roundg (M.length + i + 1 - (j + 1))
              case rel => exact ⟨j + 1, by omega, by omega, by omega, by go_num, HST.out, HBK.out⟩
              case measure => omega
        · have HST : Hid (badF M = findFrom M.length (i + 1) (badI M M.length)) := by show _ = _; rw [HR2.out, findFrom_ge _ (by omega), oe_none]
          go_wp2
          go_roundg (M.length - (i + 1))
          case rel => exact ⟨i + 1, by omega, rfl, by go_num, HST.out, HBJ.out⟩
          case measure => omega
    · have HST : Hid (badF M = none) := by show _ = _; rw [HR1.out, findFrom_ge _ (by omega)]
      go_wp2
      go_ret
      exact ⟨_, rfl, by rw [HST.out]; exact ints_nil _ _ _, HBI.out⟩

end Go.Proofs.YtnkbfgnmodfemaaGreatDoor
