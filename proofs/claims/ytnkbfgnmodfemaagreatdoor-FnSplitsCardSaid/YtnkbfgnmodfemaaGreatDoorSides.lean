/- All sides, by the reference's recursion; the sides with a length. -/
import Derived.Test.YtnkbfgnmodfemaaGreatDoorPool
import Derived.Test.YtnkbfgnmodfemaaGreatDoorLength2
namespace Go.Proofs.YtnkbfgnmodfemaaGreatDoor
open Go.RowKit
open Go.Lib (hid)

/-- all lists behind xs of m points from i on, in order -/
def sidesL : Nat → Nat → List Int → List (List Int)
  | 0, _, _ => []
  | m + 1, i, xs => (xs ++ [(i : Int)]) :: (sidesL m (i + 1) (xs ++ [(i : Int)]) ++ sidesL m (i + 1) xs)
theorem sidesL_zero (i : Nat) (xs : List Int) : sidesL 0 i xs = [] := rfl
theorem sidesL_succ (m i : Nat) (xs : List Int) : sidesL (m + 1) i xs = (xs ++ [(i : Int)]) :: (sidesL m (i + 1) (xs ++ [(i : Int)]) ++ sidesL m (i + 1) xs) := rfl
theorem sidesL_len : ∀ (m i : Nat) (xs : List Int), (sidesL m i xs).length + 1 = 2 ^ m := by
  intro m
  induction m with
  | zero => intro i xs; rfl
  | succ m ih =>
    intro i xs
    have h1 := ih (i + 1) (xs ++ [(i : Int)])
    have h2 := ih (i + 1) xs
    rw [sidesL_succ, List.length_cons, List.length_append, Nat.pow_succ]
    omega
theorem sidesL_small {m : Nat} (h : m ≤ 7) (i : Nat) (xs : List Int) : (sidesL m i xs).length ≤ 128 := by
  have h1 := sidesL_len m i xs
  have h2 : 2 ^ m ≤ 2 ^ 7 := Nat.pow_le_pow_right (by omega) h
  omega

/-- a row pushed: the pool and what is kept -/
theorem pool_push {w wa w3 : World} {B hi hi2 : Nat} {v u : Value} {Z : List (Value × List Int)} {x : List Int} (hO : OMat wa B v Z) (hP : PoolZ wa B hi Z) (hF : FInts wa hi hi2 u x) (hg : wa.grownBy w3 v.ownBlock) (hb : Below B w wa) (hB : B ≤ hi) (h2 : hi ≤ hi2) (hB2 : B ≤ wa.heap.size) :
    PoolZ w3 B hi2 (Z ++ [(u, x)]) ∧ Below B w w3 := by
  refine ⟨(hP.grown hO hg).append (mid := hi) ⟨fun z hz => ?_, by simp⟩ hB h2, hb.grown hg hB2 (fun k hk => (hO.lt k hk).1)⟩
  rw [List.mem_singleton] at hz
  subst hz
  exact fints_grown hF hO hg
/-- rows appended -/
theorem pool_more {w w4 w5 : World} {B mid : Nat} {v : Value} {Z Y : List (Value × List Int)} (hO : OMat w4 B v Z) (hP : PoolZ w4 B mid Z) (hY : PoolZ w4 mid w4.heap.size Y) (hg : w4.grownBy w5 v.ownBlock) (hb : Below B w w4) (hB : B ≤ mid) (h2 : mid ≤ w4.heap.size) :
    PoolZ w5 B w5.heap.size (Z ++ Y) ∧ Below B w w5 :=
  ⟨((hP.grown hO hg).append (hY.grown hO hg) hB h2).mono (Nat.le_refl _) hg.size, hb.grown hg (Nat.le_trans hB h2) (fun k hk => (hO.lt k hk).1)⟩

set_option maxRecDepth 100000 in
set_option maxHeartbeats 2000000 in
theorem slSides_c (n : Nat) (hn : n ≤ 7) : ∀ (d first : Nat) (v : Value) (xs : List Int) (w : World), n - first < d → first ≤ n → xs.length ≤ first → RInts w v xs →
    Calls Tryz.prog 60 #[.int .i64 n, .int .i64 first, v] w (RetMat w (sidesL (n - first) first xs)) := by
  intro d
  induction d with
  | zero => intro first v xs w h; omega
  | succ d ih =>
    intro first v xs w hd hf hx h
    have IH := hid ih
    clear ih
    have HR := hid h
    obtain ⟨R, hRR⟩ : ∃ R, sidesL (n - first) first xs = R := ⟨_, rfl⟩
    have HRR := hid hRR
    have hRl := sidesL_small (show n - first ≤ 7 by omega) first xs
    rw [hRR] at hRl ⊢
    clear hRR
    obtain ⟨a, cap, rfl, q1, q2, hc⟩ := h
    unfold maxLen at q2
    clear hc
    go_enter Tryz.func60, Tryz.ntmps60
    go_wp2
    go_loopg [7, 8] (n - first) (fun gk o iv wr => ∃ i : Nat, ∃ Z : List (Value × List Int), i ≤ n ∧ first ≤ i ∧ gk = n - i ∧ iv = .int .i64 i ∧ OMat wr w.heap.size o Z ∧ PoolZ wr w.heap.size wr.heap.size Z ∧ R = Z.map Prod.snd ++ sidesL (n - i) i xs ∧ (∀ g, o.ownBlock = some g → g < wr.heap.size) ∧ Below w.heap.size w wr)
    case atStart => exact ⟨first, [], hf, Nat.le_refl _, rfl, rfl, omat_nil _ _, pool_nil _ _ _, HRR.out.symm, fun g hg => by simp [Value.ownBlock] at hg, Below.refl _ _⟩
    case round =>
      obtain ⟨i, Z, hi, hfi, rfl, rfl, hO, hP, hr, hbk, hb⟩ := hrel
      obtain ⟨ao, co, rfl⟩ := hO.form
      have HO := hid hO
      have HP := hid hP
      have HB := hid hb
      have HST := hid hr
      have HBK := hid hbk
      clear hO hP hr hb hbk
      by_cases hlt : i < n
      · have hltz : (i : Int) < (n : Int) := by omega
        have hsz := HB.out.size
        have HS1 : Hid (R = Z.map Prod.snd ++ ((xs ++ [(i : Int)]) :: (sidesL (n - (i + 1)) (i + 1) (xs ++ [(i : Int)]) ++ sidesL (n - (i + 1)) (i + 1) xs))) := by
          show _ = _; rw [HST.out, show n - i = (n - (i + 1)) + 1 by omega, sidesL_succ]
        have hZl : Z.length ≤ 128 := by
          have := congrArg List.length HST.out
          rw [List.length_append, List.length_map] at this; omega
        have R1 := HR.out.keep HB.out
        go_wp2_with fail
        refine (l1Own_c _ xs _ R1 (by omega)).mono ?_
        rintro e w1 ⟨u, rfl, hF1, hb1⟩
        obtain ⟨au, cu, rfl⟩ := hF1.form
        obtain ⟨p1, p2, p3, p4, p5⟩ := push_round2 (i : Int) (by omega) hF1 hb1 hb1.size
        have P5 := hid p5
        have HB1 := hid hb1
        clear hF1 hb1 R1 p5
        go_wp2_with (at_builtin; first
          | (refine wpList_append_ints rfl _ _ rfl _ _ _ _ _ [(i : Int)] rfl rfl p1 p2 p3 p4 ?_; intro v' w' hF' hg hn'; have hb2 := P5.out _ hg; have HSW := hid hb2.size; have hZ2 := HP.out.keep hb2; have hO2 := HO.out.keep hb2; obtain ⟨a2, n2, c2, rfl⟩ := hF'.form3; have hal := (Below.refl w'.heap.size w').alloc (Nat.le_refl _) (.cells #[.slice a2 n2 c2] 27); have HF2 := hid (hF'.keep hal); have hO3 := hO2.keep hal; have HZ3 := hid (hZ2.keep hal); have hcn := cell_new w' (.slice a2 n2 c2) 27; have HBA := hid (hb2.trans (hal.mono hb2.size)); clear p1 p2 p4 hb2 hZ2 hO2 hF' hg hal)
          | (refine wpList_append_vals rfl _ _ rfl _ _ _ [(.slice a2 n2 c2, xs ++ [(i : Int)])] _ _ rfl rfl hO3 (by simp) (by rintro a j z he hz; cases he; cases j with | zero => simp at hz; subst hz; rw [addr_add]; exact hcn | succ j => simp at hz) (by simp [Value.oneCell']) (by simp; omega) (by have := HBA.out.size; omega) ?_; intro v3 w3 hO4 hg3 hat3))
        obtain ⟨q1, q2⟩ := pool_push hO3 HZ3.out HF2.out hg3 (HB.out.trans (HBA.out.mono hsz)) hsz (by have := HB1.out.size; have := HF2.out.1.1; have := HBA.out.size; have := HSW.out; omega) (by have := HBA.out.size; omega)
        have hsw3 := hg3.size
        have hal3 : w'.heap.size ≤ w3.heap.size := by have h0 := hsw3; simp at h0; omega
        have QP := hid q1
        have QB := hid q2
        have QF := hid (fints_grown HF2.out hO3 hg3).r
        clear q1 q2 hg3 hat3 hO3 hcn hn' hsw3
        refine (IH.out (i + 1) _ (xs ++ [(i : Int)]) w3 (by omega) (by omega) (by simp; omega) QF.out).mono ?_
        rintro e w4 ⟨v4, rfl, hF4, hb4⟩
        obtain ⟨Y, hYM, hY, hYP, hYb⟩ := hF4.toZ
        obtain ⟨a4, c4, rfl⟩ := hY.form
        obtain ⟨y1, y2⟩ := hY.cellsAt
        have hO5 := hO4.keep hb4
        have QP5 := hid (QP.out.keep hb4)
        have QB5 := hid (QB.out.trans (hb4.mono QB.out.size))
        have HYP := hid hYP
        have hYl : Y.length ≤ 128 := by
          have := congrArg List.length hYM
          rw [List.length_map] at this
          have := sidesL_small (show n - (i + 1) ≤ 7 by omega) (i + 1) (xs ++ [(i : Int)])
          omega
        have hsz4 := hb4.size
        have HYM := hid hYM
        have hY1 := hYP.one
        clear hYM hYP hYb hb4 hF4 hY hO4
        go_wp2_with (at_builtin; refine wpList_append_vals rfl _ _ rfl _ _ _ Y _ _ rfl rfl hO5 y1 y2 hY1 (by simp; omega) (by have := QB5.out.size; omega) ?_; intro v6 w6 hO6 hg6 hat6)
        obtain ⟨r1, r2⟩ := pool_more hO5 (QP5.out.mono (Nat.le_refl _) (show _ ≤ w3.heap.size by omega)) HYP.out hg6 QB5.out QB.out.size (by omega)
        go_roundg (n - (i + 1))
        case rel => exact ⟨i + 1, _, by omega, by omega, rfl, by go_num, hO6, r1, by rw [HS1.out, List.map_append, List.map_append, HYM.out, List.append_assoc, List.append_assoc]; rfl, fun g hg => (hO6.lt g hg).2, r2⟩
        case measure => omega
      · have HS1 : Hid (R = Z.map Prod.snd) := by show _ = _; rw [HST.out, show n - i = 0 by omega, sidesL_zero, List.append_nil]
        go_wp2
        go_ret
        exact ⟨_, rfl, by rw [HS1.out]; exact HO.out.f HBK.out HP.out, HB.out⟩

end Go.Proofs.YtnkbfgnmodfemaaGreatDoor
