/- Whether a metric is an ultrametric: both programs' functions. -/
import Derived.Test.YtcgcgmlonhganaaTwice
namespace Go.Proofs.Ytcgcgmlonhganaa
open Go.RowKit
open Go.Lib (hid)

/-- a square matrix at every index -/
structure SqIn (w : World) (g o n : Nat) (G O C : Nat → Nat) (M : List (List Int)) : Prop where
  row : ∀ i, i < n → w.cell? ⟨g, o + i, none⟩ = some (.slice (some ⟨G i, O i, none⟩) n (C i))
  at_ : ∀ i j, i < n → j < n → w.cell? ⟨G i, O i + j, none⟩ = some (.int .i64 (ent M i j))
theorem SqIn.keep {w w' : World} {g o n : Nat} {G O C : Nat → Nat} {M : List (List Int)} (h : SqIn w g o n G O C M) (hb : Below w.heap.size w w') : SqIn w' g o n G O C M :=
  ⟨fun i hi => (hb.cell (p := ⟨g, o + i, none⟩) (cell_lt (h.row i hi))).trans (h.row i hi), fun i j hi hj => (hb.cell (p := ⟨G i, O i + j, none⟩) (cell_lt (h.at_ i j hi hj))).trans (h.at_ i j hi hj)⟩
theorem SqIn.keepB {w w' : World} {B g o n : Nat} {G O C : Nat → Nat} {M : List (List Int)} (h : SqIn w g o n G O C M) (hb : Below B w w') (hB : w.heap.size ≤ B) : SqIn w' g o n G O C M := h.keep (hb.mono hB)
theorem met_open {w : World} {v : Value} {M : List (List Int)} (h : RMat w v M) (hm : metB M = true) :
    ∃ (g o cap : Nat) (G O C : Nat → Nat), v = .slice (some ⟨g, o, none⟩) M.length cap ∧ M.length ≤ cap ∧ cap ≤ 9223372036854775807 ∧ SqIn w g o M.length G O C M := by
  have hp := metB_parts hm
  obtain ⟨g, o, cap, G, O, C, h1, h2, h3, h4, h5⟩ := sq_open h (by omega) rfl hp.2.2.1
  exact ⟨g, o, cap, G, O, C, h1, h2, h3, h4, h5⟩

theorem nextR_loop {σ : Type} (ok : σ → List Int → Bool) (step : σ → List Int → σ) {n k d first : Nat} {xs : List Int} {s : σ} (h : ¬ xs.length = k) (hd : n - first ≤ d) :
    nextR ok step n k d first xs s = loopR (fun i s => nextR ok step n k (d - 1) (i + 1) (xs ++ [(i : Int)]) s) (n - first) first s := by
  cases d with
  | zero => rw [nextR_end ok step h (by omega), show n - first = 0 by omega, loopR_zero]
  | succ d => exact nextR_no ok step h
theorem loopR_all {f : Nat → Unit → Bool × Unit} {q : Nat → Bool} {n : Nat} : ∀ (m i : Nat), i + m = n → (∀ j, i ≤ j → j < n → (f j ()).1 = q j) → (loopR f m i ()).1 = allFrom n i q := by
  intro m
  induction m with
  | zero => intro i hi _; rw [loopR_zero, allFrom_ge _ (by omega)]
  | succ m ih =>
    intro i hi hq
    rw [allFrom_lt _ (by omega)]
    have h1 := hq i (Nat.le_refl _) (by omega)
    rcases Bool.eq_false_or_eq_true (f i ()).1 with t | t
    · rw [loopR_yes t, ← h1, t, Bool.true_and]
      exact ih (i + 1) (by omega) (fun j h2 h3 => hq j (by omega) h3)
    · rw [loopR_no t, ← h1, t]; rfl

def utrK (M : List (List Int)) (i j k : Nat) : Bool := tw3 (ent M i j) (ent M i k) (ent M j k)
def utrJ (M : List (List Int)) (n i j : Nat) : Bool := allFrom n (j + 1) (utrK M i j)
def utrI (M : List (List Int)) (n i : Nat) : Bool := allFrom n (i + 1) (utrJ M n i)
/-- of all three distances between three points the greatest is there twice -/
def utrB (M : List (List Int)) : Bool := allFrom M.length 0 (utrI M M.length)
def isUltB (M : List (List Int)) : Bool × Bool := if metB M then (utrB M, true) else (false, false)
theorem isUltB_yes {M : List (List Int)} (h : metB M = true) : isUltB M = (utrB M, true) := by rw [isUltB, h]; rfl
theorem isUltB_no {M : List (List Int)} (h : metB M = false) : isUltB M = (false, false) := by rw [isUltB, h]; rfl

/-- what the visitor says of three points -/
def okU (M : List (List Int)) (xs : List Int) : Bool := utrK M (xs.getD 0 0).toNat (xs.getD 1 0).toNat (xs.getD 2 0).toNat
theorem nextR_ult (M : List (List Int)) : (nextR (fun (_ : Unit) xs => okU M xs) (fun _ _ => ()) M.length 3 M.length 0 [] ()).1 = utrB M := by
  rw [nextR_loop _ _ (by simp) (by omega)]
  refine loopR_all _ _ (by omega) (fun i _ hi => ?_)
  rw [nextR_loop _ _ (by simp) (by omega)]
  refine loopR_all _ _ (by omega) (fun j hj0 hj => ?_)
  rw [nextR_loop _ _ (by simp) (by omega)]
  refine loopR_all _ _ (by omega) (fun k _ hk => ?_)
  rw [nextR_yes _ _ (by simp)]
  simp [okU]

/-- three numbers in a new block -/
theorem three_new (w : World) (a b c : Int) : RInts (w.alloc (.cells #[.int .i64 a, .int .i64 b, .int .i64 c] 3)) (.slice (some ⟨w.heap.size, 0, none⟩) 3 3) [a, b, c] := by
  have := rints_new w [a, b, c] (by simp)
  simpa using this

set_option maxRecDepth 100000 in
set_option maxHeartbeats 4000000 in
theorem sIsUltrametric_u (v : Value) (M : List (List Int)) (w : World) (h : RMat w v M) :
    Calls Try.prog 24 #[v] w fun e w' => e = .returned (.tuple #[.bool (isUltB M).1, .bool (isUltB M).2]) ∧ Below w.heap.size w w' := by
  rcases Bool.eq_false_or_eq_true (metB M) with t | t
  · have HM := hid (isUltB_yes t)
    have hp := metB_parts t
    have HSY := hid hp.2.2.2.1
    have hn7 := hp.2.1
    have HR := hid h
    obtain ⟨g, o, cap, G, O, C, rfl, q1, q2, hsq⟩ := met_open h t
    have HSQ := hid hsq
    clear hsq h hp
    go_enter Try.func24, Try.ntmps24
    go_wp2_with fail
    refine (meGood_b _ M _ HR.out).mono ?_
    rintro e w1 ⟨rfl, hb1⟩
    rw [t]
    have HB1 := hid hb1
    clear hb1
    go_wp2
    go_loopg [12] M.length (fun gk iv wr => ∃ i : Nat, i ≤ M.length ∧ gk = M.length - i ∧ iv = .int .i64 i ∧ utrB M = allFrom M.length i (utrI M M.length) ∧ Below w.heap.size w wr)
    case atStart => exact ⟨0, Nat.zero_le _, rfl, rfl, rfl, HB1.out⟩
    case round =>
      obtain ⟨i, hi, rfl, rfl, hr, hb⟩ := hrel
      have HR1 := hid hr
      have HBI := hid hb
      clear hr hb
      by_cases hlt : i < M.length
      · have hltz : (i : Int) < (M.length : Int) := by omega
        go_wp2
        go_loopg [5] M.length (fun gk jv wr => ∃ j : Nat, i + 1 ≤ j ∧ j ≤ M.length ∧ gk + j = M.length + i + 1 ∧ jv = .int .i64 j ∧ utrB M = (allFrom M.length j (utrJ M M.length i) && allFrom M.length (i + 1) (utrI M M.length)) ∧ Below w.heap.size w wr)
        case atStart => exact ⟨i + 1, Nat.le_refl _, by omega, by omega, by go_num, by rw [HR1.out, allFrom_lt _ hlt]; rfl, HBI.out⟩
        case round =>
          obtain ⟨j, hj0, hj, hgk, rfl, hr, hb⟩ := hrel
          have HR2 := hid hr
          have HBJ := hid hb
          clear hr hb
          by_cases hltj : j < M.length
          · have hltzj : (j : Int) < (M.length : Int) := by omega
            go_wp2
            go_loopg [6] M.length (fun gk kv wr => ∃ k : Nat, j + 1 ≤ k ∧ k ≤ M.length ∧ gk + k = M.length + j + 1 ∧ kv = .int .i64 k ∧ utrB M = (allFrom M.length k (utrK M i j) && (allFrom M.length (j + 1) (utrJ M M.length i) && allFrom M.length (i + 1) (utrI M M.length))) ∧ Below w.heap.size w wr)
            case atStart => exact ⟨j + 1, Nat.le_refl _, by omega, by omega, by go_num, by rw [HR2.out, allFrom_lt _ hltj, Bool.and_assoc]; rfl, HBJ.out⟩
            case round =>
              obtain ⟨k, hk0, hk, hgk2, rfl, hr, hb⟩ := hrel
              have HR3 := hid hr
              have HBK := hid hb
              clear hr
              by_cases hltk : k < M.length
              · have hltzk : (k : Int) < (M.length : Int) := by omega
                obtain ⟨wq, hwq⟩ : ∃ wq : World, wq = wr.drew := ⟨_, rfl⟩
                have hbq : Below w.heap.size w wq := by rw [hwq]; exact hb.drew
                have hs := HSQ.out.keep hbq
                have r1 := hs.row i hlt
                have r2 := hs.row j hltj
                have c1 := hs.at_ i j hlt hltj
                have c2 := hs.at_ i k hlt hltk
                have c3 := hs.at_ j k hltj hltk
                obtain ⟨x, hx⟩ : ∃ x, ent M i j = x := ⟨_, rfl⟩
                obtain ⟨y, hy⟩ : ∃ y, ent M i k = y := ⟨_, rfl⟩
                obtain ⟨z, hz⟩ : ∃ z, ent M j k = z := ⟨_, rfl⟩
                rw [hx] at c1
                rw [hy] at c2
                rw [hz] at c3
                have HK : Hid (utrK M i j k = tw3 x y z) := by show _ = _; rw [utrK, hx, hy, hz]
                have h3 := hid (three_new wq x y z)
                have hab : Below wq.heap.size wq (wq.alloc (.cells #[.int .i64 x, .int .i64 y, .int .i64 z] 3)) := (Below.refl _ _).alloc (Nat.le_refl _) _
                have HBA := hid (hbq.trans (hab.mono hbq.size))
                have HWQ := hid hwq
                clear hx hy hz hs hb hab hbq hwq
                go_wp2
                refine wp_region_still_tail 21 (by kernel_rfl) (by kernel_rfl) ?_
                change wpStill _ _ wr.drew _ _ _
                rw [← HWQ.out]
                simp only [List.take_succ_cons, List.take_zero, List.drop_succ_cons, List.drop_zero]
                repeat still_step
                refine wpStill_nil ?_
                change wpList _ _ _ _ _ wr.drew
                rw [← HWQ.out]
                go_wp2_with fail
                refine (meTwice_c _ x y z _ h3.out).mono ?_
                rintro e w4 ⟨rfl, hb4⟩
                have HB4 := hid (HBA.out.trans (hb4.mono HBA.out.size))
                clear hb4
                rcases Bool.eq_false_or_eq_true (tw3 x y z) with t3 | t3
                · rw [t3]
                  have HST : Hid (utrB M = (allFrom M.length (k + 1) (utrK M i j) && (allFrom M.length (j + 1) (utrJ M M.length i) && allFrom M.length (i + 1) (utrI M M.length)))) := by show _ = _; rw [HR3.out, allFrom_lt _ hltk, HK.out, t3, Bool.true_and]
                  go_wp2
                  go_roundg (M.length + j + 1 - (k + 1))
                  case rel => exact ⟨k + 1, by omega, by omega, by omega, by go_num, HST.out, HB4.out⟩
                  case measure => omega
                · rw [t3]
                  have HST : Hid (utrB M = false) := by show _ = _; rw [HR3.out, allFrom_lt _ hltk, HK.out, t3]; rfl
                  go_wp2
                  go_ret2
                  exact ⟨by rw [HM.out, HST.out]; rfl, HB4.out⟩
              · have HST : Hid (utrB M = (allFrom M.length (j + 1) (utrJ M M.length i) && allFrom M.length (i + 1) (utrI M M.length))) := by show _ = _; rw [HR3.out, allFrom_ge _ (by omega), Bool.true_and]
                clear hb
                go_wp2
                go_roundg (M.length + i + 1 - (j + 1))
                case rel => exact ⟨j + 1, by omega, by omega, by omega, by go_num, HST.out, HBK.out⟩
                case measure => omega
          · have HST : Hid (utrB M = allFrom M.length (i + 1) (utrI M M.length)) := by show _ = _; rw [HR2.out, allFrom_ge _ (by omega), Bool.true_and]
            go_wp2
            go_roundg (M.length - (i + 1))
            case rel => exact ⟨i + 1, by omega, rfl, by go_num, HST.out, HBJ.out⟩
            case measure => omega
      · have HST : Hid (utrB M = true) := by show _ = _; rw [HR1.out, allFrom_ge _ (by omega)]
        go_wp2
        go_ret2
        exact ⟨by rw [HM.out, HST.out]; rfl, HBI.out⟩
  · have HM := hid (isUltB_no t)
    go_enter Try.func24, Try.ntmps24
    go_wp2_with fail
    refine (meGood_b _ M _ h).mono ?_
    rintro e w1 ⟨rfl, hb1⟩
    rw [t]
    go_wp2
    go_ret2
    exact ⟨by rw [HM.out]; rfl, hb1⟩

/-- xs is a choice of k points of n, in their order -/
def preC (n k : Nat) (xs : List Int) : Prop := xs.length = k ∧ (∀ x ∈ xs, 0 ≤ x ∧ x < (n : Int)) ∧ xs.Pairwise (· < ·)
/-- what a visitor that writes nothing keeps: what lay below its base -/
def VRead {σ : Type} (w0 : World) (_s : σ) (w : World) (D : Nat → Prop) : Prop := Below w0.heap.size w0 w ∧ ∀ b, ¬ D b
theorem VRead.frame {σ : Type} {w0 : World} {s : σ} {w w' : World} {D : Nat → Prop} (h : VRead w0 s w D) (hk : KeepOn (fun b => b < w0.heap.size ∨ D b) w w') : VRead w0 s w' D :=
  ⟨h.1.trans (hk.below (fun _ hb => .inl hb) h.1.size), h.2⟩
theorem getD_mem0 {xs : List Int} {i : Nat} (h : i < xs.length) : xs.getD i 0 ∈ xs := by simp [List.getD, List.getElem?_eq_getElem h]
theorem preC_three {n : Nat} {xs : List Int} (h : preC n 3 xs) : ∃ i j k : Nat, xs = [(i : Int), (j : Int), (k : Int)] ∧ i < j ∧ j < k ∧ k < n := by
  obtain ⟨h1, h2, h3⟩ := h
  match xs, h1 with
  | [a, b, c], _ =>
    simp at h2 h3
    exact ⟨a.toNat, b.toNat, c.toNat, by rw [Int.toNat_of_nonneg h2.1.1, Int.toNat_of_nonneg h2.2.1.1, Int.toNat_of_nonneg h2.2.2.1], by omega, by omega, by omega⟩

set_option maxRecDepth 100000 in
set_option maxHeartbeats 2000000 in
theorem iUltF_c (M : List (List Int)) (mv : Value) (bm : Nat) (w0 w : World) (hm : metB M = true) (h : RMat w0 mv M) (hb : Below w0.heap.size w0 w) (hbm : w0.cell? ⟨bm, 0, none⟩ = some mv) (v : Value) (i j k : Nat) (hl : RInts w v [(i : Int), (j : Int), (k : Int)]) (hij : i < j) (hjk : j < k) (hk : k < M.length) :
    Calls Try.prog 66 (#[v] ++ #[.pointer (some ⟨bm, 0, none⟩)]) w fun e w' => e = .returned (.bool (utrK M i j k)) ∧ Below w.heap.size w w' := by
  show Calls Try.prog 66 #[v, .pointer (some ⟨bm, 0, none⟩)] w _
  obtain ⟨g, o, cap, G, O, C, rfl, q1, q2, hsq⟩ := met_open h hm
  have e0 := (hb.cell (p := ⟨bm, 0, none⟩) (cell_lt hbm)).trans hbm
  obtain ⟨wq, hwq⟩ : ∃ wq : World, wq = w.drew := ⟨_, rfl⟩
  have hs : SqIn wq g o M.length G O C M := by rw [hwq]; exact hsq.keep hb.drew
  obtain ⟨ad, lcap, rfl, l1, l2, hc⟩ := hl
  obtain ⟨gl, ol, rfl, d0⟩ := hc 0 (by simp)
  obtain ⟨g1, o1, he, d1⟩ := hc 1 (by simp)
  simp only [Option.some.injEq, Addr.mk.injEq, and_true] at he
  obtain ⟨rfl, rfl⟩ := he
  obtain ⟨g1, o1, he, d2⟩ := hc 2 (by simp)
  simp only [Option.some.injEq, Addr.mk.injEq, and_true] at he
  obtain ⟨rfl, rfl⟩ := he
  clear hc
  have d0 : wq.cell? ⟨gl, ol, none⟩ = some (.int .i64 (i : Int)) := by rw [hwq]; exact d0
  have d1 : wq.cell? ⟨gl, ol + 1, none⟩ = some (.int .i64 (j : Int)) := by rw [hwq]; exact d1
  have d2 : wq.cell? ⟨gl, ol + 2, none⟩ = some (.int .i64 (k : Int)) := by rw [hwq]; exact d2
  have e0 : wq.cell? ⟨bm, 0, none⟩ = some (.slice (some ⟨g, o, none⟩) M.length cap) := by rw [hwq]; exact e0
  unfold maxLen at l2
  simp only [List.length_cons, List.length_nil, Nat.reduceAdd] at l1 ⊢
  have r1 := hs.row i (by omega)
  have r2 := hs.row j (by omega)
  have c1 := hs.at_ i j (by omega) (by omega)
  have c2 := hs.at_ i k (by omega) (by omega)
  have c3 := hs.at_ j k (by omega) (by omega)
  obtain ⟨x, hx⟩ : ∃ x, ent M i j = x := ⟨_, rfl⟩
  obtain ⟨y, hy⟩ : ∃ y, ent M i k = y := ⟨_, rfl⟩
  obtain ⟨z, hz⟩ : ∃ z, ent M j k = z := ⟨_, rfl⟩
  rw [hx] at c1
  rw [hy] at c2
  rw [hz] at c3
  have HK : Hid (utrK M i j k = tw3 x y z) := by show _ = _; rw [utrK, hx, hy, hz]
  have h3 := hid (three_new wq x y z)
  have hab : Below wq.heap.size wq (wq.alloc (.cells #[.int .i64 x, .int .i64 y, .int .i64 z] 3)) := (Below.refl _ _).alloc (Nat.le_refl _) _
  have HBA : Hid (Below w.heap.size w (wq.alloc (.cells #[.int .i64 x, .int .i64 y, .int .i64 z] 3))) := below_of_drew (by rw [← hwq]; exact hwq ▸ hab)
  have HWQ := hid hwq
  have hi1 : (i : Int) < (M.length : Int) := by omega
  have hj1 : (j : Int) < (M.length : Int) := by omega
  have hk1 : (k : Int) < (M.length : Int) := by omega
  clear hx hy hz hs hab hwq hsq hb hbm h hm
  go_enter Try.func66, Try.ntmps66
  go_wp2
  refine wp_region_still_tail 33 (by kernel_rfl) (by kernel_rfl) ?_
  change wpStill _ _ w.drew _ _ _
  rw [← HWQ.out]
  simp only [List.take_succ_cons, List.take_zero, List.drop_succ_cons, List.drop_zero]
  repeat still_step
  refine wpStill_nil ?_
  change wpList _ _ _ _ _ w.drew
  rw [← HWQ.out]
  go_wp2_with fail
  refine (reachesTwice_c _ x y z _ h3.out).mono ?_
  rintro e w4 ⟨rfl, hb4⟩
  have HB4 := hid (HBA.out.trans (hb4.mono HBA.out.size))
  clear hb4
  go_wp2
  go_ret
  exact ⟨ret_bool HK.out.symm, HB4.out⟩

theorem iUlt_vis (M : List (List Int)) (mv : Value) (bm : Nat) (w0 : World) (hm : metB M = true) (h : RMat w0 mv M) (hbm : w0.cell? ⟨bm, 0, none⟩ = some mv) :
    Vis Unit w0.heap.size 66 #[.pointer (some ⟨bm, 0, none⟩)] (fun _ xs => okU M xs) (fun _ _ => ()) (VRead w0) (preC M.length 3) where
  enter := Try.call66
  frame := fun s w w' D hv hk => hv.frame hk
  call := fun s w D v xs hv hl hp hw => by
    obtain ⟨i, j, k, rfl, h1, h2, h3⟩ := preC_three hp
    refine (iUltF_c M mv bm w0 w hm h hv.1 hbm v i j k hl h1 h2 h3).mono ?_
    rintro e w' ⟨rfl, hb⟩
    exact ⟨D, by simp [okU], ⟨hv.1.trans (hb.mono hv.1.size), hv.2⟩, fun c hc => absurd hc (hv.2 c), KeepOn.of_below hb⟩

set_option maxHeartbeats 1000000 in
theorem iIsUltrametric_u (v : Value) (M : List (List Int)) (w : World) (h : RMat w v M) :
    Calls Try.prog 23 #[v] w fun e w' => e = .returned (.tuple #[.bool (isUltB M).1, .bool (isUltB M).2]) ∧ Below w.heap.size w w' := by
  have HR := hid h
  obtain ⟨a, cap, rfl, q1, q2, hc⟩ := h
  clear hc
  have hb0 : Below w.heap.size w (w.alloc (.cells #[.slice a M.length cap] 22)) := (Below.refl _ _).alloc (Nat.le_refl _) _
  have hc0 := cell_new w (.slice a M.length cap) 22
  have HC0 := hid hc0
  have HB0 := hid hb0
  have H0 := hid (HR.out.keep hb0)
  rcases Bool.eq_false_or_eq_true (metB M) with t | t
  · have HM := hid (isUltB_yes t)
    have hp := metB_parts t
    have hn7 := hp.2.1
    have HT := hid t
    clear hc0 hb0 hp
    go_enter Try.func23, Try.ntmps23
    go_wp2_with fail
    refine (isMetric_c _ M _ H0.out).mono ?_
    rintro e w1 ⟨rfl, hb1⟩
    rw [t]
    have e1 := (hb1.cell (p := ⟨w.heap.size, 0, none⟩) (cell_lt HC0.out)).trans HC0.out
    have HC1 := hid e1
    have H1 := hid (H0.out.keep hb1)
    have HB1 := hid (HB0.out.trans (hb1.mono HB0.out.size))
    clear hb1
    go_wp2_with fail
    refine (choices_c M.length 3 (by omega) (by omega) () (fun _ => False) _ (iUlt_vis M _ _ w1 HT.out H1.out HC1.out) (fun xs h1 h2 h3 => ⟨h1, h2, h3⟩) ⟨Below.refl _ _, fun b hb => hb⟩ (fun b hb => hb.elim)).mono ?_
    rintro e w2 ⟨D2, rfl, hV, _, _⟩
    have HB2 := hid (HB1.out.trans (hV.1.mono HB1.out.size))
    clear hV e1
    rw [nextR_ult]
    go_wp2
    go_ret2
    exact ⟨by rw [HM.out]; rfl, HB2.out⟩
  · have HM := hid (isUltB_no t)
    clear hc0 hb0
    go_enter Try.func23, Try.ntmps23
    go_wp2_with fail
    refine (isMetric_c _ M _ H0.out).mono ?_
    rintro e w1 ⟨rfl, hb1⟩
    rw [t]
    have HB1 := hid (HB0.out.trans (hb1.mono HB0.out.size))
    clear hb1
    go_wp2
    go_ret2
    exact ⟨by rw [HM.out]; rfl, HB1.out⟩

end Go.Proofs.Ytcgcgmlonhganaa
