/- Metrics, plain: the ultrametric below, longer ends, a point less. -/
import Derived.Test.YtcgcgmlonhganaaUltra
import Derived.Test.YtcgcgmlonhganaaIsUltra
import Derived.Test.YtcgcgmlonhganaaPend
import Derived.Test.YtcgcgmlonhganaaBad2
namespace Go.Proofs.Ytcgcgmlonhganaa
open Go.RowKit

/-! ### Matrices as functions -/
theorem iterFrom_ind {S : Type} {n : Nat} {f : Nat → S → S} (P : Nat → S → Prop) (hf : ∀ k s, k < n → P k s → P (k + 1) (f k s)) : ∀ (d k : Nat) (s : S), d = n - k → k ≤ n → P k s → P n (iterFrom n k f s)
  | 0, k, s, hd, hk, h => by
    rw [iterFrom_ge f s (by omega)]
    have : k = n := by omega
    rw [← this]; exact h
  | d + 1, k, s, hd, hk, h => by
    rw [iterFrom_lt f s (by omega)]
    exact iterFrom_ind P hf d (k + 1) _ (by omega) (by omega) (hf k s (by omega) h)
theorem sq_ext {n : Nat} {A B : List (List Int)} (ha : A.length = n) (hA : sqB A n = true) (hb : B.length = n) (hB : sqB B n = true) (h : ∀ i j, i < n → j < n → ent A i j = ent B i j) : A = B := by
  apply List.ext_getElem (by omega)
  intro i h1 h2
  have e1 := sqB_len hA (i := i) h1
  have e2 := sqB_len hB (i := i) h2
  have g1 : A.getD i [] = A[i] := by simp [List.getD, h1]
  have g2 : B.getD i [] = B[i] := by simp [List.getD, h2]
  rw [g1] at e1
  rw [g2] at e2
  apply List.ext_getElem (by omega)
  intro j h3 h4
  have := h i j (by omega) (by omega)
  unfold ent at this
  rw [g1, g2] at this
  simpa [List.getD, h3, h4] using this
/-- what a metric is, as a function -/
structure Met (n : Nat) (m : Nat → Nat → Int) : Prop where
  n2 : 2 ≤ n
  n7 : n ≤ 7
  diag : ∀ i, i < n → m i i = 0
  far : ∀ i j, i < n → j < n → i ≠ j → 1 ≤ m i j ∧ m i j ≤ 10000
  sym : ∀ i j, i < n → j < n → m i j = m j i
  tri : ∀ i j k, i < n → j < n → k < n → m i k ≤ m i j + m j k
theorem Met.nonneg {n : Nat} {m : Nat → Nat → Int} (h : Met n m) {i j : Nat} (hi : i < n) (hj : j < n) : 0 ≤ m i j := by
  by_cases e : i = j
  · rw [e, h.diag j hj]; omega
  · have := h.far i j hi hj e; omega
theorem met_iff {M : List (List Int)} : metB M = true ↔ sqB M M.length = true ∧ Met M.length (ent M) := by
  constructor
  · intro h
    obtain ⟨h1, h2, h3, h4, h5⟩ := metB_parts h
    refine ⟨h3, ⟨h1, h2, fun i hi => symB_zero h4 hi, fun i j hi hj hne => ?_, fun i j hi hj => symB_comm h4 hi hj, fun i j k hi hj hk => ?_⟩⟩
    · have := symB_at h4 hi hj
      unfold symP at this
      rw [if_neg hne] at this
      simp only [Bool.and_eq_true] at this
      exact inB_iff.1 this.1
    · unfold triB at h5
      have := allFrom_iff.1 (allFrom_iff.1 (allFrom_iff.1 h5 i (Nat.zero_le _) hi) k (Nat.zero_le _) hk) j (Nat.zero_le _) hj
      unfold triP at this
      simp at this
      omega
  · rintro ⟨h1, h⟩
    unfold metB
    simp only [Bool.and_eq_true]
    refine ⟨inB_iff.2 (by have := h.n2; have := h.n7; omega), h1, ?_, ?_⟩
    · unfold symB
      refine allFrom_iff.2 fun i _ hi => allFrom_iff.2 fun k _ hk => ?_
      unfold symP
      by_cases e : i = k
      · rw [if_pos e, e, h.diag k hk]; rfl
      · rw [if_neg e]
        simp only [Bool.and_eq_true, beq_iff_eq]
        exact ⟨inB_iff.2 (h.far i k hi hk e), h.sym i k hi hk⟩
    · unfold triB
      refine allFrom_iff.2 fun i _ hi => allFrom_iff.2 fun k _ hk => allFrom_iff.2 fun j _ hj => ?_
      unfold triP
      have := h.tri i j k hi hj hk
      simp; omega

/-! ### The ultrametric below -/
def Ult (n : Nat) (m : Nat → Nat → Int) : Prop := ∀ i j k, i < n → j < n → k < n → m i k ≤ max (m i j) (m j k)
theorem utr_iff {M : List (List Int)} (h : metB M = true) : utrB M = true ↔ Ult M.length (ent M) := by
  obtain ⟨_, hm⟩ := met_iff.1 h
  have key : utrB M = true ↔ ∀ i j k, i < j → j < k → k < M.length → utrK M i j k = true := by
    unfold utrB utrI utrJ
    rw [allFrom_iff]
    constructor
    · intro x i j k h1 h2 h3
      exact allFrom_iff.1 (allFrom_iff.1 (x i (Nat.zero_le _) (by omega)) j (by omega) (by omega)) k (by omega) h3
    · intro x i _ hi
      exact allFrom_iff.2 fun j h1 h2 => allFrom_iff.2 fun k h3 h4 => x i j k (by omega) (by omega) h4
  rw [key]
  unfold utrK tw3
  constructor
  · intro x i j k hi hj hk
    have n1 := hm.nonneg hi hj
    have n2 := hm.nonneg hj hk
    by_cases e1 : i = k
    · rw [e1, hm.diag k hk]; omega
    · by_cases e2 : i = j
      · rw [e2]; omega
      · by_cases e3 : j = k
        · rw [e3]; omega
        · have s1 := hm.sym i j hi hj
          have s2 := hm.sym i k hi hk
          have s3 := hm.sym j k hj hk
          rcases Nat.lt_or_gt_of_ne e1 with a | a <;> rcases Nat.lt_or_gt_of_ne e2 with b | b <;> rcases Nat.lt_or_gt_of_ne e3 with c | c
          · have := x i j k b c hk; simp at this; omega
          · have := x i k j a c hj; simp at this; omega
          · have := x j i k b a hk; simp at this; omega
          · omega
          · omega
          · have := x k i j a b hj; simp at this; omega
          · have := x j k i c a hi; simp at this; omega
          · have := x k j i c b hi; simp at this; omega
  · intro x i j k h1 h2 h3
    have a := x i j k (by omega) (by omega) h3
    have b := x i k j (by omega) (by omega) (by omega)
    have c := x j i k (by omega) (by omega) h3
    have s1 := hm.sym i j (by omega) (by omega)
    have s3 := hm.sym j k (by omega) (by omega)
    simp; omega

/-- one step, as functions -/
def ultF (k : Nat) (m : Nat → Nat → Int) (i j : Nat) : Int := min (m i j) (max (m i k) (m k j))
theorem ultK_ent {n k : Nat} {s : List (List Int)} (hk : k < n) (hl : s.length = n) (hs : sqB s n = true) (h0 : ent s k k = 0) (hp : ∀ i j, i < n → j < n → 0 ≤ ent s i j) :
    (ultK n k s).length = n ∧ sqB (ultK n k s) n = true ∧ ∀ i j, i < n → j < n → ent (ultK n k s) i j = ultF k (ent s) i j := by
  have hcol : ∀ a, a < n → ultF k (ent s) a k = ent s a k := fun a ha => by have := hp a k ha hk; unfold ultF; rw [h0]; omega
  have hrow : ∀ b, b < n → ultF k (ent s) k b = ent s k b := fun b hb => by have := hp k b hk hb; unfold ultF; rw [h0]; omega
  let P : Nat → Nat → List (List Int) → Prop := fun i j t => t.length = n ∧ sqB t n = true ∧ ∀ a b, a < n → b < n → ent t a b = if a < i ∨ (a = i ∧ b < j) then ultF k (ent s) a b else ent s a b
  have hin : ∀ i t, i < n → P i 0 t → P (i + 1) 0 (ultI n k i t) := fun i t hi ht => by
    have := iterFrom_ind (n := n) (f := ultJ k i) (P i) (fun j t hj ⟨t1, t2, t3⟩ => by
      unfold ultJ
      refine ⟨by rw [setEnt_len]; exact t1, setEnt_sq t2 t1 hi _ _, fun a b ha hb => ?_⟩
      rw [ent_setEnt t2 t1 hi hj]
      have c1 : ent t i k = ent s i k := by
        rw [t3 i k hi hk]; split
        · exact hcol i hi
        · rfl
      have c2 : ent t k j = ent s k j := by
        rw [t3 k j hk hj]; split
        · exact hrow j hj
        · rfl
      have c3 : ent t i j = ent s i j := by rw [t3 i j hi hj, if_neg (by omega)]
      by_cases e : a = i ∧ b = j
      · rw [if_pos e, if_pos (by omega), c1, c2, c3, e.1, e.2]; rfl
      · rw [if_neg e, t3 a b ha hb]
        by_cases e2 : a < i ∨ (a = i ∧ b < j)
        · rw [if_pos e2, if_pos (by omega)]
        · rw [if_neg e2, if_neg (by omega)]) n 0 t (by omega) (Nat.zero_le _) ht
    obtain ⟨t1, t2, t3⟩ := this
    refine ⟨t1, t2, fun a b ha hb => ?_⟩
    show ent (iterFrom n 0 (ultJ k i) t) a b = _
    rw [t3 a b ha hb]
    by_cases e : a < i + 1
    · rw [if_pos (by omega), if_pos (by omega)]
    · rw [if_neg (by omega), if_neg (by omega)]
  have := iterFrom_ind (n := n) (f := ultI n k) (fun i t => P i 0 t) hin n 0 s (by omega) (Nat.zero_le _) ⟨hl, hs, fun a b _ _ => by rw [if_neg (by omega)]⟩
  obtain ⟨t1, t2, t3⟩ := this
  exact ⟨t1, t2, fun i j hi hj => by
    show ent (iterFrom n 0 (ultI n k) s) i j = _
    rw [t3 i j hi hj, if_pos (by omega)]⟩

/-- all that is known of the ultrametric below -/
theorem ult_all {M : List (List Int)} (h : metB M = true) : ∃ U, ultB M = (U, true) ∧ U.length = M.length ∧ sqB U M.length = true ∧ Met M.length (ent U) ∧ Ult M.length (ent U) ∧ (∀ i j, i < M.length → j < M.length → ent U i j ≤ ent M i j) ∧ (Ult M.length (ent M) → U = M) := by
  obtain ⟨hs, hm⟩ := met_iff.1 h
  obtain ⟨n, hn⟩ : ∃ n, M.length = n := ⟨_, rfl⟩
  rw [hn] at hs hm
  let Q : Nat → List (List Int) → Prop := fun k t => t.length = n ∧ sqB t n = true ∧ (∀ i, i < n → ent t i i = 0) ∧ (∀ i j, i < n → j < n → i ≠ j → 1 ≤ ent t i j) ∧ (∀ i j, i < n → j < n → ent t i j = ent t j i) ∧
    (∀ i j, i < n → j < n → ent t i j ≤ ent M i j) ∧ (∀ p i j, p < k → p < n → i < n → j < n → ent t i j ≤ max (ent t i p) (ent t p j)) ∧ (Ult n (ent M) → ∀ i j, i < n → j < n → ent t i j = ent M i j)
  have step : ∀ k t, k < n → Q k t → Q (k + 1) (ultK n k t) := fun k t hk ⟨t1, t2, t3, t4, t5, t6, t7, t8⟩ => by
    have hp : ∀ i j, i < n → j < n → 0 ≤ ent t i j := fun i j hi hj => by
      by_cases e : i = j
      · rw [e, t3 j hj]; omega
      · have := t4 i j hi hj e; omega
    obtain ⟨u1, u2, u3⟩ := ultK_ent hk t1 t2 (t3 k hk) hp
    have hf : ∀ i j, ultF k (ent t) i j = min (ent t i j) (max (ent t i k) (ent t k j)) := fun _ _ => rfl
    refine ⟨u1, u2, fun i hi => ?_, fun i j hi hj hne => ?_, fun i j hi hj => ?_, fun i j hi hj => ?_, fun p i j hpk hpn hi hj => ?_, fun hu i j hi hj => ?_⟩
    · rw [u3 i i hi hi, hf, t3 i hi]
      have := hp i k hi hk
      omega
    · rw [u3 i j hi hj, hf]
      have a := t4 i j hi hj hne
      by_cases e : i = k
      · have := t4 k j hk hj (fun e' => hne (e.trans e')); omega
      · have := t4 i k hi hk e; omega
    · rw [u3 i j hi hj, u3 j i hj hi, hf, hf, t5 i j hi hj, t5 i k hi hk, t5 k j hk hj]; omega
    · rw [u3 i j hi hj, hf]; have := t6 i j hi hj; omega
    · rw [u3 i j hi hj, u3 i p hi hpn, u3 p j hpn hj, hf, hf, hf]
      have e0 := t3 k hk
      by_cases e : p = k
      · subst e
        rw [e0]
        have := hp i p hi hk; have := hp p j hk hj
        omega
      · have a1 := t7 p i j (by omega) hpn hi hj
        have a2 := t7 p i k (by omega) hpn hi hk
        have a3 := t7 p k j (by omega) hpn hk hj
        omega
    · rw [u3 i j hi hj, hf, t8 hu i j hi hj, t8 hu i k hi hk, t8 hu k j hk hj]
      have := hu i k j hi hk hj
      omega
  have base : Q 0 M := ⟨hn, hs, hm.diag, fun i j hi hj hne => (hm.far i j hi hj hne).1, hm.sym, fun _ _ _ _ => Int.le_refl _, fun p _ _ hp _ _ _ => by omega, fun _ _ _ _ _ => rfl⟩
  obtain ⟨t1, t2, t3, t4, t5, t6, t7, t8⟩ := iterFrom_ind (n := n) (f := ultK n) Q step n 0 M (by omega) (Nat.zero_le _) base
  rw [hn]
  have hu : Ult n (ent (iterFrom n 0 (ultK n) M)) := fun i j k hi hj hk => t7 j i k hj hj hi hk
  have hp : ∀ i j, i < n → j < n → 0 ≤ ent (iterFrom n 0 (ultK n) M) i j := fun i j hi hj => by
    by_cases e : i = j
    · rw [e, t3 j hj]; omega
    · have := t4 i j hi hj e; omega
  refine ⟨iterFrom n 0 (ultK n) M, by rw [ultB_yes M h, hn], t1, t2, ⟨hm.n2, hm.n7, t3, fun i j hi hj hne => ⟨t4 i j hi hj hne, ?_⟩, t5, fun i j k hi hj hk => ?_⟩, hu, t6, fun hU => ?_⟩
  · have := t6 i j hi hj; have := (hm.far i j hi hj hne).2; omega
  · have := hu i j k hi hj hk; have := hp i j hi hj; have := hp j k hj hk; omega
  · exact sq_ext t1 t2 hn hs (fun i j hi hj => t8 hU i j hi hj)
/-- what the law asks of it -/
theorem ult_law {M : List (List Int)} (h : metB M = true) : ∃ U B, ultB M = (U, true) ∧ isUltB M = (B, true) ∧ isUltB U = (true, true) ∧ ultB U = (U, true) ∧ B = decide (U = M) ∧ metB U = true ∧ U.length = M.length ∧ (∀ i j, i < M.length → j < M.length → ent U i j ≤ ent M i j) := by
  obtain ⟨U, h1, h2, h3, h4, h5, h6, h7⟩ := ult_all h
  have hmu : metB U = true := met_iff.2 ⟨by rw [h2]; exact h3, by rw [h2]; exact h4⟩
  have hu : utrB U = true := (utr_iff hmu).2 (by rw [h2]; exact h5)
  obtain ⟨V, k1, _, _, _, _, _, k7⟩ := ult_all hmu
  have hVU : V = U := k7 (by rw [h2]; exact h5)
  refine ⟨U, utrB M, h1, isUltB_yes h, by rw [isUltB_yes hmu, hu], by rw [k1, hVU], ?_, hmu, h2, h6⟩
  rw [Bool.eq_iff_iff, decide_eq_true_eq]
  constructor
  · intro x; exact h7 ((utr_iff h).1 x)
  · intro e; rw [← e]; exact hu
end Go.Proofs.Ytcgcgmlonhganaa
