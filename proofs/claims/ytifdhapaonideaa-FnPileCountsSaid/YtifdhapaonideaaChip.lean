/- Chips on graphs, plain: sums, graphs, firing, weights that fall along the edges, loops with a measure, debts are paid. -/
namespace Go.Proofs.Ytifdhapaonideaa

/-! ### Sums -/
def sumN : Nat → (Nat → Int) → Int
  | 0, _ => 0
  | n + 1, f => sumN n f + f n

theorem sumN_congr {n : Nat} {f g : Nat → Int} (h : ∀ i, i < n → f i = g i) : sumN n f = sumN n g := by
  induction n with
  | zero => rfl
  | succ k ih => rw [sumN, sumN, ih (fun i hi => h i (by omega)), h k (by omega)]
theorem sumN_zero {n : Nat} {f : Nat → Int} (h : ∀ i, i < n → f i = 0) : sumN n f = 0 := by
  induction n with
  | zero => rfl
  | succ k ih => rw [sumN, ih (fun i hi => h i (by omega)), h k (by omega)]; rfl
theorem sumN_add (n : Nat) (f g : Nat → Int) : sumN n (fun i => f i + g i) = sumN n f + sumN n g := by
  induction n with
  | zero => rfl
  | succ k ih => simp only [sumN, ih]; omega
theorem sumN_sub (n : Nat) (f g : Nat → Int) : sumN n (fun i => f i - g i) = sumN n f - sumN n g := by
  induction n with
  | zero => rfl
  | succ k ih => simp only [sumN, ih]; omega
theorem sumN_mul (n : Nat) (c : Int) (f : Nat → Int) : sumN n (fun i => c * f i) = c * sumN n f := by
  induction n with
  | zero => simp [sumN]
  | succ k ih => simp only [sumN, ih, Int.mul_add]
theorem sumN_mulr (n : Nat) (c : Int) (f : Nat → Int) : sumN n (fun i => f i * c) = sumN n f * c := by
  induction n with
  | zero => simp [sumN]
  | succ k ih => simp only [sumN, ih, Int.add_mul]
theorem sumN_comm (n m : Nat) (f : Nat → Nat → Int) : sumN n (fun i => sumN m (fun j => f i j)) = sumN m (fun j => sumN n (fun i => f i j)) := by
  induction n with
  | zero => simp only [sumN]; exact (sumN_zero (fun _ _ => rfl)).symm
  | succ k ih => simp only [sumN, ih]; rw [← sumN_add]
theorem sumN_le {n : Nat} {f g : Nat → Int} (h : ∀ i, i < n → f i ≤ g i) : sumN n f ≤ sumN n g := by
  induction n with
  | zero => exact Int.le_refl _
  | succ k ih => have := ih (fun i hi => h i (by omega)); have := h k (by omega); simp only [sumN]; omega
theorem sumN_nonneg {n : Nat} {f : Nat → Int} (h : ∀ i, i < n → 0 ≤ f i) : 0 ≤ sumN n f := by
  induction n with
  | zero => exact Int.le_refl _
  | succ k ih => have := ih (fun i hi => h i (by omega)); have := h k (by omega); simp only [sumN]; omega
/-- all but one -/
theorem sumN_but {n v : Nat} (f : Nat → Int) (h : v < n) : sumN n f = f v + sumN n (fun i => if i = v then 0 else f i) := by
  induction n with
  | zero => omega
  | succ k ih =>
    by_cases e : v = k
    · subst e
      simp only [sumN, if_pos]
      rw [sumN_congr (f := fun i => if i = v then 0 else f i) (g := f) (fun i hi => by rw [if_neg (by omega)])]; omega
    · simp only [sumN]
      rw [ih (by omega), if_neg (by omega)]; omega
theorem sumN_one {n v : Nat} (f : Nat → Int) (h : v < n) (h0 : ∀ i, i < n → i ≠ v → f i = 0) : sumN n f = f v := by
  rw [sumN_but f h, sumN_zero (n := n)]
  · omega
  · intro i hi
    by_cases e : i = v
    · rw [if_pos e]
    · rw [if_neg e, h0 i hi e]
/-- one of them, the others not negative -/
theorem le_sumN {n v : Nat} {f : Nat → Int} (h : v < n) (h0 : ∀ i, i < n → i ≠ v → 0 ≤ f i) : f v ≤ sumN n f := by
  rw [sumN_but f h]
  have : 0 ≤ sumN n (fun i => if i = v then 0 else f i) := sumN_nonneg (fun i hi => by
    by_cases e : i = v
    · rw [if_pos e]; exact Int.le_refl _
    · rw [if_neg e]; exact h0 i hi e)
  omega

/-! ### Graphs -/
/-- a graph with the numbers of edges between its vertices -/
structure Gr where
  n : Nat
  m : Nat → Nat → Int
  sym : ∀ u v, m u v = m v u
  pos : ∀ u v, 0 ≤ m u v
  irr : ∀ v, m v v = 0
  up : ∀ u v, m u v ≤ 5
  n8 : n ≤ 8

namespace Gr
variable (G : Gr)
def val (v : Nat) : Int := sumN G.n (G.m v)
/-- the matrix of a graph -/
def lap (v u : Nat) : Int := if u = v then G.val v else - G.m v u
theorem lap_sym (u v : Nat) : G.lap u v = G.lap v u := by
  unfold lap
  by_cases e : u = v
  · subst e; rfl
  · rw [if_neg (fun h => e h.symm), if_neg e, G.sym]
theorem val_nonneg (v : Nat) : 0 ≤ G.val v := sumN_nonneg (fun i _ => G.pos v i)
theorem sumN_const (n : Nat) (c : Int) : sumN n (fun _ => c) = n * c := by
  induction n with
  | zero => simp [sumN]
  | succ k ih => simp only [sumN, ih]; rw [Int.natCast_succ, Int.add_mul, Int.one_mul]
theorem val_le (v : Nat) (h : v < G.n) : G.val v ≤ 35 := by
  have h1 : G.val v ≤ sumN G.n (fun i => if i = v then 0 else 5) := sumN_le (fun i hi => by
    by_cases e : i = v
    · subst e; rw [if_pos rfl, G.irr]; exact Int.le_refl _
    · rw [if_neg e]; exact G.up v i)
  have h2 := sumN_but (fun _ => (5 : Int)) h
  rw [sumN_const] at h2
  have := G.n8
  omega
theorem lap_row (v : Nat) (h : v < G.n) : sumN G.n (G.lap v) = 0 := by
  rw [sumN_but _ h]
  have : sumN G.n (fun i => if i = v then 0 else G.lap v i) = sumN G.n (fun i => (-1) * G.m v i) := sumN_congr (fun i hi => by
    by_cases e : i = v
    · subst e; rw [if_pos rfl, G.irr]; rfl
    · rw [if_neg e, lap, if_neg e]; omega)
  rw [this, sumN_mul, lap, if_pos rfl, val]; omega

/-- a vertex is fired k times -/
def fire (f : Nat → Int) (v : Nat) (k : Int) : Nat → Int := fun u => f u - k * G.lap v u
theorem fire_self (f : Nat → Int) (v : Nat) (k : Int) : G.fire f v k v = f v - k * G.val v := by simp [fire, lap]
theorem fire_other (f : Nat → Int) (v u : Nat) (k : Int) (h : u ≠ v) : G.fire f v k u = f u + k * G.m v u := by simp [fire, lap, h]; rw [Int.mul_neg]; omega
theorem fire_sum (f : Nat → Int) (v : Nat) (k : Int) (h : v < G.n) : sumN G.n (G.fire f v k) = sumN G.n f := by
  unfold fire
  rw [sumN_sub, sumN_mul, lap_row G v h]; omega
/-- weighted -/
def pot (h f : Nat → Int) : Int := sumN G.n (fun v => h v * f v)
theorem pot_fire (h f : Nat → Int) (v : Nat) (k : Int) : G.pot h (G.fire f v k) = G.pot h f - k * sumN G.n (fun u => h u * G.lap v u) := by
  unfold pot fire
  rw [← sumN_mul, ← sumN_sub]
  apply sumN_congr
  intro i _
  rw [Int.mul_sub, Int.mul_left_comm]

/-- a weight: 0 at q, falling along the edges -/
structure Wt (q : Nat) where
  h : Nat → Int
  zero : h q = 0
  pos : ∀ v, 0 ≤ h v
  fall : ∀ v, v < G.n → v ≠ q → 1 ≤ sumN G.n (fun u => h u * G.lap v u)

/-- there is a way of k edges from q -/
inductive Way (q : Nat) : Nat → Nat → Prop
  | here : Way q q 0
  | step {u v k : Nat} : Way q u k → v < G.n → 0 < G.m u v → Way q v (k + 1)
def Conn (q : Nat) : Prop := ∀ v, v < G.n → ∃ k, G.Way q v k

theorem least_of {P : Nat → Prop} (h : ∃ k, P k) : ∃ k, P k ∧ ∀ j, P j → k ≤ j := by
  obtain ⟨k, hk⟩ := h
  induction k using Nat.strongRecOn with
  | _ k ih =>
    by_cases h : ∃ j, j < k ∧ P j
    · obtain ⟨j, h1, h2⟩ := h
      exact ih j h1 h2
    · exact ⟨k, hk, fun j hj => Nat.not_lt.1 (fun hl => h ⟨j, hl, hj⟩)⟩

noncomputable def dist (q v : Nat) : Nat := open Classical in if h : ∃ k, G.Way q v k then Classical.choose (least_of h) else 0
theorem dist_way {q v : Nat} (h : ∃ k, G.Way q v k) : G.Way q v (G.dist q v) := by
  unfold dist; rw [dif_pos h]; exact (Classical.choose_spec (least_of h)).1
theorem dist_le {q v k : Nat} (h : G.Way q v k) : G.dist q v ≤ k := by
  unfold dist; rw [dif_pos ⟨k, h⟩]; exact (Classical.choose_spec (least_of ⟨k, h⟩)).2 k h

/-- 36^K + 36^(K-1) + .. , d of them -/
def lad (K : Nat) : Nat → Int
  | 0 => 0
  | d + 1 => lad K d + 36 ^ (K - d)
theorem pow_pos36 (k : Nat) : (0 : Int) < 36 ^ k := by
  induction k with
  | zero => decide
  | succ k ih => rw [Int.pow_succ]; omega
theorem lad_mono (K : Nat) {a b : Nat} (h : a ≤ b) : lad K a ≤ lad K b := by
  induction b with
  | zero => have : a = 0 := by omega
            rw [this]; exact Int.le_refl _
  | succ k ih =>
    by_cases e : a = k + 1
    · rw [e]; exact Int.le_refl _
    · have := ih (by omega); have := pow_pos36 (K - k); simp only [lad]; omega
theorem bound_all (n : Nat) (f : Nat → Nat) : ∃ K, ∀ v, v < n → f v < K := by
  induction n with
  | zero => exact ⟨0, fun v h => by omega⟩
  | succ k ih =>
    obtain ⟨K, hK⟩ := ih
    refine ⟨K + f k + 1, fun v hv => ?_⟩
    by_cases e : v = k
    · subst e; omega
    · have := hK v (by omega); omega

theorem wt_at {q : Nat} (hq : q < G.n) (hc : G.Conn q) (K : Nat) (hK : ∀ v, v < G.n → G.dist q v < K) : ∃ W : G.Wt q, W.h = fun v => lad K (G.dist q v) := by
  have d0 : G.dist q q = 0 := by have := G.dist_le (.here (q := q)); omega
  refine ⟨⟨fun v => lad K (G.dist q v), by rw [d0]; rfl, fun v => ?_, fun v hv hne => ?_⟩, rfl⟩
  · exact lad_mono K (Nat.zero_le _) 
  · -- h v val v - sum m v u h u
    have hw := G.dist_way (hc v hv)
    obtain ⟨d, hd⟩ : ∃ d, G.dist q v = d + 1 := by
      refine ⟨G.dist q v - 1, ?_⟩
      have : G.dist q v ≠ 0 := by
        intro e
        rw [e] at hw
        cases hw
        exact hne rfl
      omega
    rw [hd] at hw
    obtain ⟨p, hp, hp2⟩ : ∃ p, G.Way q p d ∧ 0 < G.m p v := by
      cases hw with
      | step a b c => exact ⟨_, a, c⟩
    have hpn : p < G.n := by
      cases hp with
      | here => exact hq
      | step a b c => exact b
    have hdp := G.dist_le hp
    have e1 : sumN G.n (fun u => lad K (G.dist q u) * G.lap v u) = sumN G.n (fun u => G.m v u * (lad K (d + 1) - lad K (G.dist q u))) := by
      have a1 : sumN G.n (fun u => lad K (G.dist q u) * G.lap v u) = lad K (d + 1) * G.val v + sumN G.n (fun u => (-1) * (G.m v u * lad K (G.dist q u))) := by
        rw [sumN_but _ hv, hd, lap, if_pos rfl]
        congr 1
        apply sumN_congr
        intro i hi
        by_cases e : i = v
        · subst e; rw [if_pos rfl, G.irr]; simp
        · rw [if_neg e, lap, if_neg e, Int.mul_neg, Int.mul_comm]; omega
      rw [a1, val, ← sumN_mul, ← sumN_add]
      apply sumN_congr
      intro i _
      rw [Int.mul_sub, Int.mul_comm (lad K (d + 1))]; omega
    rw [e1]
    have hKd : d + 1 < K := by have := hK v hv; omega
    have e2 : sumN G.n (fun u => if u = p then 36 ^ (K - d) else if u = v then 0 else - 5 * 36 ^ (K - (d + 1))) ≤ sumN G.n (fun u => G.m v u * (lad K (d + 1) - lad K (G.dist q u))) := by
      apply sumN_le
      intro u hu
      have hpp := pow_pos36 (K - (d + 1))
      by_cases hup : u = p
      · rw [if_pos hup]
        subst hup
        have h1 : lad K (G.dist q u) ≤ lad K d := lad_mono K hdp
        have h2 : (1 : Int) ≤ G.m v u := by rw [G.sym]; omega
        have h3 := pow_pos36 (K - d)
        have h4 : (36 : Int) ^ (K - d) ≤ lad K (d + 1) - lad K (G.dist q u) := by simp only [lad]; omega
        have h5 : 1 * (lad K (d + 1) - lad K (G.dist q u)) ≤ G.m v u * (lad K (d + 1) - lad K (G.dist q u)) := Int.mul_le_mul_of_nonneg_right h2 (by omega)
        omega
      · rw [if_neg hup]
        by_cases huv : u = v
        · rw [if_pos huv]; subst huv; rw [G.irr]; simp
        · rw [if_neg huv]
          have m0 := G.pos v u
          have m5 := G.up v u
          by_cases hm : G.m v u = 0
          · rw [hm]; simp; omega
          · have h1 := G.dist_le (.step (by rw [← hd] at hw; exact hw) hu (show 0 < G.m v u by omega))
            rw [hd] at h1
            have h2 : lad K (G.dist q u) ≤ lad K (d + 1) + 36 ^ (K - (d + 1)) := by
              have := lad_mono K h1; simp only [lad] at this ⊢; omega
            have h3 : G.m v u * (- 36 ^ (K - (d + 1))) ≤ G.m v u * (lad K (d + 1) - lad K (G.dist q u)) := Int.mul_le_mul_of_nonneg_left (by omega) m0
            have h4 : - 36 ^ (K - (d + 1)) * 5 ≤ - 36 ^ (K - (d + 1)) * G.m v u := Int.mul_le_mul_of_nonpos_left (by omega) m5
            rw [Int.mul_comm (G.m v u)] at h3
            omega
    have hpv : p ≠ v := by
      intro e; subst e; rw [G.irr] at hp2; omega
    have e3 : 1 ≤ sumN G.n (fun u => if u = p then 36 ^ (K - d) else if u = v then 0 else - 5 * 36 ^ (K - (d + 1))) := by
      rw [sumN_but _ hpn, if_pos rfl]
      have hpp := pow_pos36 (K - (d + 1))
      have hpow : (36 : Int) ^ (K - d) = 36 * 36 ^ (K - (d + 1)) := by
        rw [Int.mul_comm, ← Int.pow_succ]; congr 1; omega
      rw [hpow]
      obtain ⟨P, hP⟩ : ∃ P, (36 : Int) ^ (K - (d + 1)) = P := ⟨_, rfl⟩
      rw [hP] at hpp ⊢
      have a1 : sumN G.n (fun i => (if i = v then 0 else if i = p then 0 else (- 5 * P : Int))) ≤ sumN G.n (fun i => if i = p then 0 else if i = p then 36 * P else if i = v then 0 else - 5 * P) := by
        apply sumN_le
        intro i _
        by_cases a : i = p
        · by_cases b : i = v <;> simp [a]
        · by_cases b : i = v
          · rw [if_pos b, if_neg a, if_neg a, if_pos b]; exact Int.le_refl _
          · rw [if_neg b, if_neg a, if_neg a, if_neg a, if_neg b]; exact Int.le_refl _
      have a2 := sumN_but (fun _ => (- 5 * P : Int)) hv
      rw [sumN_const] at a2
      have a3 : sumN G.n (fun i => if i = v then 0 else (- 5 * P : Int)) = (- 5 * P : Int) + sumN G.n (fun i => if i = v then 0 else if i = p then 0 else (- 5 * P : Int)) := by
        rw [sumN_but _ hpn, if_neg hpv]
        congr 1
        apply sumN_congr
        intro i _
        by_cases a : i = p
        · rw [if_pos a]; by_cases b : i = v
          · rw [if_pos b]
          · rw [if_neg b, if_pos a]
        · rw [if_neg a]; by_cases b : i = v
          · rw [if_pos b, if_pos b]
          · rw [if_neg b, if_neg b, if_neg a]
      have h8 : 8 * (- 5 * P) ≤ (G.n : Int) * (- 5 * P) := by
        have : 0 ≤ ((G.n : Int) - 8) * (- 5 * P) := Int.mul_nonneg_of_nonpos_of_nonpos (by have := G.n8; omega) (by omega)
        rw [Int.sub_mul] at this; omega
      omega
    omega
theorem wt_exists {q : Nat} (hq : q < G.n) (hc : G.Conn q) : Nonempty (G.Wt q) := by
  obtain ⟨K, hK⟩ := bound_all G.n (G.dist q)
  obtain ⟨W, _⟩ := G.wt_at hq hc K hK
  exact ⟨W⟩

/-! ### Loops -/
def loopW {S : Type} (c : S → Bool) (g : S → S) : Nat → S → S
  | 0, s => s
  | F + 1, s => if c s then loopW c g F (g s) else s
theorem loopW_no {S : Type} {c : S → Bool} {g : S → S} {s : S} (h : c s = false) (F : Nat) : loopW c g F s = s := by
  cases F with
  | zero => rfl
  | succ F => simp [loopW, h]
theorem loopW_fix {S : Type} {c : S → Bool} {g : S → S} {Inv : S → Prop} {μ : S → Nat} (hs : ∀ s, Inv s → c s = true → Inv (g s) ∧ μ (g s) < μ s) :
    ∀ F s, Inv s → μ s ≤ F → loopW c g F s = loopW c g (μ s) s := by
  intro F
  induction F using Nat.strongRecOn with
  | _ F ih =>
    intro s hi hle
    cases hc : c s with
    | false => rw [loopW_no hc, loopW_no hc]
    | true =>
      obtain ⟨h1, h2⟩ := hs s hi hc
      obtain ⟨F', rfl⟩ : ∃ F', F = F' + 1 := ⟨F - 1, by omega⟩
      obtain ⟨M, hM⟩ : ∃ M, μ s = M + 1 := ⟨μ s - 1, by omega⟩
      rw [hM]
      simp only [loopW, hc, if_true]
      rw [ih F' (by omega) (g s) h1 (by omega)]
      by_cases e : M = F'
      · rw [e, ih F' (by omega) (g s) h1 (by omega)]
      · rw [ih M (by omega) (g s) h1 (by omega)]
theorem loopW_yes {S : Type} {c : S → Bool} {g : S → S} {Inv : S → Prop} {μ : S → Nat} (hs : ∀ s, Inv s → c s = true → Inv (g s) ∧ μ (g s) < μ s) {s : S} (hi : Inv s) (hc : c s = true) :
    loopW c g (μ s) s = loopW c g (μ (g s)) (g s) := by
  obtain ⟨h1, h2⟩ := hs s hi hc
  obtain ⟨M, hM⟩ : ∃ M, μ s = M + 1 := ⟨μ s - 1, by omega⟩
  rw [hM]
  simp only [loopW, hc, if_true]
  exact loopW_fix hs M _ h1 (by omega)
theorem loopW_end {S : Type} {c : S → Bool} {g : S → S} {Inv : S → Prop} {μ : S → Nat} (hs : ∀ s, Inv s → c s = true → Inv (g s) ∧ μ (g s) < μ s) :
    ∀ M s, μ s ≤ M → Inv s → Inv (loopW c g (μ s) s) ∧ c (loopW c g (μ s) s) = false := by
  intro M
  induction M with
  | zero =>
    intro s hM hi
    cases hc : c s with
    | false => rw [loopW_no hc]; exact ⟨hi, hc⟩
    | true => have := (hs s hi hc).2; omega
  | succ M ih =>
    intro s hM hi
    cases hc : c s with
    | false => rw [loopW_no hc]; exact ⟨hi, hc⟩
    | true =>
      rw [loopW_yes hs hi hc]
      obtain ⟨h1, h2⟩ := hs s hi hc
      exact ih (g s) (by omega) h1
/-- something that no round lowers -/
theorem loopW_keep {S : Type} {c : S → Bool} {g : S → S} {Inv : S → Prop} {μ : S → Nat} (hs : ∀ s, Inv s → c s = true → Inv (g s) ∧ μ (g s) < μ s) (R : S → S → Prop) (hr : ∀ s, R s s) (ht : ∀ a b c, R a b → R b c → R a c) (hg : ∀ s, Inv s → c s = true → R s (g s)) :
    ∀ M s, μ s ≤ M → Inv s → R s (loopW c g (μ s) s) := by
  intro M
  induction M with
  | zero =>
    intro s hM hi
    cases hc : c s with
    | false => rw [loopW_no hc]; exact hr s
    | true => have := (hs s hi hc).2; omega
  | succ M ih =>
    intro s hM hi
    cases hc : c s with
    | false => rw [loopW_no hc]; exact hr s
    | true =>
      rw [loopW_yes hs hi hc]
      obtain ⟨h1, h2⟩ := hs s hi hc
      exact ht _ _ _ (hg s hi hc) (ih (g s) (by omega) h1)

/-! ### Debts are paid -/
def owes (q : Nat) (f : Nat → Int) : Bool := (List.range G.n).any fun v => decide (v ≠ q ∧ f v < 0)
theorem owes_iff {q : Nat} {f : Nat → Int} : G.owes q f = true ↔ ∃ v, v < G.n ∧ v ≠ q ∧ f v < 0 := by
  unfold owes; rw [List.any_eq_true]
  constructor
  · rintro ⟨v, h1, h2⟩
    exact ⟨v, List.mem_range.1 h1, of_decide_eq_true h2⟩
  · rintro ⟨v, h1, h2⟩
    exact ⟨v, List.mem_range.2 h1, decide_eq_true h2⟩
theorem owes_false {q : Nat} {f : Nat → Int} : G.owes q f = false ↔ ∀ v, v < G.n → v ≠ q → 0 ≤ f v := by
  constructor
  · intro h v h1 h2
    by_cases e : f v < 0
    · have := (G.owes_iff (q := q) (f := f)).2 ⟨v, h1, h2, e⟩
      rw [h] at this; cases this
    · omega
  · intro h
    cases e : G.owes q f with
    | false => rfl
    | true =>
      obtain ⟨v, h1, h2, h3⟩ := (G.owes_iff).1 e
      have := h v h1 h2; omega
def times (f : Nat → Int) (v : Nat) : Int := (- f v + G.val v - 1) / G.val v
def bor (q : Nat) (f : Nat → Int) (v : Nat) : Nat → Int := if v ≠ q ∧ f v < 0 then G.fire f v (- G.times f v) else f
def p1N (q : Nat) : Nat → (Nat → Int) → Nat → Int
  | 0, f => f
  | k + 1, f => G.bor q (p1N q k f) k
def p1 (q : Nat) (f : Nat → Int) : Nat → Int := G.p1N q G.n f

variable {G}
theorem Wt.val_pos {q : Nat} (W : G.Wt q) {v : Nat} (hv : v < G.n) (hq : v ≠ q) : 1 ≤ G.val v := by
  have h := W.fall v hv hq
  have h0 := G.val_nonneg v
  by_cases e : G.val v = 0
  · have hz : ∀ u, u < G.n → G.m v u = 0 := fun u hu => by
      have h1 := le_sumN (f := G.m v) hu (fun i _ _ => G.pos v i)
      have h2 := G.pos v u
      have : sumN G.n (G.m v) = 0 := e
      omega
    have : sumN G.n (fun u => W.h u * G.lap v u) = 0 := sumN_zero (fun u hu => by
      unfold lap
      by_cases e' : u = v
      · rw [if_pos e', e, Int.mul_zero]
      · rw [if_neg e', hz u hu]; simp)
    omega
  · omega
theorem times_spec {f : Nat → Int} {v : Nat} (hp : 1 ≤ G.val v) (hn : f v < 0) : 1 ≤ G.times f v ∧ 0 ≤ f v + G.times f v * G.val v ∧ f v + G.times f v * G.val v < G.val v := by
  unfold times
  obtain ⟨c, hc⟩ : ∃ c, G.val v = c := ⟨_, rfl⟩
  rw [hc] at hp ⊢
  have h1 := Int.emod_nonneg (- f v + c - 1) (show c ≠ 0 by omega)
  have h2 := Int.emod_lt_of_pos (- f v + c - 1) (show 0 < c by omega)
  have h3 := Int.mul_ediv_add_emod (- f v + c - 1) c
  have h4 : 1 ≤ (- f v + c - 1) / c := by
    rw [Int.le_ediv_iff_mul_le (by omega)]; omega
  rw [Int.mul_comm] at h3
  omega

/-- what holds while debts are paid: bounds, the sum -/
structure Inv1 (G : Gr) (S : Int) (f : Nat → Int) : Prop where
  up : ∀ v, v < G.n → f v ≤ 40
  sum : sumN G.n f = S
theorem bor_inv {q : Nat} (W : G.Wt q) {S : Int} {f : Nat → Int} {v : Nat} (hv : v < G.n) (h : Inv1 G S f) : Inv1 G S (G.bor q f v) := by
  unfold bor
  by_cases hc : v ≠ q ∧ f v < 0
  · rw [if_pos hc]
    obtain ⟨t1, t2, t3⟩ := times_spec (W.val_pos hv hc.1) hc.2
    refine ⟨fun u hu => ?_, by rw [fire_sum _ _ _ _ hv]; exact h.sum⟩
    by_cases e : u = v
    · subst e
      rw [fire_self, Int.neg_mul]; have := G.val_le u hu; omega
    · rw [fire_other _ _ _ _ _ e, Int.neg_mul]
      have := h.up u hu
      have := Int.mul_nonneg (show 0 ≤ G.times f v by omega) (G.pos v u)
      omega
  · rw [if_neg hc]; exact h
theorem p1N_inv {q : Nat} (W : G.Wt q) {S : Int} {f : Nat → Int} (h : Inv1 G S f) : ∀ k, k ≤ G.n → Inv1 G S (G.p1N q k f)
  | 0, _ => h
  | k + 1, hk => bor_inv W (by omega) (p1N_inv W h k (by omega))
theorem bor_pot {q : Nat} (W : G.Wt q) {f : Nat → Int} {v : Nat} (hv : v < G.n) : G.pot W.h f ≤ G.pot W.h (G.bor q f v) ∧ (v ≠ q → f v < 0 → G.pot W.h f + 1 ≤ G.pot W.h (G.bor q f v)) := by
  unfold bor
  by_cases hc : v ≠ q ∧ f v < 0
  · rw [if_pos hc, pot_fire]
    obtain ⟨t1, t2, t3⟩ := times_spec (W.val_pos hv hc.1) hc.2
    have h1 := W.fall v hv hc.1
    have h2 : 1 * 1 ≤ G.times f v * sumN G.n (fun u => W.h u * G.lap v u) := Int.mul_le_mul t1 h1 (by decide) (by omega)
    rw [Int.neg_mul]
    exact ⟨by omega, fun _ _ => by omega⟩
  · rw [if_neg hc]; exact ⟨Int.le_refl _, fun a b => (hc ⟨a, b⟩).elim⟩
theorem p1N_pot {q : Nat} (W : G.Wt q) {f : Nat → Int} : ∀ k, k ≤ G.n → G.pot W.h f ≤ G.pot W.h (G.p1N q k f) ∧ (G.pot W.h f = G.pot W.h (G.p1N q k f) → G.p1N q k f = f)
  | 0, _ => ⟨Int.le_refl _, fun _ => rfl⟩
  | k + 1, hk => by
    obtain ⟨h1, h2⟩ := p1N_pot W (f := f) k (by omega)
    obtain ⟨h3, h4⟩ := bor_pot W (f := G.p1N q k f) (show k < G.n by omega)
    refine ⟨Int.le_trans h1 h3, fun he => ?_⟩
    simp only [p1N] at he ⊢
    have hk' := h2 (by omega)
    rw [hk'] at h3 h4 he ⊢
    unfold bor
    by_cases hc : k ≠ q ∧ f k < 0
    · have := h4 hc.1 hc.2; omega
    · rw [if_neg hc]
theorem p1N_moves {q : Nat} (W : G.Wt q) {f : Nat → Int} {v : Nat} (hv : v < G.n) (hq : v ≠ q) (hn : f v < 0) : G.pot W.h f + 1 ≤ G.pot W.h (G.p1 q f) := by
  have hstep : ∀ k, k ≤ G.n → v < k → G.pot W.h f + 1 ≤ G.pot W.h (G.p1N q k f) := by
    intro k
    induction k with
    | zero => intro _ h; omega
    | succ k ih =>
      intro hk hvk
      obtain ⟨h1, h2⟩ := p1N_pot W (f := f) k (by omega)
      obtain ⟨h3, h4⟩ := bor_pot W (f := G.p1N q k f) (show k < G.n by omega)
      simp only [p1N]
      by_cases e : v = k
      · subst e
        by_cases e' : G.pot W.h f = G.pot W.h (G.p1N q v f)
        · have := h2 e'
          rw [this] at h4 ⊢
          exact h4 hq hn
        · omega
      · have := ih (by omega) (by omega); omega
  exact hstep G.n (Nat.le_refl _) hv
theorem pot_le {q : Nat} (W : G.Wt q) {S : Int} {f : Nat → Int} (h : Inv1 G S f) : G.pot W.h f ≤ 40 * sumN G.n W.h := by
  rw [← sumN_mul]
  apply sumN_le
  intro i hi
  have := Int.mul_le_mul_of_nonneg_left (h.up i hi) (W.pos i)
  omega
/-- rounds that are left -/
def mu1 {q : Nat} (W : G.Wt q) (f : Nat → Int) : Nat := (40 * sumN G.n W.h - G.pot W.h f).toNat
theorem step1 {q : Nat} (W : G.Wt q) (S : Int) : ∀ f, Inv1 G S f → G.owes q f = true → Inv1 G S (G.p1 q f) ∧ mu1 W (G.p1 q f) < mu1 W f := by
  intro f hi hc
  obtain ⟨v, h1, h2, h3⟩ := (G.owes_iff).1 hc
  have h4 := p1N_moves W h1 h2 h3
  have h5 := p1N_inv W hi G.n (Nat.le_refl _)
  have h6 := pot_le W h5
  refine ⟨h5, ?_⟩
  unfold mu1
  have : G.pot W.h (G.p1 q f) ≤ 40 * sumN G.n W.h := h6
  omega
def pay {q : Nat} (W : G.Wt q) (f : Nat → Int) : Nat → Int := loopW (G.owes q) (G.p1 q) (mu1 W f) f
/-- the least a vertex can have -/
theorem Inv1.low {S : Int} {f : Nat → Int} (h : Inv1 G S f) {v : Nat} (hv : v < G.n) : S - 280 ≤ f v := by
  have h1 := sumN_but f hv
  have h2 : sumN G.n (fun i => if i = v then 0 else f i) ≤ sumN G.n (fun i => if i = v then 0 else 40) := sumN_le (fun i hi => by
    by_cases e : i = v
    · rw [if_pos e, if_pos e]; exact Int.le_refl _
    · rw [if_neg e, if_neg e]; exact h.up i hi)
  have h3 := sumN_but (fun _ => (40 : Int)) hv
  rw [sumN_const] at h3
  have := h.sum; have := G.n8
  omega
end Gr
end Go.Proofs.Ytifdhapaonideaa
