/- Chips on graphs, plain: the fire, sets are fired, reduced divisors. -/
import Derived.Test.YtifdhapaonideaaChip
namespace Go.Proofs.Ytifdhapaonideaa
namespace Gr
variable (G : Gr)

/-! ### The fire -/
def edges (b : Nat → Bool) (v : Nat) : Int := sumN G.n (fun u => if b u then G.m v u else 0)
def mark (b : Nat → Bool) (v : Nat) : Nat → Bool := fun u => if u = v then true else b u
/-- a vertex is asked: the marks, and whether one has changed -/
def brn (d : Nat → Int) (s : (Nat → Bool) × Bool) (v : Nat) : (Nat → Bool) × Bool :=
  if s.1 v = false ∧ d v < G.edges s.1 v then (mark s.1 v, true) else s
def bN (d : Nat → Int) : Nat → (Nat → Bool) × Bool → (Nat → Bool) × Bool
  | 0, s => s
  | k + 1, s => G.brn d (bN d k s) k
/-- one pass -/
def bP (d : Nat → Int) (s : (Nat → Bool) × Bool) : (Nat → Bool) × Bool := G.bN d G.n (s.1, false)
def unm (b : Nat → Bool) : Nat → Nat
  | 0 => 0
  | k + 1 => unm b k + if b k then 0 else 1
def muB (s : (Nat → Bool) × Bool) : Nat := unm s.1 G.n + if s.2 then 1 else 0
theorem mark_self (b : Nat → Bool) (v : Nat) : mark b v v = true := by simp [mark]
theorem mark_other (b : Nat → Bool) {u v : Nat} (h : u ≠ v) : mark b v u = b u := by simp [mark, h]
theorem unm_succ (b : Nat → Bool) (k : Nat) : unm b (k + 1) = unm b k + if b k then 0 else 1 := rfl
theorem unm_mark {b : Nat → Bool} {v : Nat} (h : b v = false) : ∀ n, unm (mark b v) n + (if v < n then 1 else 0) = unm b n := by
  intro n
  induction n with
  | zero => rfl
  | succ k ih =>
    rw [unm_succ, unm_succ]
    by_cases e : k = v
    · subst e
      rw [if_neg (Nat.lt_irrefl k)] at ih
      rw [if_pos (show k < k + 1 by omega), h, mark_self]; simp; omega
    · rw [mark_other b e]
      by_cases e' : v < k
      · rw [if_pos e'] at ih; rw [if_pos (show v < k + 1 by omega)]; omega
      · rw [if_neg e'] at ih; rw [if_neg (show ¬ v < k + 1 by omega)]; omega
theorem unm_le (b : Nat → Bool) (n : Nat) : unm b n ≤ n := by
  induction n with
  | zero => exact Nat.le_refl _
  | succ k ih => simp only [unm]; split <;> omega
theorem bN_mu (d : Nat → Int) (s : (Nat → Bool) × Bool) : ∀ k, k ≤ G.n → unm (G.bN d k s).1 G.n ≤ unm s.1 G.n ∧ (unm (G.bN d k s).1 G.n = unm s.1 G.n → G.bN d k s = s)
  | 0, _ => ⟨Nat.le_refl _, fun _ => rfl⟩
  | k + 1, hk => by
    obtain ⟨h1, h2⟩ := bN_mu d s k (by omega)
    simp only [bN]
    unfold brn
    by_cases hc : (G.bN d k s).1 k = false ∧ d k < G.edges (G.bN d k s).1 k
    · rw [if_pos hc]
      have := unm_mark hc.1 G.n
      rw [if_pos (show k < G.n by omega)] at this
      show unm (mark (G.bN d k s).1 k) G.n ≤ _ ∧ (unm (mark (G.bN d k s).1 k) G.n = _ → _)
      exact ⟨by omega, fun e => by omega⟩
    · rw [if_neg hc]; exact ⟨h1, h2⟩
theorem stepB (d : Nat → Int) : ∀ s, True → Prod.snd s = true → True ∧ G.muB (G.bP d s) < G.muB s := by
  intro s _ hs
  refine ⟨trivial, ?_⟩
  obtain ⟨h1, h2⟩ := G.bN_mu d (s.1, false) G.n (Nat.le_refl _)
  unfold muB bP
  rw [hs, if_pos rfl]
  by_cases e : unm (G.bN d G.n (s.1, false)).1 G.n = unm s.1 G.n
  · rw [h2 e]; simp
  · have : unm (G.bN d G.n (s.1, false)).1 G.n < unm s.1 G.n := by simp only at h1; omega
    split <;> omega
def only (q : Nat) : Nat → Bool := fun u => decide (u = q)
/-- the marks of the vertices that the fire at q burns -/
def burnt (d : Nat → Int) (q : Nat) : Nat → Bool := (loopW Prod.snd (G.bP d) (G.muB (only q, true)) (only q, true)).1
/-- what holds of the marks -/
structure InvB (d : Nat → Int) (q : Nat) (s : (Nat → Bool) × Bool) : Prop where
  q : s.1 q = true
  stop : s.2 = false → ∀ v, v < G.n → s.1 v = false → G.edges s.1 v ≤ d v

theorem bN_false (d : Nat → Int) (s : (Nat → Bool) × Bool) : ∀ k, (G.bN d k s).2 = false → G.bN d k s = s ∧ ∀ v, v < k → s.1 v = false → G.edges s.1 v ≤ d v
  | 0, _ => ⟨rfl, fun v h => by omega⟩
  | k + 1, h => by
    simp only [bN] at h ⊢
    unfold brn at h ⊢
    by_cases hc : (G.bN d k s).1 k = false ∧ d k < G.edges (G.bN d k s).1 k
    · rw [if_pos hc] at h; cases h
    · rw [if_neg hc] at h ⊢
      obtain ⟨h1, h2⟩ := bN_false d s k h
      rw [h1] at hc
      refine ⟨h1, fun v hv hm => ?_⟩
      by_cases e : v = k
      · subst e
        exact Int.not_lt.1 (fun hl => hc ⟨hm, hl⟩)
      · exact h2 v (by omega) hm
theorem bN_q (d : Nat → Int) {q : Nat} (s : (Nat → Bool) × Bool) (h : s.1 q = true) : ∀ k, (G.bN d k s).1 q = true
  | 0 => h
  | k + 1 => by
    have := bN_q d s h k
    simp only [bN]
    unfold brn
    split
    · simp only [mark]; split <;> trivial
    · exact this
theorem stepBI (d : Nat → Int) (q : Nat) : ∀ s, G.InvB d q s → Prod.snd s = true → G.InvB d q (G.bP d s) ∧ G.muB (G.bP d s) < G.muB s := by
  intro s hs hc
  refine ⟨⟨G.bN_q d (s.1, false) hs.q G.n, fun h => ?_⟩, (G.stepB d s trivial hc).2⟩
  obtain ⟨h1, h2⟩ := G.bN_false d (s.1, false) G.n h
  show ∀ v, v < G.n → (G.bN d G.n (s.1, false)).1 v = false → G.edges (G.bN d G.n (s.1, false)).1 v ≤ d v
  rw [h1]
  exact h2
theorem only_inv (d : Nat → Int) (q : Nat) : G.InvB d q (only q, true) := ⟨by simp [only], fun h => by cases h⟩
theorem burnt_spec (d : Nat → Int) (q : Nat) : G.burnt d q q = true ∧ ∀ v, v < G.n → G.burnt d q v = false → G.edges (G.burnt d q) v ≤ d v := by
  obtain ⟨h1, h2⟩ := loopW_end (G.stepBI d q) _ (only q, true) (Nat.le_refl _) (G.only_inv d q)
  exact ⟨h1.q, h1.stop h2⟩

/-! ### Sets are fired -/
def fN (b : Nat → Bool) : Nat → (Nat → Int) → Nat → Int
  | 0, f => f
  | k + 1, f => if b k then fN b k f else G.fire (fN b k f) k 1
/-- all that are not marked are fired -/
def fA (b : Nat → Bool) (f : Nat → Int) : Nat → Int := G.fN b G.n f
theorem fN_eq (b : Nat → Bool) (f : Nat → Int) (u : Nat) : ∀ k, G.fN b k f u = f u - sumN k (fun v => if b v then 0 else G.lap v u)
  | 0 => by simp [fN, sumN]
  | k + 1 => by
    have := fN_eq b f u k
    simp only [fN, sumN]
    by_cases h : b k
    · rw [if_pos h, if_pos h, this]; omega
    · rw [if_neg h, if_neg h]; unfold fire; rw [this]; omega
theorem fA_un {b : Nat → Bool} {f : Nat → Int} {u : Nat} (hu : u < G.n) (h : b u = false) : G.fA b f u = f u - G.edges b u := by
  unfold fA
  rw [fN_eq, sumN_but _ hu, h]
  have h1 : G.val u = G.edges b u + sumN G.n (fun v => if b v then 0 else G.m u v) := by
    unfold val edges; rw [← sumN_add]; apply sumN_congr; intro i _; split <;> omega
  have h2 : sumN G.n (fun i => if i = u then 0 else if b i = true then 0 else G.lap i u) = sumN G.n (fun i => (-1) * (if b i then 0 else G.m u i)) := sumN_congr (fun i _ => by
    by_cases e : i = u
    · subst e; rw [if_pos rfl, h]; simp [G.irr]
    · rw [if_neg e]
      by_cases hb : b i
      · rw [if_pos hb, if_pos hb]; rfl
      · rw [if_neg hb, if_neg hb, lap, if_neg (fun h => e h.symm), G.sym]; omega)
  rw [h2, sumN_mul]
  simp only [Bool.false_eq_true, if_false, lap, if_true]
  omega
theorem fA_ma {b : Nat → Bool} {f : Nat → Int} {u : Nat} (h : b u = true) : f u ≤ G.fA b f u := by
  unfold fA
  rw [fN_eq]
  have : sumN G.n (fun v => if b v then 0 else G.lap v u) ≤ sumN G.n (fun _ => 0) := sumN_le (fun i _ => by
    by_cases hb : b i
    · rw [if_pos hb]; exact Int.le_refl _
    · rw [if_neg hb, lap, if_neg (fun e => by rw [e] at h; exact hb h)]; have := G.pos i u; omega)
  rw [sumN_zero (f := fun _ => 0) (fun _ _ => rfl)] at this
  omega
theorem fN_sum (b : Nat → Bool) (f : Nat → Int) : ∀ k, k ≤ G.n → sumN G.n (G.fN b k f) = sumN G.n f
  | 0, _ => rfl
  | k + 1, hk => by
    simp only [fN]
    split
    · exact fN_sum b f k (by omega)
    · rw [fire_sum _ _ _ _ (by omega)]; exact fN_sum b f k (by omega)
/-- while a set is fired, nothing grows or falls by more than 35 a vertex -/
theorem fN_bound (b : Nat → Bool) (f : Nat → Int) (u : Nat) (hu : u < G.n) : ∀ k, k ≤ G.n → f u - 35 * k ≤ G.fN b k f u ∧ G.fN b k f u ≤ f u + 35 * k
  | 0, _ => by simp [fN]
  | k + 1, hk => by
    have := fN_bound b f u hu k (by omega)
    simp only [fN]
    split
    · omega
    · by_cases e : u = k
      · subst e; rw [fire_self]; have := G.val_le u hu; have := G.val_nonneg u; omega
      · rw [fire_other _ _ _ _ _ e]; have := G.pos k u; have := G.up k u; omega
theorem fN_pot {q : Nat} (W : G.Wt q) {b : Nat → Bool} (hb : b q = true) (f : Nat → Int) : ∀ k, k ≤ G.n → G.pot W.h (G.fN b k f) + unm b k ≤ G.pot W.h f
  | 0, _ => by simp [fN, unm]
  | k + 1, hk => by
    have := fN_pot W hb f k (by omega)
    simp only [fN, unm]
    by_cases h : b k
    · rw [if_pos h, if_pos h]; omega
    · rw [if_neg h, if_neg h, pot_fire]
      have := W.fall k (by omega) (fun e => h (e ▸ hb))
      omega

/-! ### Reducing -/
def full (b : Nat → Bool) : Bool := decide (unm b G.n = 0)
theorem unm_zero {b : Nat → Bool} {n : Nat} : unm b n = 0 ↔ ∀ v, v < n → b v = true := by
  induction n with
  | zero => exact ⟨fun _ v h => by omega, fun _ => rfl⟩
  | succ k ih =>
    simp only [unm]
    constructor
    · intro h v hv
      have h1 : unm b k = 0 := by omega
      by_cases e : v = k
      · subst e
        by_cases hb : b v
        · exact hb
        · rw [if_neg hb] at h; omega
      · exact ih.1 h1 v (by omega)
    · intro h
      rw [ih.2 (fun v hv => h v (by omega)), if_pos (h k (by omega))]
theorem full_iff {b : Nat → Bool} : G.full b = true ↔ ∀ v, v < G.n → b v = true := by
  unfold full; rw [decide_eq_true_iff]; exact unm_zero
/-- not all burn -/
def more (q : Nat) (f : Nat → Int) : Bool := ! G.full (G.burnt f q)
def p2 (q : Nat) (f : Nat → Int) : Nat → Int := G.fA (G.burnt f q) f
variable {G}
/-- what holds while sets are fired -/
structure Inv2 (G : Gr) (q : Nat) (S : Int) (f : Nat → Int) : Prop where
  pos : ∀ v, v < G.n → v ≠ q → 0 ≤ f v
  sum : sumN G.n f = S
theorem Inv2.pot_nonneg {q : Nat} (W : G.Wt q) {S : Int} {f : Nat → Int} (h : Inv2 G q S f) : 0 ≤ G.pot W.h f := by
  apply sumN_nonneg
  intro i hi
  by_cases e : i = q
  · subst e; rw [W.zero]; simp
  · exact Int.mul_nonneg (W.pos i) (h.pos i hi e)
def mu2 {q : Nat} (W : G.Wt q) (f : Nat → Int) : Nat := (G.pot W.h f).toNat
theorem step2 {q : Nat} (W : G.Wt q) (S : Int) : ∀ f, Inv2 G q S f → G.more q f = true → Inv2 G q S (G.p2 q f) ∧ mu2 W (G.p2 q f) < mu2 W f := by
  intro f hi hc
  obtain ⟨hq, hst⟩ := G.burnt_spec f q
  have h1 := G.fN_pot W hq f G.n (Nat.le_refl _)
  have h2 : unm (G.burnt f q) G.n ≠ 0 := by
    intro e
    unfold more full at hc
    rw [e] at hc; cases hc
  have hI : Inv2 G q S (G.p2 q f) := by
    refine ⟨fun v hv hne => ?_, (G.fN_sum _ f G.n (Nat.le_refl _)).trans hi.sum⟩
    unfold p2
    cases hb : G.burnt f q v with
    | false => rw [fA_un G hv hb]; have := hst v hv hb; omega
    | true => have := fA_ma G (f := f) hb; have := hi.pos v hv hne; omega
  refine ⟨hI, ?_⟩
  have h3 := hI.pot_nonneg W
  have h4 : G.pot W.h (G.p2 q f) + unm (G.burnt f q) G.n ≤ G.pot W.h f := h1
  unfold mu2
  omega
def win {q : Nat} (W : G.Wt q) (f : Nat → Int) : Nat → Int := loopW (G.more q) (G.p2 q) (mu2 W f) f
/-- the reduced divisor at q -/
def red {q : Nat} (W : G.Wt q) (f : Nat → Int) : Nat → Int := win W (pay W f)

theorem pay_spec {q : Nat} (W : G.Wt q) {S : Int} {f : Nat → Int} (h : Inv1 G S f) : Inv1 G S (pay W f) ∧ Inv2 G q S (pay W f) := by
  obtain ⟨h1, h2⟩ := loopW_end (step1 W S) _ f (Nat.le_refl _) h
  exact ⟨h1, ⟨(G.owes_false).1 h2, h1.sum⟩⟩
theorem win_spec {q : Nat} (W : G.Wt q) {S : Int} {f : Nat → Int} (h : Inv2 G q S f) : Inv2 G q S (win W f) ∧ G.more q (win W f) = false ∧ f q ≤ win W f q := by
  obtain ⟨h1, h2⟩ := loopW_end (step2 W S) _ f (Nat.le_refl _) h
  refine ⟨h1, h2, ?_⟩
  exact loopW_keep (step2 W S) (fun a b => a q ≤ b q) (fun _ => Int.le_refl _) (fun _ _ _ => Int.le_trans) (fun s _ _ => fA_ma G (G.burnt_spec s q).1) _ f (Nat.le_refl _) h
theorem red_spec {q : Nat} (W : G.Wt q) {S : Int} {f : Nat → Int} (h : Inv1 G S f) : Inv2 G q S (red W f) ∧ G.full (G.burnt (red W f) q) = true := by
  obtain ⟨h1, h2, _⟩ := win_spec W (pay_spec W h).2
  refine ⟨h1, ?_⟩
  unfold more at h2
  unfold red
  simpa using h2
/-- a sum below 0 is not won -/
theorem red_neg {q : Nat} (hq : q < G.n) (W : G.Wt q) {S : Int} {f : Nat → Int} (h : Inv1 G S f) (hS : S < 0) : red W f q < 0 := by
  have h1 := (red_spec W h).1
  have h2 := sumN_but (red W f) hq
  have h3 : 0 ≤ sumN G.n (fun i => if i = q then 0 else red W f i) := sumN_nonneg (fun i hi => by
    by_cases e : i = q
    · rw [if_pos e]; exact Int.le_refl _
    · rw [if_neg e]; exact h1.pos i hi e)
  have := h1.sum
  omega
/-- no debts: won -/
theorem red_eff {q : Nat} (W : G.Wt q) {S : Int} {f : Nat → Int} (hq : q < G.n) (h : Inv1 G S f) (h0 : ∀ v, v < G.n → 0 ≤ f v) : 0 ≤ red W f q := by
  have e : pay W f = f := loopW_no ((G.owes_false).2 (fun v hv _ => h0 v hv)) _
  have := (win_spec W (pay_spec W h).2).2.2
  unfold red
  rw [e] at this ⊢
  have := h0 q hq
  omega
end Gr
end Go.Proofs.Ytifdhapaonideaa
