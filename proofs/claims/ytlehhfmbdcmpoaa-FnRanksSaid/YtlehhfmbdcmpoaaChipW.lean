/- Chips on graphs, plain: a divisor is won just if some script pays all debts; orders, and which divisors are not won. -/
import Derived.Test.YtlehhfmbdcmpoaaChipT
namespace Go.Proofs.Ytlehhfmbdcmpoaa
namespace Gr
variable (G : Gr)

/-- some script leaves no debt -/
def Win (f : Nat → Int) : Prop := ∃ c : Nat → Int, ∀ v, v < G.n → 0 ≤ G.after f c v
/-- g is f after a script -/
def Lin (f g : Nat → Int) : Prop := ∃ c : Nat → Int, ∀ v, v < G.n → g v = G.after f c v
theorem Lin.refl (f : Nat → Int) : G.Lin f f := ⟨none0, fun v _ => by rw [after_none]⟩
variable {G}
theorem Lin.trans {f g k : Nat → Int} (h : G.Lin f g) (h' : G.Lin g k) : G.Lin f k := by
  obtain ⟨c, hc⟩ := h
  obtain ⟨d, hd⟩ := h'
  refine ⟨fun u => c u + d u, fun v hv => ?_⟩
  rw [hd v hv, ← after_after]
  exact after_congr G (hc v hv) (fun _ _ => rfl)
theorem Lin.win {f g : Nat → Int} (h : G.Lin f g) (hw : G.Win g) : G.Win f := by
  obtain ⟨c, hc⟩ := h
  obtain ⟨d, hd⟩ := hw
  refine ⟨fun u => c u + d u, fun v hv => ?_⟩
  rw [← after_after, ← after_congr G (hc v hv) (fun _ _ => rfl)]
  exact hd v hv
theorem fire_lin (f : Nat → Int) {v : Nat} (hv : v < G.n) (k : Int) : G.Lin f (G.fire f v k) := by
  refine ⟨fun u => if u = v then k else 0, fun u hu => ?_⟩
  unfold after fire
  rw [sumN_one (fun x => (if x = v then k else 0) * G.lap x u) hv (fun i _ h => by (try dsimp only); rw [if_neg h]; simp), if_pos rfl]
theorem bor_lin (q : Nat) (f : Nat → Int) {v : Nat} (hv : v < G.n) : G.Lin f (G.bor q f v) := by
  unfold bor
  split
  · exact fire_lin f hv _
  · exact Lin.refl G f
theorem p1N_lin (q : Nat) (f : Nat → Int) : ∀ k, k ≤ G.n → G.Lin f (G.p1N q k f)
  | 0, _ => Lin.refl G f
  | k + 1, h => (p1N_lin q f k (by omega)).trans (bor_lin q _ (by omega))
theorem fA_lin (b : Nat → Bool) (f : Nat → Int) : G.Lin f (G.fA b f) := by
  refine ⟨fun u => if b u then 0 else 1, fun v _ => ?_⟩
  unfold fA after
  rw [fN_eq]
  rw [sumN_congr (f := fun u => (if b u = true then (0 : Int) else 1) * G.lap u v) (g := fun u => if b u then 0 else G.lap u v) (fun u _ => by (try dsimp only); split <;> simp)]
theorem red_lin {q : Nat} (W : G.Wt q) {S : Int} {f : Nat → Int} (h : Inv1 G S f) : G.Lin f (red W f) := by
  have h1 : G.Lin f (pay W f) := loopW_keep (step1 W S) (fun a b => G.Lin a b) (Lin.refl G) (fun _ _ _ => Lin.trans) (fun s _ _ => p1N_lin q s G.n (Nat.le_refl _)) _ f (Nat.le_refl _) h
  have h2 : G.Lin (pay W f) (win W (pay W f)) := loopW_keep (step2 W S) (fun a b => G.Lin a b) (Lin.refl G) (fun _ _ _ => Lin.trans) (fun s _ _ => fA_lin _ s) _ _ (Nat.le_refl _) (pay_spec W h).2
  exact h1.trans h2
/-- vertices that a set's firing leaves without debt do not burn -/
theorem edges_mono {b c : Nat → Bool} {v : Nat} (h : ∀ u, u < G.n → b u = true → c u = true) : G.edges b v ≤ G.edges c v := by
  unfold edges
  refine sumN_le (fun u hu => ?_)
  have := G.pos v u
  by_cases e : b u = true
  · rw [if_pos e, if_pos (h u hu e)]; exact Int.le_refl _
  · rw [if_neg e]; split <;> omega
theorem bN_avoid {d : Nat → Int} {A : Nat → Bool} (hA : ∀ v, v < G.n → A v = true → G.edges (fun u => !A u) v ≤ d v) (s : (Nat → Bool) × Bool) (h : ∀ v, v < G.n → A v = true → s.1 v = false) : ∀ k, k ≤ G.n → ∀ v, v < G.n → A v = true → (G.bN d k s).1 v = false
  | 0, _ => h
  | k + 1, hk => by
    have ih := bN_avoid hA s h k (by omega)
    simp only [bN]
    unfold brn
    split
    · rename_i hc
      intro v hv ha
      by_cases e : v = k
      · subst e
        have h1 := hA v hv ha
        have h2 : G.edges (G.bN d v s).1 v ≤ G.edges (fun u => !A u) v := edges_mono (fun u hu hb => by
          cases e : A u with
          | false => rfl
          | true => rw [ih u hu e] at hb; cases hb)
        omega
      · show mark _ k v = false
        rw [mark_other _ e]; exact ih v hv ha
    · exact ih
theorem burnt_avoid {d : Nat → Int} {q : Nat} {A : Nat → Bool} (hq : A q = false) (hA : ∀ v, v < G.n → A v = true → G.edges (fun u => !A u) v ≤ d v) : ∀ v, v < G.n → A v = true → G.burnt d q v = false := by
  have := loopW_end (c := Prod.snd) (g := G.bP d) (Inv := fun s => ∀ v, v < G.n → A v = true → s.1 v = false) (μ := G.muB)
    (fun s hs hc => ⟨bN_avoid hA (s.1, false) hs G.n (Nat.le_refl _), (G.stepB d s trivial hc).2⟩) (G.muB (only q, true)) (only q, true) (Nat.le_refl _)
    (fun v hv ha => by
      show decide (v = q) = false
      rw [decide_eq_false_iff_not]
      rintro rfl
      rw [hq] at ha; cases ha)
  exact this.1
/-- all burns: every set without q has a vertex that its firing would leave in debt -/
theorem full_illegal {d : Nat → Int} {q : Nat} (hb : G.full (G.burnt d q) = true) {A : Nat → Bool} (hq : A q = false) {x : Nat} (hx : x < G.n) (hax : A x = true) : ∃ v, v < G.n ∧ A v = true ∧ d v < G.edges (fun u => !A u) v := by
  by_cases h : ∃ v, v < G.n ∧ A v = true ∧ d v < G.edges (fun u => !A u) v
  · exact h
  · exfalso
    have := burnt_avoid hq (fun v hv ha => Int.not_lt.1 (fun hl => h ⟨v, hv, ha, hl⟩)) x hx hax
    rw [(full_iff G).1 hb x hx] at this; cases this
/-- the greatest of n numbers -/
theorem max_at (c : Nat → Int) : ∀ n, 0 < n → ∃ x, x < n ∧ ∀ u, u < n → c u ≤ c x
  | 0, h => by omega
  | 1, _ => ⟨0, by omega, fun u hu => by obtain rfl : u = 0 := (by omega); exact Int.le_refl _⟩
  | n + 2, _ => by
    obtain ⟨x, hx, h⟩ := max_at c (n + 1) (by omega)
    by_cases e : c x ≤ c (n + 1)
    · exact ⟨n + 1, by omega, fun u hu => by
        by_cases e' : u = n + 1
        · subst e'; exact Int.le_refl _
        · exact Int.le_trans (h u (by omega)) e⟩
    · exact ⟨x, by omega, fun u hu => by
        by_cases e' : u = n + 1
        · subst e'; omega
        · exact h u (by omega)⟩
/-- where the script is greatest, at least the edges out of that set are lost -/
theorem after_max {f c : Nat → Int} {M : Int} (hM : ∀ u, u < G.n → c u ≤ M) {v : Nat} (hv : v < G.n) (he : c v = M) : G.after f c v ≤ f v - G.edges (fun u => !decide (c u = M)) v := by
  have h1 : sumN G.n (fun u => c u * G.lap u v) = sumN G.n (fun u => (c u - M) * G.lap u v) := by
    have : sumN G.n (fun u => (c u - M) * G.lap u v) = sumN G.n (fun u => c u * G.lap u v) - sumN G.n (fun u => M * G.lap u v) := by
      rw [← sumN_sub]; exact sumN_congr (fun u _ => by rw [Int.sub_mul])
    rw [this, sumN_mul, sumN_congr (f := fun u => G.lap u v) (g := G.lap v) (fun u _ => G.lap_sym u v), lap_row G v hv]; omega
  have h2 : G.edges (fun u => !decide (c u = M)) v ≤ sumN G.n (fun u => (c u - M) * G.lap u v) := by
    unfold edges
    refine sumN_le (fun u hu => ?_)
    have hp := G.pos v u
    have hc := hM u hu
    by_cases e : c u = M
    · rw [if_neg (by simp [e]), e]; simp
    · rw [if_pos (by simp [e])]
      have hne : v ≠ u := fun e' => e (by rw [← e', he])
      unfold lap
      rw [if_neg hne, G.sym u v, Int.mul_neg, ← Int.neg_mul]
      have : 1 * G.m v u ≤ -(c u - M) * G.m v u := Int.mul_le_mul_of_nonneg_right (by omega) hp
      omega
  unfold after
  rw [h1]; omega
theorem win_iff {q : Nat} (hq : q < G.n) (W : G.Wt q) {S : Int} {f : Nat → Int} (h : Inv1 G S f) : 0 ≤ red W f q ↔ G.Win f := by
  obtain ⟨h1, h2⟩ := red_spec W h
  obtain ⟨c, hc⟩ := red_lin W h
  constructor
  · intro h0
    refine ⟨c, fun v hv => ?_⟩
    rw [← hc v hv]
    by_cases e : v = q
    · rw [e]; exact h0
    · exact h1.pos v hv e
  · rintro ⟨d, hd⟩
    -- the script from the reduced divisor
    have hs : ∀ v, v < G.n → 0 ≤ G.after (red W f) (fun u => d u - c u) v := fun v hv => by
      rw [after_congr G (hc v hv) (d := fun u => d u - c u) (fun _ _ => rfl), after_after, after_congr G (g := f) rfl (d := d) (fun u _ => by (try dsimp only); omega)]
      exact hd v hv
    obtain ⟨x, hx, hmx⟩ := max_at (fun u => d u - c u) G.n (by omega)
    by_cases e : d q - c q = d x - c x
    · have h3 := after_max (f := red W f) (c := fun u => d u - c u) hmx hq e
      have h4 := hs q hq
      have h5 : 0 ≤ G.edges (fun u => !decide (d u - c u = d x - c x)) q := sumN_nonneg (fun u _ => by have := G.pos q u; split <;> omega)
      omega
    · exfalso
      obtain ⟨v, hv, ha, hl⟩ := full_illegal h2 (A := fun u => decide (d u - c u = d x - c x)) (by simp [e]) hx (by simp)
      have h3 := after_max (f := red W f) (c := fun u => d u - c u) hmx hv (of_decide_eq_true ha)
      have h4 := hs v hv
      (try dsimp only at h3)
      omega
theorem Win.up {f g : Nat → Int} (h : G.Win f) (hg : ∀ v, v < G.n → f v ≤ g v) : G.Win g := by
  obtain ⟨c, hc⟩ := h
  refine ⟨c, fun v hv => ?_⟩
  have := hc v hv; have := hg v hv
  unfold after at *
  omega
theorem Win.congr {f g : Nat → Int} (h : G.Win f) (hg : ∀ v, v < G.n → f v = g v) : G.Win g := h.up (fun v hv => Int.le_of_eq (hg v hv))
theorem Win.add {f g : Nat → Int} (h : G.Win f) (k : G.Win g) : G.Win (fun v => f v + g v) := by
  obtain ⟨c, hc⟩ := h
  obtain ⟨d, hd⟩ := k
  refine ⟨fun u => c u + d u, fun v hv => ?_⟩
  have h1 := hc v hv
  have h2 := hd v hv
  have : sumN G.n (fun u => (c u + d u) * G.lap u v) = sumN G.n (fun u => c u * G.lap u v) + sumN G.n (fun u => d u * G.lap u v) := by
    rw [← sumN_add]; exact sumN_congr (fun i _ => Int.add_mul _ _ _)
  unfold after at *
  have hh : (fun v => f v + g v) v = f v + g v := rfl
  rw [this]; omega

/-! ### Orders -/
/-- the edges to vertices ahead, less one -/
def nu (G : Gr) (p : Nat → Nat) (v : Nat) : Int := sumN G.n (fun u => if p u < p v then G.m v u else 0) - 1
def Inj (G : Gr) (p : Nat → Nat) : Prop := ∀ u v, u < G.n → v < G.n → p u = p v → u = v
theorem min_at (p : Nat → Nat) (A : Nat → Prop) : ∀ n, (∃ x, x < n ∧ A x) → ∃ x, x < n ∧ A x ∧ ∀ u, u < n → A u → p x ≤ p u := by
  intro n hn
  obtain ⟨k, ⟨x, hx, ha, hk⟩, hmin⟩ := least_of (P := fun k => ∃ x, x < n ∧ A x ∧ p x = k) (by obtain ⟨x, h1, h2⟩ := hn; exact ⟨p x, x, h1, h2, rfl⟩)
  exact ⟨x, hx, ha, fun u hu hau => by rw [hk]; exact hmin _ ⟨u, hu, hau, rfl⟩⟩
/-- such a divisor is not won -/
theorem nu_unwin (h0 : 0 < G.n) (p : Nat → Nat) : ¬ G.Win (nu G p) := by
  rintro ⟨c, hc⟩
  obtain ⟨x, hx, hmx⟩ := max_at c G.n h0
  obtain ⟨v, hv, ha, hmin⟩ := min_at p (fun u => c u = c x) G.n ⟨x, hx, rfl⟩
  have h1 := after_max (f := nu G p) (c := c) hmx hv ha
  have h2 := hc v hv
  have h3 : sumN G.n (fun u => if p u < p v then G.m v u else 0) ≤ G.edges (fun u => !decide (c u = c x)) v := by
    unfold edges
    refine sumN_le (fun u hu => ?_)
    have := G.pos v u
    by_cases e : p u < p v
    · rw [if_pos e, if_pos]
      · exact Int.le_refl _
      · have : ¬ c u = c x := fun h => by have := hmin u hu h; omega
        simp [this]
    · rw [if_neg e]; split <;> omega
  have h4 : nu G p v = sumN G.n (fun u => if p u < p v then G.m v u else 0) - 1 := rfl
  omega
theorem bound_p (p : Nat → Nat) : ∀ n, ∃ P, ∀ v, v < n → p v ≤ P
  | 0 => ⟨0, fun v h => by omega⟩
  | n + 1 => by
    obtain ⟨P, h⟩ := bound_p p n
    exact ⟨P + p n, fun v hv => by
      by_cases e : v = n
      · rw [e]; omega
      · have := h v (by omega); omega⟩
/-- the order turned round -/
theorem nu_rev {p : Nat → Nat} (hp : Inj G p) : ∃ p', Inj G p' ∧ ∀ v, v < G.n → nu G p' v = G.val v - 2 - nu G p v := by
  obtain ⟨P, hP⟩ := bound_p p G.n
  refine ⟨fun u => P - p u, fun u v hu hv h => hp u v hu hv (by have := hP u hu; have := hP v hv; (try dsimp only at h); omega), fun v hv => ?_⟩
  show sumN G.n (fun u => if P - p u < P - p v then G.m v u else 0) - 1 = sumN G.n (G.m v) - 2 - (sumN G.n (fun u => if p u < p v then G.m v u else 0) - 1)
  have : sumN G.n (G.m v) = sumN G.n (fun u => if p u < p v then G.m v u else 0) + sumN G.n (fun u => if P - p u < P - p v then G.m v u else 0) := by
    rw [← sumN_add]
    refine sumN_congr (fun u hu => ?_)
    (try dsimp only)
    have h1 := hP u hu
    have h2 := hP v hv
    by_cases e : u = v
    · rw [e, G.irr]; simp
    · have hne : p u ≠ p v := fun h => e (hp u v hu hv h)
      by_cases e' : p u < p v
      · rw [if_pos e', if_neg (by omega)]; omega
      · rw [if_neg e', if_pos (by omega)]; omega
  rw [this]; omega
theorem nu_sum {p : Nat → Nat} (hp : Inj G p) : 2 * sumN G.n (nu G p) = sumN G.n G.val - 2 * G.n := by
  obtain ⟨P, hP⟩ := bound_p p G.n
  have h1 : sumN G.n (fun v => sumN G.n (fun u => if p u < p v then G.m v u else 0)) = sumN G.n (fun v => sumN G.n (fun u => if p v < p u then G.m v u else 0)) := by
    rw [sumN_comm]
    refine sumN_congr (fun v _ => sumN_congr (fun u _ => ?_))
    rw [G.sym u v]
  have h2 : sumN G.n G.val = sumN G.n (fun v => sumN G.n (fun u => if p u < p v then G.m v u else 0)) + sumN G.n (fun v => sumN G.n (fun u => if p v < p u then G.m v u else 0)) := by
    rw [← sumN_add]
    refine sumN_congr (fun v hv => ?_)
    (try dsimp only)
    unfold val
    rw [← sumN_add]
    refine sumN_congr (fun u hu => ?_)
    (try dsimp only)
    by_cases e : u = v
    · rw [e, G.irr]; simp
    · have hne : p u ≠ p v := fun h => e (hp u v hu hv h)
      by_cases e' : p u < p v
      · rw [if_pos e', if_neg (by omega)]; omega
      · rw [if_neg e', if_pos (by omega)]; omega
  have h3 : sumN G.n (nu G p) = sumN G.n (fun v => sumN G.n (fun u => if p u < p v then G.m v u else 0)) - G.n := by
    unfold nu
    rw [sumN_sub, sumN_const]; omega
  rw [h3]; omega
/-- the order in which the fire burns -/
structure InvO (G : Gr) (d : Nat → Int) (q : Nat) (s : (Nat → Bool) × Bool) (p : Nat → Nat) (K : Nat) : Prop where
  lt : ∀ u, s.1 u = true → p u < K
  inj : ∀ u v, s.1 u = true → s.1 v = true → p u = p v → u = v
  le : ∀ v, s.1 v = true → v ≠ q → d v < sumN G.n (fun u => if s.1 u = true ∧ p u < p v then G.m v u else 0)
theorem bN_order {d : Nat → Int} {q : Nat} (s : (Nat → Bool) × Bool) (h : ∃ p K, InvO G d q s p K) : ∀ k, k ≤ G.n → ∃ p K, InvO G d q (G.bN d k s) p K
  | 0, _ => h
  | k + 1, hk => by
    obtain ⟨p, K, ih⟩ := bN_order s h k (by omega)
    simp only [bN]
    unfold brn
    split
    · rename_i hc
      obtain ⟨hf, hl⟩ := hc
      generalize (G.bN d k s) = t at ih hf hl ⊢
      have hne : ∀ u, t.1 u = true → u ≠ k := fun u hu e => by rw [e, hf] at hu; cases hu
      refine ⟨fun u => if u = k then K else p u, K + 1, ?_, ?_, ?_⟩
      · intro u hu
        (try dsimp only)
        by_cases e : u = k
        · rw [if_pos e]; omega
        · rw [if_neg e]
          have : t.1 u = true := by rw [← mark_other t.1 e]; exact hu
          have := ih.lt u this; omega
      · intro u v hu hv he
        (try dsimp only at he)
        by_cases e : u = k
        · by_cases e' : v = k
          · rw [e, e']
          · rw [if_pos e, if_neg e'] at he
            have := ih.lt v (by rw [← mark_other t.1 e']; exact hv); omega
        · by_cases e' : v = k
          · rw [if_neg e, if_pos e'] at he
            have := ih.lt u (by rw [← mark_other t.1 e]; exact hu); omega
          · rw [if_neg e, if_neg e'] at he
            exact ih.inj u v (by rw [← mark_other t.1 e]; exact hu) (by rw [← mark_other t.1 e']; exact hv) he
      · intro v hv hq
        by_cases e : v = k
        · subst e
          refine Int.lt_of_lt_of_le hl ?_
          unfold edges
          refine sumN_le (fun u _ => ?_)
          have := G.pos v u
          by_cases e' : t.1 u = true
          · have hu := hne u e'
            rw [if_pos e', if_pos]
            · exact Int.le_refl _
            · refine ⟨by show mark t.1 v u = true; rw [mark_other _ hu]; exact e', ?_⟩
              (try dsimp only)
              rw [if_neg hu, if_pos rfl]; exact ih.lt u e'
          · rw [if_neg e']; split <;> omega
        · have hv' : t.1 v = true := by rw [← mark_other t.1 e]; exact hv
          refine Int.lt_of_lt_of_le (ih.le v hv' hq) (sumN_le (fun u _ => ?_))
          have := G.pos v u
          by_cases e' : t.1 u = true ∧ p u < p v
          · have hu := hne u e'.1
            rw [if_pos e', if_pos]
            · exact Int.le_refl _
            · refine ⟨by show mark t.1 k u = true; rw [mark_other _ hu]; exact e'.1, ?_⟩
              (try dsimp only)
              rw [if_neg hu, if_neg e]; exact e'.2
          · rw [if_neg e']; split <;> omega
    · exact ⟨p, K, ih⟩
theorem burnt_order (d : Nat → Int) (q : Nat) (hb : G.full (G.burnt d q) = true) : ∃ p, Inj G p ∧ ∀ v, v < G.n → v ≠ q → d v ≤ nu G p v := by
  have h := loopW_end (c := Prod.snd) (g := G.bP d) (Inv := fun s => ∃ p K, InvO G d q s p K) (μ := G.muB)
    (fun s hs hc => ⟨bN_order (s.1, false) (by
      obtain ⟨p, K, h⟩ := hs
      exact ⟨p, K, h.lt, h.inj, h.le⟩) G.n (Nat.le_refl _), (G.stepB d s trivial hc).2⟩) (G.muB (only q, true)) (only q, true) (Nat.le_refl _)
    ⟨fun _ => 0, 1, fun u _ => by omega, fun u v hu hv _ => by
      have h1 : u = q := of_decide_eq_true hu
      have h2 : v = q := of_decide_eq_true hv
      rw [h1, h2], fun v hv hq => absurd (of_decide_eq_true hv) hq⟩
  obtain ⟨p, K, hI⟩ := h.1
  have hf : ∀ v, v < G.n → G.burnt d q v = true := (full_iff G).1 hb
  refine ⟨p, fun u v hu hv he => hI.inj u v (hf u hu) (hf v hv) he, fun v hv hq => ?_⟩
  have h1 := hI.le v (hf v hv) hq
  have h2 : sumN G.n (fun u => if (loopW Prod.snd (G.bP d) (G.muB (only q, true)) (only q, true)).1 u = true ∧ p u < p v then G.m v u else 0) ≤ sumN G.n (fun u => if p u < p v then G.m v u else 0) := sumN_le (fun u _ => by
    have := G.pos v u
    split
    · rename_i hh; rw [if_pos hh.2]; exact Int.le_refl _
    · split <;> omega)
  unfold nu
  omega
/-- not won: some order's divisor has the chips and the debts besides -/
theorem unwin_order {q : Nat} (hq : q < G.n) (W : G.Wt q) {S : Int} {f : Nat → Int} (h : Inv1 G S f) (hw : ¬ G.Win f) : ∃ p, Inj G p ∧ G.Win (fun v => nu G p v - f v) := by
  obtain ⟨_, h2⟩ := red_spec W h
  obtain ⟨c, hc⟩ := red_lin W h
  have hneg : red W f q < 0 := Int.not_le.1 (fun h0 => hw ((win_iff hq W h).1 h0))
  obtain ⟨p, hp, hle⟩ := burnt_order (red W f) q h2
  refine ⟨p, hp, fun u => - c u, fun v hv => ?_⟩
  have h3 : red W f v ≤ nu G p v := by
    by_cases e : v = q
    · have : 0 ≤ sumN G.n (fun u => if p u < p v then G.m v u else 0) := sumN_nonneg (fun u _ => by have := G.pos v u; split <;> omega)
      unfold nu
      rw [e] at this ⊢; omega
    · exact hle v hv e
  rw [hc v hv] at h3
  unfold after at *
  have : sumN G.n (fun u => -c u * G.lap u v) = - sumN G.n (fun u => c u * G.lap u v) := by
    have := sumN_mul G.n (-1) (fun u => c u * G.lap u v)
    rw [sumN_congr (g := fun u => (-1) * (c u * G.lap u v)) (fun u _ => by (try dsimp only); rw [Int.neg_mul]; omega), this]; omega
  have hh : (fun v => nu G p v - f v) v = nu G p v - f v := rfl
  rw [this]; omega
end Gr
end Go.Proofs.Ytlehhfmbdcmpoaa
