/- Chips on graphs, plain: toppling, the least action, recurrent piles. -/
import Derived.Test.YtifdhapaonideaaChipB
namespace Go.Proofs.Ytifdhapaonideaa
namespace Gr
variable (G : Gr)

/-! ### Toppling -/
/-- the chips when each vertex has toppled c times -/
def after (f c : Nat → Int) : Nat → Int := fun v => f v - sumN G.n (fun u => c u * G.lap u v)
def bump (c : Nat → Int) (v : Nat) : Nat → Int := fun u => if u = v then c u + 1 else c u
def none0 : Nat → Int := fun _ => 0
theorem after_none (f : Nat → Int) : G.after f none0 = f := by
  funext v; unfold after; rw [sumN_zero (fun u _ => by simp [none0])]; omega
theorem sum_bump {v : Nat} (hv : v < G.n) (c k : Nat → Int) : sumN G.n (fun u => bump c v u * k u) = sumN G.n (fun u => c u * k u) + k v := by
  rw [sumN_but _ hv, sumN_but (fun u => c u * k u) hv]
  have : sumN G.n (fun i => if i = v then 0 else bump c v i * k i) = sumN G.n (fun i => if i = v then 0 else c i * k i) := sumN_congr (fun i _ => by
    by_cases e : i = v
    · rw [if_pos e, if_pos e]
    · rw [if_neg e, if_neg e, bump, if_neg e])
  rw [this, bump, if_pos rfl, Int.add_mul]; omega
theorem after_bump {v : Nat} (hv : v < G.n) (f c : Nat → Int) : G.after f (bump c v) = G.fire (G.after f c) v 1 := by
  funext u
  unfold after fire
  have := sum_bump G hv c (fun x => G.lap x u)
  dsimp only at this ⊢
  rw [this]; omega
theorem after_after (f c d : Nat → Int) : G.after (G.after f c) d = G.after f (fun u => c u + d u) := by
  funext v
  unfold after
  have : sumN G.n (fun u => (c u + d u) * G.lap u v) = sumN G.n (fun u => c u * G.lap u v) + sumN G.n (fun u => d u * G.lap u v) := by
    rw [← sumN_add]; exact sumN_congr (fun i _ => Int.add_mul _ _ _)
  rw [this]; omega
theorem after_add (f a c : Nat → Int) : G.after (fun v => f v + a v) c = fun v => G.after f c v + a v := by
  funext v; unfold after; dsimp only; omega
theorem after_sum (f c : Nat → Int) : sumN G.n (G.after f c) = sumN G.n f := by
  unfold after
  rw [sumN_sub, sumN_comm, sumN_zero (f := fun j => sumN G.n fun i => c j * G.lap j i)]
  · omega
  · intro j hj
    rw [sumN_mul, lap_row G j hj]; simp
theorem after_congr {f g c d : Nat → Int} {v : Nat} (hf : f v = g v) (hc : ∀ u, u < G.n → c u = d u) : G.after f c v = G.after g d v := by
  unfold after
  rw [hf, sumN_congr (fun u hu => by rw [hc u hu])]

/-- no vertex but the sink can topple -/
def Stab (q : Nat) (f : Nat → Int) : Prop := ∀ v, v < G.n → v ≠ q → f v < G.val v
/-- counts of a run in which each vertex that topples has the chips for it -/
inductive Lg (q : Nat) (f : Nat → Int) : (Nat → Int) → Prop
  | nil : Lg q f none0
  | step {c : Nat → Int} {v : Nat} : Lg q f c → v < G.n → v ≠ q → G.val v ≤ G.after f c v → Lg q f (bump c v)
variable {G}
theorem Lg.nonneg {q : Nat} {f c : Nat → Int} (h : G.Lg q f c) (u : Nat) : 0 ≤ c u := by
  induction h with
  | nil => exact Int.le_refl _
  | step _ _ _ _ ih => unfold bump; split <;> omega
theorem Lg.sink {q : Nat} {f c : Nat → Int} (h : G.Lg q f c) : c q = 0 := by
  induction h with
  | nil => rfl
  | step _ _ h2 _ ih => unfold bump; rw [if_neg (fun e => h2 e.symm)]; exact ih
/-- the least action: no run topples a vertex more often than counts that end stable -/
theorem Lg.least {q : Nat} {f c z : Nat → Int} (h : G.Lg q f c) (h0 : ∀ u, u < G.n → 0 ≤ z u) (hs : G.Stab q (G.after f z)) : ∀ u, u < G.n → c u ≤ z u := by
  induction h with
  | nil => exact h0
  | @step c v hl h1 h2 h3 ih =>
    intro u hu
    unfold bump
    by_cases e : u = v
    · subst e
      rw [if_pos rfl]
      by_cases e2 : c u = z u
      · have h4 := hs u hu h2
        have h5 : sumN G.n (fun x => z x * G.lap x u) ≤ sumN G.n (fun x => c x * G.lap x u) := sumN_le (fun x hx => by
          by_cases ex : x = u
          · subst ex; rw [e2]; exact Int.le_refl _
          · have hm := G.pos x u
            rw [lap, if_neg (fun e => ex e.symm)]
            exact Int.mul_le_mul_of_nonpos_right (ih x hx) (by omega))
        unfold after at h3 h4
        omega
      · have := ih u hu; omega
    · rw [if_neg e]; exact ih u hu
theorem Lg.out {q : Nat} {f c : Nat → Int} (h : G.Lg q f c) {u : Nat} (hu : ¬ u < G.n) : c u = 0 := by
  induction h with
  | nil => rfl
  | @step c v _ h1 _ _ ih => unfold bump; rw [if_neg (fun e => hu (by rw [e]; exact h1))]; exact ih
theorem Lg.unique {q : Nat} {f c d : Nat → Int} (h : G.Lg q f c) (hs : G.Stab q (G.after f c)) (k : G.Lg q f d) (ks : G.Stab q (G.after f d)) : c = d := by
  funext u
  by_cases hu : u < G.n
  · have := h.least (fun u _ => k.nonneg u) ks u hu
    have := k.least (fun u _ => h.nonneg u) hs u hu
    omega
  · rw [h.out hu, k.out hu]
theorem Lg.trans {q : Nat} {f c d : Nat → Int} (h : G.Lg q f c) (k : G.Lg q (G.after f c) d) : G.Lg q f (fun u => c u + d u) := by
  induction k with
  | nil =>
    have : (fun u => c u + none0 u) = c := by funext u; simp [none0]
    rw [this]; exact h
  | @step d v _ h1 h2 h3 ih =>
    have : (fun u => c u + bump d v u) = bump (fun u => c u + d u) v := by funext u; unfold bump; dsimp only; split <;> omega
    rw [this]
    exact .step ih h1 h2 (by rw [← after_after]; exact h3)
theorem Lg.more {q : Nat} {f g c : Nat → Int} (h : G.Lg q f c) (hg : ∀ v, v < G.n → v ≠ q → f v ≤ g v) : G.Lg q g c := by
  induction h with
  | nil => exact .nil
  | @step c v _ h1 h2 h3 ih =>
    refine .step ih h1 h2 ?_
    have := hg v h1 h2
    unfold after at h3 ⊢
    omega
/-- the same chips but at the sink -/
def Eqv (G : Gr) (q : Nat) (f g : Nat → Int) : Prop := ∀ v, v < G.n → v ≠ q → f v = g v
theorem Lg.congr {q : Nat} {f g c : Nat → Int} (h : G.Lg q f c) (hg : Eqv G q f g) : G.Lg q g c := h.more (fun v h1 h2 => by rw [hg v h1 h2]; exact Int.le_refl _)
/-- nothing falls below 0 -/
theorem Lg.pos {q : Nat} {f c : Nat → Int} (h : G.Lg q f c) (h0 : ∀ v, v < G.n → v ≠ q → 0 ≤ f v) : ∀ v, v < G.n → v ≠ q → 0 ≤ G.after f c v := by
  induction h with
  | nil => rw [after_none]; exact h0
  | @step c v _ h1 h2 h3 ih =>
    intro u hu hq
    rw [after_bump G h1]
    by_cases e : u = v
    · subst e; rw [fire_self]; omega
    · rw [fire_other _ _ _ _ _ e]; have := G.pos v u; have := ih u hu hq; omega
theorem Lg.sink_up {q : Nat} {f c : Nat → Int} (h : G.Lg q f c) : f q ≤ G.after f c q := by
  induction h with
  | nil => rw [after_none]; exact Int.le_refl _
  | @step c v _ h1 h2 h3 ih =>
    rw [after_bump G h1, fire_other _ _ _ _ _ (fun e => h2 e.symm)]; have := G.pos v q; omega
/-- no vertex but the sink has more than all had -/
theorem Lg.bound {q : Nat} (hq : q < G.n) {f c : Nat → Int} (h : G.Lg q f c) (h0 : ∀ v, v < G.n → v ≠ q → 0 ≤ f v) : ∀ v, v < G.n → v ≠ q → G.after f c v ≤ sumN G.n f - f q := by
  intro v hv hne
  have h1 := h.pos h0
  have h2 := h.sink_up
  have h3 := sumN_but (G.after f c) hq
  rw [after_sum] at h3
  have h4 : (fun i => if i = q then 0 else G.after f c i) v ≤ sumN G.n (fun i => if i = q then 0 else G.after f c i) := le_sumN hv (fun i hi _ => by
    by_cases e : i = q
    · rw [if_pos e]; exact Int.le_refl _
    · rw [if_neg e]; exact h1 i hi e)
  simp only at h4
  rw [if_neg hne] at h4
  omega
theorem Lg.sink_le {q : Nat} (hq : q < G.n) {f c : Nat → Int} (h : G.Lg q f c) (h0 : ∀ v, v < G.n → v ≠ q → 0 ≤ f v) : G.after f c q ≤ sumN G.n f := by
  have h1 := h.pos h0
  have h3 := sumN_but (G.after f c) hq
  rw [after_sum] at h3
  have : 0 ≤ sumN G.n (fun i => if i = q then 0 else G.after f c i) := sumN_nonneg (fun i hi => by
    by_cases e : i = q
    · rw [if_pos e]; exact Int.le_refl _
    · rw [if_neg e]; exact h1 i hi e)
  omega
/-- rounds that are left -/
def muT {q : Nat} (W : G.Wt q) (f : Nat → Int) : Nat := (G.pot W.h f).toNat
theorem pot_nonneg {q : Nat} (W : G.Wt q) {f : Nat → Int} (h0 : ∀ v, v < G.n → v ≠ q → 0 ≤ f v) : 0 ≤ G.pot W.h f := by
  apply sumN_nonneg
  intro i hi
  by_cases e : i = q
  · subst e; rw [W.zero]; simp
  · exact Int.mul_nonneg (W.pos i) (h0 i hi e)
theorem topple_mu {q : Nat} (W : G.Wt q) {f : Nat → Int} (h0 : ∀ v, v < G.n → v ≠ q → 0 ≤ f v) {v : Nat} (hv : v < G.n) (hne : v ≠ q) (ht : G.val v ≤ f v) : muT W (G.fire f v 1) < muT W f := by
  have h1 : ∀ u, u < G.n → u ≠ q → 0 ≤ G.fire f v 1 u := by
    intro u hu huq
    by_cases e : u = v
    · subst e; rw [fire_self]; omega
    · rw [fire_other _ _ _ _ _ e]; have := G.pos v u; have := h0 u hu huq; omega
  have h2 := pot_nonneg W h1
  have h3 := W.fall v hv hne
  have h4 := G.pot_fire W.h f v 1
  unfold muT
  omega
theorem stab_or {q : Nat} (f : Nat → Int) : G.Stab q f ∨ ∃ v, v < G.n ∧ v ≠ q ∧ G.val v ≤ f v := by
  by_cases h : ∃ v, v < G.n ∧ v ≠ q ∧ G.val v ≤ f v
  · exact .inr h
  · exact .inl fun v h1 h2 => Int.not_le.1 fun h3 => h ⟨v, h1, h2, h3⟩
/-- each pile becomes stable -/
theorem ends {q : Nat} (W : G.Wt q) : ∀ N (f : Nat → Int), (∀ v, v < G.n → v ≠ q → 0 ≤ f v) → muT W f ≤ N → ∃ c, G.Lg q f c ∧ G.Stab q (G.after f c) := by
  intro N
  induction N with
  | zero =>
    intro f h0 hN
    rcases stab_or (G := G) (q := q) f with h | ⟨v, h1, h2, h3⟩
    · exact ⟨none0, .nil, by rw [after_none]; exact h⟩
    · have := topple_mu W h0 h1 h2 h3; omega
  | succ N ih =>
    intro f h0 hN
    rcases stab_or (G := G) (q := q) f with h | ⟨v, h1, h2, h3⟩
    · exact ⟨none0, .nil, by rw [after_none]; exact h⟩
    · have hm := topple_mu W h0 h1 h2 h3
      have hl : G.Lg q f (bump none0 v) := .step .nil h1 h2 (by rw [after_none]; exact h3)
      have he : G.after f (bump none0 v) = G.fire f v 1 := by rw [after_bump G h1, after_none]
      obtain ⟨c, hc1, hc2⟩ := ih (G.fire f v 1) (by rw [← he]; exact hl.pos h0) (by omega)
      refine ⟨_, hl.trans (by rw [he]; exact hc1), ?_⟩
      rw [← after_after, he]; exact hc2

/-- how often each vertex topples until the pile is stable -/
noncomputable def odo (G : Gr) (q : Nat) (f : Nat → Int) : Nat → Int := open Classical in if h : ∃ c, G.Lg q f c ∧ G.Stab q (G.after f c) then Classical.choose h else none0
theorem odo_eq {q : Nat} {f c : Nat → Int} (h : G.Lg q f c) (hs : G.Stab q (G.after f c)) : odo G q f = c := by
  have hx : ∃ c, G.Lg q f c ∧ G.Stab q (G.after f c) := ⟨c, h, hs⟩
  unfold odo
  rw [dif_pos hx]
  obtain ⟨h1, h2⟩ := Classical.choose_spec hx
  exact h1.unique h2 h hs
/-- the stable pile that a pile becomes; nothing at the sink -/
noncomputable def stb (G : Gr) (q : Nat) (f : Nat → Int) : Nat → Int := fun v => if v = q then 0 else G.after f (odo G q f) v
theorem stb_eq {q : Nat} {f c : Nat → Int} (h : G.Lg q f c) (hs : G.Stab q (G.after f c)) : Eqv G q (stb G q f) (G.after f c) := by
  intro v _ hne
  unfold stb
  rw [if_neg hne, odo_eq h hs]
theorem Eqv.symm {q : Nat} {f g : Nat → Int} (h : Eqv G q f g) : Eqv G q g f := fun v h1 h2 => (h v h1 h2).symm
theorem Eqv.trans {q : Nat} {f g k : Nat → Int} (h : Eqv G q f g) (h' : Eqv G q g k) : Eqv G q f k := fun v h1 h2 => (h v h1 h2).trans (h' v h1 h2)
theorem Eqv.refl {q : Nat} (f : Nat → Int) : Eqv G q f f := fun _ _ _ => rfl
theorem Eqv.stab {q : Nat} {f g : Nat → Int} (h : Eqv G q f g) (hs : G.Stab q f) : G.Stab q g := fun v h1 h2 => by rw [← h v h1 h2]; exact hs v h1 h2
theorem Eqv.after {q : Nat} {f g c d : Nat → Int} (h : Eqv G q f g) (hc : ∀ u, u < G.n → c u = d u) : Eqv G q (G.after f c) (G.after g d) := fun v h1 h2 => after_congr G (h v h1 h2) hc
/-- all that is known of the stable pile -/
theorem stb_spec {q : Nat} (W : G.Wt q) {f : Nat → Int} (h0 : ∀ v, v < G.n → v ≠ q → 0 ≤ f v) :
    ∃ c, G.Lg q f c ∧ G.Stab q (G.after f c) ∧ Eqv G q (stb G q f) (G.after f c) ∧ odo G q f = c := by
  obtain ⟨c, h1, h2⟩ := ends W _ f h0 (Nat.le_refl _)
  exact ⟨c, h1, h2, stb_eq h1 h2, odo_eq h1 h2⟩
theorem stb_stab {q : Nat} (W : G.Wt q) {f : Nat → Int} (h0 : ∀ v, v < G.n → v ≠ q → 0 ≤ f v) : G.Stab q (stb G q f) := by
  obtain ⟨c, h1, h2, h3, _⟩ := stb_spec W h0
  exact h3.symm.stab h2
theorem stb_pos {q : Nat} (W : G.Wt q) {f : Nat → Int} (h0 : ∀ v, v < G.n → v ≠ q → 0 ≤ f v) : ∀ v, v < G.n → v ≠ q → 0 ≤ stb G q f v := by
  obtain ⟨c, h1, h2, h3, _⟩ := stb_spec W h0
  intro v hv hq
  rw [h3 v hv hq]
  exact h1.pos h0 v hv hq
theorem stb_sink {q : Nat} (f : Nat → Int) : stb G q f q = 0 := by unfold stb; rw [if_pos rfl]
theorem stb_congr {q : Nat} (W : G.Wt q) {f g : Nat → Int} (h0 : ∀ v, v < G.n → v ≠ q → 0 ≤ f v) (h : Eqv G q f g) : ∀ v, v < G.n → stb G q f v = stb G q g v := by
  obtain ⟨c, h1, h2, h3, h4⟩ := stb_spec W h0
  intro v hv
  by_cases e : v = q
  · rw [e, stb_sink, stb_sink]
  · have := stb_eq (h1.congr h) ((h.after (fun _ _ => rfl)).stab h2) v hv e
    rw [this, h3 v hv e]
    exact (h.after (fun _ _ => rfl)) v hv e

/-! ### Recurrent piles -/
/-- what the sink gives when it is fired -/
def beta (G : Gr) (q : Nat) : Nat → Int := fun v => G.m q v
def one1 (G : Gr) (q : Nat) : Nat → Int := fun u => if u = q ∨ ¬ u < G.n then 0 else 1
theorem after_one {q : Nat} (hq : q < G.n) (f : Nat → Int) : Eqv G q (G.after (fun v => f v + beta G q v) (one1 G q)) f := by
  intro v hv hne
  unfold after
  have h1 := lap_row G v hv
  rw [sumN_but _ hq] at h1
  have h2 : sumN G.n (fun u => one1 G q u * G.lap u v) = sumN G.n (fun i => if i = q then 0 else G.lap v i) := sumN_congr (fun i hi => by
    unfold one1
    by_cases e : i = q
    · rw [if_pos (.inl e), if_pos e]; simp
    · rw [if_neg (fun h => h.elim e (fun h => h hi)), if_neg e, lap_sym]; simp)
  rw [h2]
  have h3 : G.lap v q = - G.m q v := by rw [lap, if_neg (fun e => hne e.symm), G.sym]
  unfold beta
  dsimp only
  omega
/-- a stable pile that becomes itself when the sink is fired, each vertex toppling once -/
structure Rec (G : Gr) (q : Nat) (d : Nat → Int) : Prop where
  pos : ∀ v, v < G.n → v ≠ q → 0 ≤ d v
  stab : G.Stab q d
  once : G.Lg q (fun v => d v + beta G q v) (one1 G q)
theorem Rec.congr {q : Nat} {d e : Nat → Int} (h : Rec G q d) (he : Eqv G q d e) : Rec G q e :=
  ⟨fun v h1 h2 => by rw [← he v h1 h2]; exact h.pos v h1 h2, he.stab h.stab, h.once.congr (fun v h1 h2 => by dsimp only; rw [he v h1 h2])⟩
theorem lg_eq {q : Nat} {f c d : Nat → Int} (h : G.Lg q f c) (he : ∀ u, c u = d u) : G.Lg q f d := by
  have : c = d := funext he
  rw [← this]; exact h
theorem one1_at {q u : Nat} (hu : u < G.n) (hne : u ≠ q) : one1 G q u = 1 := by unfold one1; rw [if_neg (fun h => h.elim hne (fun h => h hu))]
theorem one1_nonneg {q : Nat} (u : Nat) : 0 ≤ one1 G q u := by unfold one1; split <;> omega
/-- what the sink's firing takes back to itself has let each vertex topple once -/
theorem rec_of_back {q : Nat} (hq : q < G.n) (W : G.Wt q) {d : Nat → Int} (h0 : ∀ v, v < G.n → v ≠ q → 0 ≤ d v) (hs : G.Stab q d) (hb : Eqv G q (stb G q (fun v => d v + beta G q v)) d) : Rec G q d := by
  have hp : ∀ v, v < G.n → v ≠ q → 0 ≤ d v + beta G q v := fun v h1 h2 => by have := h0 v h1 h2; have := G.pos q v; unfold beta; omega
  obtain ⟨c, h1, h2, h3, h4⟩ := stb_spec W hp
  have h5 := after_one (G := G) hq d
  have h6 := h1.least (fun u _ => one1_nonneg (G := G) (q := q) u) (h5.symm.stab hs)
  have h7 : Eqv G q (G.after (fun v => d v + beta G q v) c) (G.after (fun v => d v + beta G q v) (one1 G q)) := (h3.symm.trans hb).trans h5.symm
  -- the weighted difference
  have h8 : sumN G.n (fun u => (one1 G q u - c u) * sumN G.n (fun v => W.h v * G.lap u v)) = 0 := by
    have e1 : sumN G.n (fun u => (one1 G q u - c u) * sumN G.n (fun v => W.h v * G.lap u v)) = sumN G.n (fun v => W.h v * (sumN G.n (fun u => one1 G q u * G.lap u v) - sumN G.n (fun u => c u * G.lap u v))) := by
      have : ∀ u, (one1 G q u - c u) * sumN G.n (fun v => W.h v * G.lap u v) = sumN G.n (fun v => W.h v * (one1 G q u * G.lap u v) - W.h v * (c u * G.lap u v)) := fun u => by
        rw [← sumN_mul]; apply sumN_congr; intro v _
        rw [Int.sub_mul, Int.mul_left_comm, Int.mul_left_comm (c u)]
      rw [sumN_congr (fun u _ => this u), sumN_comm]
      apply sumN_congr; intro v _
      rw [sumN_sub, sumN_mul, sumN_mul, Int.mul_sub]
    rw [e1]
    apply sumN_zero
    intro v hv
    by_cases e : v = q
    · rw [e, W.zero, Int.zero_mul]
    · have := h7 v hv e
      unfold after at this
      have e2 : sumN G.n (fun u => one1 G q u * G.lap u v) - sumN G.n (fun u => c u * G.lap u v) = 0 := by omega
      rw [e2, Int.mul_zero]
  have h9 : c = one1 G q := by
    funext u
    by_cases hu : u < G.n
    · by_cases e : u = q
      · rw [e, h1.sink]; unfold one1; rw [if_pos (.inl rfl)]
      · have g1 := h6 u hu
        have g2 := le_sumN (f := fun u => (one1 G q u - c u) * sumN G.n (fun v => W.h v * G.lap u v)) hu (fun i hi _ => by
          by_cases ei : i = q
          · rw [ei, h1.sink]; unfold one1; rw [if_pos (.inl rfl)]; simp
          · exact Int.mul_nonneg (by have := h6 i hi; omega) (by have := W.fall i hi ei; omega))
        rw [h8] at g2
        skip
        have g3 := W.fall u hu e
        by_cases g4 : c u = one1 G q u
        · exact g4
        · have g5 : 1 * 1 ≤ (one1 G q u - c u) * sumN G.n (fun v => W.h v * G.lap u v) := Int.mul_le_mul (by omega) g3 (by decide) (by omega)
          omega
    · rw [h1.out hu]; unfold one1; rw [if_pos (.inr hu)]
  exact ⟨h0, hs, by rw [← h9]; exact h1⟩
theorem Rec.back {q : Nat} (hq : q < G.n) {d : Nat → Int} (h : Rec G q d) : Eqv G q (stb G q (fun v => d v + beta G q v)) d ∧ odo G q (fun v => d v + beta G q v) = one1 G q := by
  have h5 := after_one (G := G) hq d
  exact ⟨(stb_eq h.once (h5.symm.stab h.stab)).trans h5, odo_eq h.once (h5.symm.stab h.stab)⟩
/-- more chips on a recurrent pile: it becomes a recurrent one -/
theorem Rec.add {q : Nat} (hq : q < G.n) (W : G.Wt q) {d a : Nat → Int} (h : Rec G q d) (ha : ∀ v, v < G.n → v ≠ q → 0 ≤ a v) : Rec G q (stb G q (fun v => d v + a v)) := by
  have hp : ∀ v, v < G.n → v ≠ q → 0 ≤ d v + a v := fun v h1 h2 => by have := h.pos v h1 h2; have := ha v h1 h2; omega
  obtain ⟨c, c1, c2, c3, _⟩ := stb_spec W hp
  have hs := c3.symm.stab c2
  have hsp := stb_pos W hp
  have hpb : ∀ v, v < G.n → v ≠ q → 0 ≤ stb G q (fun v => d v + a v) v + beta G q v := fun v h1 h2 => by have := hsp v h1 h2; have := G.pos q v; unfold beta; omega
  obtain ⟨c', k1, k2, k3, _⟩ := stb_spec W hpb
  -- one way
  have w1 : G.Lg q (fun v => (d v + a v) + beta G q v) (one1 G q) := h.once.more (fun v h1 h2 => by have := ha v h1 h2; omega)
  have w2 := after_one (G := G) hq (fun v => d v + a v)
  have w3 := w1.trans (c1.congr w2.symm)
  have w4 : G.Stab q (G.after (fun v => (d v + a v) + beta G q v) (fun u => one1 G q u + c u)) := by
    rw [← after_after]; exact (w2.symm.after (fun _ _ => rfl)).stab c2
  -- the other way
  have v1 : G.Lg q (fun v => (d v + a v) + beta G q v) c := c1.more (fun v h1 h2 => by have := G.pos q v; unfold beta; omega)
  have v2 : Eqv G q (G.after (fun v => (d v + a v) + beta G q v) c) (fun v => stb G q (fun v => d v + a v) v + beta G q v) := by
    rw [after_add]; intro v x1 x2; dsimp only; rw [c3 v x1 x2]
  have v3 := v1.trans (k1.congr v2.symm)
  have v4 : G.Stab q (G.after (fun v => (d v + a v) + beta G q v) (fun u => c u + c' u)) := by
    rw [← after_after]; exact (v2.symm.after (fun _ _ => rfl)).stab k2
  have e := w3.unique w4 v3 v4
  have e' : c' = one1 G q := by
    funext u
    have := congrFun e u
    skip
    omega
  exact ⟨hsp, hs, by rw [← e']; exact k1⟩

/-- k times what the sink gives -/
theorem Rec.many {q : Nat} (hq : q < G.n) {d : Nat → Int} (h : Rec G q d) : ∀ k : Nat, G.Lg q (fun v => d v + k * beta G q v) (fun u => k * one1 G q u) ∧ Eqv G q (G.after (fun v => d v + k * beta G q v) (fun u => k * one1 G q u)) d
  | 0 => by
    have e : (fun u => ((0 : Nat) : Int) * one1 G q u) = none0 := by funext u; simp [none0]
    rw [e, after_none]
    exact ⟨.nil, fun v _ _ => by simp⟩
  | k + 1 => by
    obtain ⟨h1, h2⟩ := Rec.many hq h k
    have w1 : G.Lg q (fun v => d v + (k + 1 : Nat) * beta G q v) (one1 G q) := h.once.more (fun v x1 x2 => by
      skip
      rw [Int.natCast_succ, Int.add_mul, Int.one_mul]
      have : 0 ≤ (k : Int) * beta G q v := Int.mul_nonneg (by omega) (G.pos q v)
      omega)
    have w2 : Eqv G q (G.after (fun v => d v + (k + 1 : Nat) * beta G q v) (one1 G q)) (fun v => d v + k * beta G q v) := by
      have e : (fun v => d v + (k + 1 : Nat) * beta G q v) = fun v => (d v + k * beta G q v) + beta G q v := by
        funext v; rw [Int.natCast_succ, Int.add_mul, Int.one_mul]; omega
      rw [e]; exact after_one hq _
    have e : (fun u => ((k + 1 : Nat) : Int) * one1 G q u) = fun u => one1 G q u + k * one1 G q u := by
      funext u; rw [Int.natCast_succ, Int.add_mul, Int.one_mul]; omega
    rw [e, ← after_after]
    exact ⟨w1.trans (h1.congr w2.symm), (w2.after (fun _ _ => rfl)).trans h2⟩
theorem lower_all (n : Nat) (z : Nat → Int) : ∃ k : Nat, ∀ u, u < n → - (k : Int) ≤ z u := by
  induction n with
  | zero => exact ⟨0, fun u h => by omega⟩
  | succ m ih =>
    obtain ⟨k, hk⟩ := ih
    refine ⟨k + (- z m).toNat, fun u hu => ?_⟩
    by_cases e : u = m
    · subst e; omega
    · have := hk u (by omega); omega
theorem Rec.half {q : Nat} (hq : q < G.n) {d e z : Nat → Int} (hd : Rec G q d) (he : Rec G q e) (hz : Eqv G q (G.after d z) e) (h0 : z q = 0) : ∀ u, u < G.n → 0 ≤ z u := by
  obtain ⟨k, hk⟩ := lower_all G.n z
  obtain ⟨h1, h2⟩ := hd.many hq k
  have h3 : Eqv G q (G.after (fun v => d v + k * beta G q v) (fun u => k * one1 G q u + z u)) e := by
    rw [← after_after]; exact (h2.after (fun _ _ => rfl)).trans hz
  have h4 := h1.least (z := fun u => k * one1 G q u + z u) (fun u hu => by
    by_cases eu : u = q
    · rw [eu, h0]; have := Int.mul_nonneg (show (0 : Int) ≤ k by omega) (one1_nonneg (G := G) (q := q) q); omega
    · rw [one1_at hu eu]; have := hk u hu; omega) (h3.symm.stab he.stab)
  intro u hu
  have := h4 u hu
  skip
  omega
/-- two recurrent piles that are the same but for topplings are the same -/
theorem Rec.same {q : Nat} (hq : q < G.n) {d e z : Nat → Int} (hd : Rec G q d) (he : Rec G q e) (hz : Eqv G q (G.after d z) e) (h0 : z q = 0) : Eqv G q d e := by
  have h1 := hd.half hq he hz h0
  have hz' : Eqv G q (G.after e (fun u => - z u)) d := by
    refine (hz.symm.after (fun _ _ => rfl)).trans ?_
    rw [after_after]
    intro v _ _
    unfold after
    rw [sumN_zero (fun u _ => by dsimp only; rw [show z u + - z u = 0 by omega, Int.zero_mul])]; omega
  have h2 := he.half hq hd hz' (by rw [h0]; rfl)
  intro v hv hne
  rw [← hz v hv hne]
  unfold after
  rw [sumN_zero (fun u hu => by rw [show z u = 0 by have := h1 u hu; have := h2 u hu; omega, Int.zero_mul])]; omega

/-- the same but for topplings -/
def Teq (G : Gr) (q : Nat) (f g : Nat → Int) : Prop := ∃ z : Nat → Int, z q = 0 ∧ Eqv G q (G.after f z) g
theorem Teq.refl {q : Nat} (f : Nat → Int) : Teq G q f f := ⟨none0, rfl, by rw [after_none]; exact Eqv.refl f⟩
theorem Teq.of_eqv {q : Nat} {f g : Nat → Int} (h : Eqv G q f g) : Teq G q f g := ⟨none0, rfl, by rw [after_none]; exact h⟩
theorem Teq.trans {q : Nat} {f g k : Nat → Int} (h : Teq G q f g) (h' : Teq G q g k) : Teq G q f k := by
  obtain ⟨z, z0, hz⟩ := h
  obtain ⟨y, y0, hy⟩ := h'
  exact ⟨fun u => z u + y u, by dsimp only; omega, by rw [← after_after]; exact (hz.after (fun _ _ => rfl)).trans hy⟩
theorem Teq.symm {q : Nat} {f g : Nat → Int} (h : Teq G q f g) : Teq G q g f := by
  obtain ⟨z, z0, hz⟩ := h
  refine ⟨fun u => - z u, by dsimp only; omega, (hz.symm.after (fun _ _ => rfl)).trans ?_⟩
  rw [after_after]
  intro v _ _
  unfold after
  rw [sumN_zero (fun u _ => by dsimp only; rw [show z u + - z u = 0 by omega, Int.zero_mul])]; omega
theorem Teq.add {q : Nat} {f g a b : Nat → Int} (h : Teq G q f g) (h' : Teq G q a b) : Teq G q (fun v => f v + a v) (fun v => g v + b v) := by
  obtain ⟨z, z0, hz⟩ := h
  obtain ⟨y, y0, hy⟩ := h'
  refine ⟨fun u => z u + y u, by dsimp only; omega, fun v h1 h2 => ?_⟩
  have e1 := hz v h1 h2
  have e2 := hy v h1 h2
  unfold after at e1 e2 ⊢
  have : sumN G.n (fun u => (z u + y u) * G.lap u v) = sumN G.n (fun u => z u * G.lap u v) + sumN G.n (fun u => y u * G.lap u v) := by
    rw [← sumN_add]; exact sumN_congr (fun i _ => Int.add_mul _ _ _)
  dsimp only
  rw [this]; omega
theorem Teq.stb {q : Nat} (W : G.Wt q) {f : Nat → Int} (h0 : ∀ v, v < G.n → v ≠ q → 0 ≤ f v) : Teq G q f (stb G q f) := by
  obtain ⟨c, c1, _, c3, _⟩ := stb_spec W h0
  exact ⟨c, c1.sink, c3.symm⟩
theorem Rec.eq {q : Nat} (hq : q < G.n) {d e : Nat → Int} (hd : Rec G q d) (he : Rec G q e) (h : Teq G q d e) : Eqv G q d e := by
  obtain ⟨z, z0, hz⟩ := h
  exact hd.same hq he hz z0

/-- the greatest stable pile -/
def grt (G : Gr) (q : Nat) : Nat → Int := fun v => if v = q then 0 else G.val v - 1
theorem grt_rec {q : Nat} (hq : q < G.n) (W : G.Wt q) (hc : G.Conn q) : Rec G q (grt G q) := by
  have hp : ∀ v, v < G.n → v ≠ q → 0 ≤ grt G q v := fun v h1 h2 => by unfold grt; rw [if_neg h2]; have := W.val_pos h1 h2; omega
  have hs : G.Stab q (grt G q) := fun v h1 h2 => by unfold grt; rw [if_neg h2]; omega
  have hpb : ∀ v, v < G.n → v ≠ q → 0 ≤ grt G q v + beta G q v := fun v h1 h2 => by have := hp v h1 h2; have := G.pos q v; unfold beta; omega
  obtain ⟨c, c1, c2, _, _⟩ := stb_spec W hpb
  have h5 := after_one (G := G) hq (grt G q)
  have h6 := c1.least (fun u _ => one1_nonneg (G := G) (q := q) u) (h5.symm.stab hs)
  -- every vertex that can be reached has toppled
  have h7 : ∀ k v, G.Way q v k → v ≠ q → c v = 1 := by
    intro k v hw
    induction hw with
    | here => intro h; exact (h rfl).elim
    | @step u v k hw hv hm ih =>
      intro hne
      have g1 := h6 v hv
      rw [one1_at hv hne] at g1
      have g2 := c1.nonneg v
      by_cases g3 : c v = 1
      · exact g3
      · have g4 : c v = 0 := by omega
        have g5 := c2 v hv hne
        unfold after at g5
        have hun : u < G.n := by
          cases hw with
          | here => exact hq
          | step _ b _ => exact b
        have g6 : sumN G.n (fun x => c x * G.lap x v) + (if u = q then 0 else G.m u v) ≤ 0 := by
          have := sumN_le (n := G.n) (f := fun x => c x * G.lap x v + (if x = u then (if u = q then 0 else G.m u v) else 0)) (g := fun _ => 0) (fun x hx => by
            by_cases ex : x = v
            · rw [ex, g4, if_neg (fun e => by rw [e, G.irr] at hm; omega)]; simp
            · have hmx := G.pos x v
              rw [lap, if_neg (fun e => ex e.symm)]
              have hcx := c1.nonneg x
              by_cases exu : x = u
              · rw [if_pos exu]
                by_cases euq : u = q
                · rw [if_pos euq, exu, euq, c1.sink]; simp
                · rw [if_neg euq, exu, ih euq]; omega
              · rw [if_neg exu]
                have := Int.mul_nonneg hcx hmx
                rw [Int.mul_neg]; omega)
          rw [sumN_add, sumN_zero (f := fun _ => 0) (fun _ _ => rfl)] at this
          have e1 := sumN_one (n := G.n) (fun x => if x = u then (if u = q then 0 else G.m u v) else (0 : Int)) hun (fun i _ hi => if_neg hi)
          rw [e1, if_pos rfl] at this
          exact this
        unfold grt at g5
        dsimp only at g5
        rw [if_neg hne] at g5
        by_cases euq : u = q
        · rw [if_pos euq] at g6
          rw [euq] at hm
          unfold beta at g5; omega
        · rw [if_neg euq] at g6
          have := G.pos q v
          unfold beta at g5; omega
  have h9 : c = one1 G q := by
    funext u
    by_cases hu : u < G.n
    · by_cases e : u = q
      · rw [e, c1.sink]; unfold one1; rw [if_pos (.inl rfl)]
      · obtain ⟨k, hk⟩ := hc u hu
        rw [h7 k u hk e, one1_at hu e]
    · rw [c1.out hu]; unfold one1; rw [if_pos (.inr hu)]
  exact ⟨hp, hs, by rw [← h9]; exact c1⟩
end Gr
end Go.Proofs.Ytifdhapaonideaa
