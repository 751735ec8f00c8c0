/- Chips on graphs, plain: Riemann's bound. -/
import Derived.Test.YtlehhfmbdcmpoaaChipB
namespace Go.Proofs.Ytlehhfmbdcmpoaa
namespace Gr
variable (G : Gr)
/-- twice the edges between marked vertices -/
def e2 (b : Nat → Bool) : Int := sumN G.n (fun v => if b v then G.edges b v else 0)
theorem edges_mark {b : Nat → Bool} {v : Nat} (hv : v < G.n) (h : b v = false) (u : Nat) : G.edges (mark b v) u = G.edges b u + G.m u v := by
  unfold edges
  rw [sumN_but _ hv, sumN_but (fun x => if b x then G.m u x else 0) hv, mark_self, h]
  have : sumN G.n (fun i => if i = v then 0 else if mark b v i then G.m u i else 0) = sumN G.n (fun i => if i = v then 0 else if b i then G.m u i else 0) := sumN_congr (fun i _ => by
    by_cases e : i = v
    · rw [if_pos e, if_pos e]
    · rw [if_neg e, if_neg e, mark_other b e])
  rw [this]; simp; omega
theorem e2_mark {b : Nat → Bool} {v : Nat} (hv : v < G.n) (h : b v = false) : G.e2 (mark b v) = G.e2 b + 2 * G.edges b v := by
  unfold e2
  rw [sumN_but _ hv, sumN_but (fun x => if b x then G.edges b x else 0) hv, mark_self, h, edges_mark G hv h, G.irr]
  have : sumN G.n (fun i => if i = v then 0 else if mark b v i then G.edges (mark b v) i else 0) = sumN G.n (fun i => (if i = v then 0 else if b i then G.edges b i else 0) + (if b i then G.m v i else 0)) := sumN_congr (fun i _ => by
    by_cases e : i = v
    · rw [if_pos e, if_pos e, e, h]; simp
    · rw [if_neg e, if_neg e, mark_other b e]
      by_cases hb : b i
      · rw [if_pos hb, if_pos hb, if_pos hb, edges_mark G hv h, G.sym v i]
      · rw [if_neg hb, if_neg hb, if_neg hb]; rfl)
  rw [this, sumN_add]
  unfold edges
  simp; omega
/-- what the burnt vertices hold -/
def hold (q : Nat) (f : Nat → Int) (b : Nat → Bool) : Int := sumN G.n (fun v => if b v then (if v = q then 0 else 2 * (f v + 1)) else 0)
theorem hold_mark {q : Nat} {f : Nat → Int} {b : Nat → Bool} {v : Nat} (hv : v < G.n) (h : b v = false) (hne : v ≠ q) : G.hold q f (mark b v) = G.hold q f b + 2 * (f v + 1) := by
  unfold hold
  rw [sumN_but _ hv, sumN_but (fun v => if b v then (if v = q then 0 else 2 * (f v + 1)) else 0) hv, mark_self, h, if_neg hne]
  have : sumN G.n (fun i => if i = v then 0 else if mark b v i then (if i = q then 0 else 2 * (f i + 1)) else 0) = sumN G.n (fun i => if i = v then 0 else if b i then (if i = q then 0 else 2 * (f i + 1)) else 0) := sumN_congr (fun i _ => by
    by_cases e : i = v
    · rw [if_pos e, if_pos e]
    · rw [if_neg e, if_neg e, mark_other b e])
  rw [this]; simp; omega
structure InvH (f : Nat → Int) (q : Nat) (s : (Nat → Bool) × Bool) : Prop where
  has : s.1 q = true
  le : G.hold q f s.1 ≤ G.e2 s.1
theorem bN_hold (f : Nat → Int) (q : Nat) (s : (Nat → Bool) × Bool) (h : G.InvH f q s) : ∀ k, k ≤ G.n → G.InvH f q (G.bN f k s)
  | 0, _ => h
  | k + 1, hk => by
    have ih := bN_hold f q s h k (by omega)
    simp only [bN]
    unfold brn
    by_cases hc : (G.bN f k s).1 k = false ∧ f k < G.edges (G.bN f k s).1 k
    · rw [if_pos hc]
      have hne : k ≠ q := fun e => by have := ih.has; rw [← e, hc.1] at this; cases this
      refine ⟨?_, ?_⟩
      · show mark (G.bN f k s).1 k q = true
        rw [mark_other _ (fun e => hne e.symm)]; exact ih.has
      · show G.hold q f (mark (G.bN f k s).1 k) ≤ G.e2 (mark (G.bN f k s).1 k)
        rw [hold_mark G (by omega) hc.1 hne, e2_mark G (by omega) hc.1]
        have := ih.le; have := hc.2; omega
    · rw [if_neg hc]; exact ih
theorem burnt_hold (f : Nat → Int) (q : Nat) : G.hold q f (G.burnt f q) ≤ G.e2 (G.burnt f q) := by
  have hs : ∀ s, G.InvH f q s → Prod.snd s = true → G.InvH f q (G.bP f s) ∧ G.muB (G.bP f s) < G.muB s := fun s hs hc => ⟨G.bN_hold f q (s.1, false) ⟨hs.has, hs.le⟩ G.n (Nat.le_refl _), (G.stepB f s trivial hc).2⟩
  refine (loopW_end hs _ (only q, true) (Nat.le_refl _) ⟨by simp [only], ?_⟩).1.le
  have h1 : G.hold q f (only q) = 0 := sumN_zero (fun v _ => by
    by_cases e : v = q
    · simp [only, e]
    · simp [only, e])
  have h2 : 0 ≤ G.e2 (only q) := sumN_nonneg (fun v _ => by
    by_cases e : only q v
    · rw [if_pos e]; exact sumN_nonneg (fun u _ => by
        by_cases e : only q u
        · rw [if_pos e]; exact G.pos v u
        · rw [if_neg e]; exact Int.le_refl _)
    · rw [if_neg e]; exact Int.le_refl _)
  show G.hold q f (only q) ≤ G.e2 (only q)
  omega
/-- twice the genus -/
def gen2 : Int := sumN G.n G.val - 2 * G.n + 2
/-- Riemann: a reduced divisor with at least as many chips as the genus owes nothing -/
theorem riemann {q : Nat} (hq : q < G.n) {f : Nat → Int} (hb : G.full (G.burnt f q) = true) (hS : G.gen2 ≤ 2 * sumN G.n f) : 0 ≤ f q := by
  have hf := (G.full_iff).1 hb
  have h1 := G.burnt_hold f q
  have h2 : G.e2 (G.burnt f q) = sumN G.n G.val := by
    unfold e2 edges val
    apply sumN_congr; intro v hv
    rw [if_pos (hf v hv)]
    apply sumN_congr; intro u hu
    rw [if_pos (hf u hu)]
  have h3 : G.hold q f (G.burnt f q) = sumN G.n (fun v => if v = q then 0 else 2 * (f v + 1)) := by
    unfold hold
    apply sumN_congr; intro v hv
    rw [if_pos (hf v hv)]
  have h4 := sumN_but (fun v => 2 * (f v + 1)) hq
  have h5 : sumN G.n (fun v => 2 * (f v + 1)) = 2 * sumN G.n f + 2 * G.n := by
    rw [sumN_mul, sumN_add, sumN_const]; omega
  unfold gen2 at hS
  omega
end Gr
end Go.Proofs.Ytlehhfmbdcmpoaa
