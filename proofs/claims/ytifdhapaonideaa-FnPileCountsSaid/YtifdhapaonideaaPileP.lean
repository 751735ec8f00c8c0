/- Piles, plain: weights that are not too great, how often a vertex topples at most, whether a pile is recurrent. -/
import Derived.Test.YtifdhapaonideaaChipP
namespace Go.Proofs.Ytifdhapaonideaa
namespace Gr
variable {G : Gr}

theorem Way.lt {q v k : Nat} (hq : q < G.n) (h : G.Way q v k) : v < G.n := by
  cases h with
  | here => exact hq
  | step _ b _ => exact b
/-- every distance up to that of a vertex is that of some vertex -/
theorem dist_all {q : Nat} (hq : q < G.n) {v k : Nat} (h : G.Way q v k) : G.dist q v = k → ∀ i, i ≤ k → ∃ u, u < G.n ∧ G.dist q u = i := by
  induction h with
  | here => intro hk i hi; exact ⟨q, hq, by omega⟩
  | @step u v k hw hv hm ih =>
    intro hk i hi
    have h1 := G.dist_le hw
    have h2 := G.dist_le (.step (G.dist_way ⟨k, hw⟩) hv hm)
    have h3 : G.dist q u = k := by omega
    by_cases e : i = k + 1
    · exact ⟨v, hv, by omega⟩
    · exact ih h3 i (by omega)
theorem dist_lt {q : Nat} (hq : q < G.n) {v : Nat} (h : ∃ k, G.Way q v k) : G.dist q v < G.n := by
  apply Classical.byContradiction
  intro hn
  have hw := G.dist_way h
  have ha := dist_all hq hw rfl
  have hf : ∀ i, ∃ u, i ≤ G.n → u < G.n ∧ G.dist q u = i := fun i => by
    by_cases hi : i ≤ G.n
    · obtain ⟨u, h1, h2⟩ := ha i (by omega)
      exact ⟨u, fun _ => ⟨h1, h2⟩⟩
    · exact ⟨0, fun h => (hi h).elim⟩
  obtain ⟨f, hf⟩ := Classical.axiomOfChoice hf
  obtain ⟨i, j, h1, h2, h3⟩ := pigeon G.n f (fun i hi => (hf i hi).1)
  have a := (hf i (by omega)).2
  have b := (hf j h2).2
  rw [h3] at a
  omega
theorem lad88 : lad 8 8 = 2901713047668 := by simp [lad]
/-- a weight that is not too great -/
theorem wt8 {q : Nat} (hq : q < G.n) (hc : G.Conn q) : ∃ W : G.Wt q, ∀ v, v < G.n → W.h v ≤ 2901713047668 := by
  obtain ⟨W, hW⟩ := G.wt_at hq hc 8 (fun v hv => by have := dist_lt hq (hc v hv); have := G.n8; omega)
  refine ⟨W, fun v hv => ?_⟩
  rw [hW, ← lad88]
  have := dist_lt hq (hc v hv)
  have := G.n8
  exact lad_mono 8 (by omega)
theorem Lg.count {q : Nat} (W : G.Wt q) {f c : Nat → Int} (h : G.Lg q f c) : sumN G.n c + G.pot W.h (G.after f c) ≤ G.pot W.h f := by
  induction h with
  | nil => rw [after_none, sumN_zero (f := none0) (fun _ _ => rfl)]; omega
  | @step c v _ h1 h2 h3 ih =>
    have e1 := sum_bump G h1 c (fun _ => 1)
    simp only [Int.mul_one] at e1
    have e0 : sumN G.n c = sumN G.n (fun u => c u) := rfl
    have e4 : sumN G.n (bump c v) = sumN G.n (fun u => bump c v u) := rfl
    have e2 := G.pot_fire W.h (G.after f c) v 1
    have e3 := W.fall v h1 h2
    rw [after_bump G h1, e4, e1, e2, e0] <;> omega
theorem pot_le8 {q : Nat} (W : G.Wt q) (hW : ∀ v, v < G.n → W.h v ≤ 2901713047668) {f : Nat → Int} {B : Int} (h0 : ∀ v, v < G.n → v ≠ q → f v ≤ B) (hB : 0 ≤ B) : G.pot W.h f ≤ 8 * (2901713047668 * B) := by
  have h1 : G.pot W.h f ≤ sumN G.n (fun _ => 2901713047668 * B) := sumN_le (fun i hi => by
    by_cases e : i = q
    · rw [e, W.zero, Int.zero_mul]; exact Int.mul_nonneg (by decide) hB
    · have h2 := Int.mul_le_mul_of_nonneg_left (h0 i hi e) (W.pos i)
      have h3 := Int.mul_le_mul_of_nonneg_right (hW i hi) hB
      omega)
  rw [sumN_const] at h1
  have h2 : (G.n : Int) * (2901713047668 * B) ≤ 8 * (2901713047668 * B) := Int.mul_le_mul_of_nonneg_right (by have := G.n8; omega) (Int.mul_nonneg (by decide) hB)
  omega
/-- no vertex topples too often -/
theorem Lg.few {q : Nat} (hq : q < G.n) (hc : G.Conn q) {f c : Nat → Int} (h : G.Lg q f c) (h0 : ∀ v, v < G.n → v ≠ q → 0 ≤ f v) (hB : ∀ v, v < G.n → v ≠ q → f v ≤ 2000) : ∀ u, u < G.n → c u ≤ 46427408762688000 := by
  obtain ⟨W, hW⟩ := wt8 hq hc
  intro u hu
  have h1 := h.count W
  have h2 := pot_nonneg W (h.pos h0)
  have h3 := pot_le8 W hW hB (by decide)
  have h4 := le_sumN hu (fun i _ _ => h.nonneg i)
  omega
/-- a pile is recurrent: plain words for both programs -/
theorem back_iff {q : Nat} (hq : q < G.n) (W : G.Wt q) {d : Nat → Int} (h0 : ∀ v, v < G.n → v ≠ q → 0 ≤ d v) (hs : G.Stab q d) : Eqv G q (stb G q (fun v => d v + beta G q v)) d ↔ Rec G q d := by
  constructor
  · exact rec_of_back hq W h0 hs
  · intro h
    have := stb_eq h.once ((after_one hq d).symm.stab hs)
    exact this.trans (after_one hq d)
/-- the firing of the sink is beta but at the sink -/
theorem fire_sink {q : Nat} (d : Nat → Int) : Eqv G q (G.fire d q 1) (fun v => d v + beta G q v) := fun v _ hne => by
  rw [fire_other _ _ _ _ _ hne]; unfold beta; dsimp only; omega
end Gr
end Go.Proofs.Ytifdhapaonideaa
