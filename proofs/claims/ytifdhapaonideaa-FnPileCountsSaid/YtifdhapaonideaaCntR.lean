/- Recurrent piles, plain: each set of vertices has one with as many chips as edges into the set. -/
import Derived.Test.YtifdhapaonideaaCntA
namespace Go.Proofs.Ytifdhapaonideaa

/-- all vertices but one -/
def others (n q : Nat) : List Nat := (List.range n).filter fun v => !(v == q)
theorem others_mem {n q v : Nat} : v ∈ others n q ↔ v < n ∧ v ≠ q := by simp [others]
theorem others_nodup (n q : Nat) : (others n q).Nodup := List.nodup_range.sublist List.filter_sublist
theorem others_succ (n q : Nat) : others (n + 1) q = others n q ++ (if n = q then [] else [n]) := by
  unfold others
  rw [List.range_succ, List.filter_append]
  by_cases e : n = q <;> simp [e]
theorem others_len {n q : Nat} (h : q < n) : (others n q).length + 1 = n := by
  have key : ∀ n, (others n q).length + (if q < n then 1 else 0) = n := fun n => by
    induction n with
    | zero => simp [others]
    | succ k ih =>
      rw [others_succ, List.length_append]
      by_cases e : k = q
      · subst e; simp at ih ⊢; omega
      · rw [if_neg e]
        by_cases h : q < k
        · rw [if_pos h] at ih; rw [if_pos (by omega)]; simp; omega
        · rw [if_neg h] at ih; rw [if_neg (by omega)]; simp; omega
  have := key n
  rw [if_pos h] at this
  exact this
theorem sL_append (A B : List Nat) (f : Nat → Int) : sL (A ++ B) f = sL A f + sL B f := by
  induction A with
  | nil => simp [sL]
  | cons a A ih => simp only [List.cons_append, sL, ih]; omega
theorem sL_others (n q : Nat) (f : Nat → Int) : sL (others n q) f = sumN n fun v => if v = q then 0 else f v := by
  induction n with
  | zero => rfl
  | succ k ih =>
    rw [others_succ, sL_append, ih]
    simp only [sumN]
    by_cases e : k = q
    · rw [if_pos e, if_pos e]; rfl
    · rw [if_neg e, if_neg e]; simp [sL]
namespace Gr
variable {G : Gr}
theorem val_others {q : Nat} (hq : q < G.n) (v : Nat) : G.val v = G.m v q + sL (others G.n q) (G.m v) := by
  rw [sL_others, val, sumN_but _ hq]
theorem after_zero {q : Nat} (d c : Nat → Int) (v : Nat) (hc : c v = 0) : G.after (fun v => d v + beta G q v) c v = d v + G.m v q + sumN G.n (fun u => c u * G.m v u) := by
  have : sumN G.n (fun u => c u * G.lap u v) = sumN G.n (fun u => (-1) * (c u * G.m v u)) := sumN_congr fun u _ => by
    by_cases e : u = v
    · rw [e, hc]; simp
    · rw [lap, if_neg (fun h => e h.symm), G.sym v u, Int.mul_neg]; omega
  unfold after beta
  rw [this, sumN_mul]
  dsimp only
  rw [G.sym q v]; omega
theorem rec_iff_RF {q : Nat} (hq : q < G.n) (W : G.Wt q) {d : Nat → Int} (h0 : ∀ v, v < G.n → v ≠ q → 0 ≤ d v) : Rec G q d ↔ RF G.m (others G.n q) (fun v => G.m v q) d := by
  have hst : G.Stab q d ↔ ∀ v ∈ others G.n q, d v < sL (others G.n q) (G.m v) + G.m v q := by
    constructor
    · intro h v hv
      obtain ⟨h1, h2⟩ := others_mem.1 hv
      have := h v h1 h2
      rw [val_others hq] at this; omega
    · intro h v h1 h2
      have := h v (others_mem.2 ⟨h1, h2⟩)
      rw [val_others hq]; omega
  constructor
  · intro hr
    refine ⟨hst.1 hr.stab, fun B ⟨v0, hv0, hB0⟩ => ?_⟩
    have key : ∀ c, G.Lg q (fun v => d v + beta G q v) c → (∀ v ∈ others G.n q, B v = true → c v = 0) ∨ ∃ v ∈ others G.n q, B v = true ∧ sL (others G.n q) (fun u => if B u then G.m v u else 0) ≤ d v := by
      intro c hc
      induction hc with
      | nil => exact .inl fun v _ _ => rfl
      | @step c v hc h1 h2 h3 ih =>
        rcases ih with ih | ih
        · by_cases hB : B v = true
          · refine .inr ⟨v, others_mem.2 ⟨h1, h2⟩, hB, ?_⟩
            have hle := hc.least (fun u _ => one1_nonneg (G := G) (q := q) u) ((after_one hq d).symm.stab hr.stab)
            have hvo := others_mem.2 ⟨h1, h2⟩
            rw [after_zero d c v (ih v hvo hB), val_others hq] at h3
            have h4 : sumN G.n (fun u => c u * G.m v u) ≤ sL (others G.n q) (fun u => if B u then 0 else G.m v u) := by
              rw [sL_others]
              refine sumN_le fun u hu => ?_
              by_cases e : u = q
              · rw [e, hc.sink, if_pos rfl]; simp
              · rw [if_neg e]
                by_cases hBu : B u = true
                · rw [ih u (others_mem.2 ⟨hu, e⟩) hBu, if_pos hBu]; simp
                · rw [if_neg hBu]
                  have h5 := hle u hu
                  rw [one1_at hu e] at h5
                  have := Int.mul_le_mul_of_nonneg_right h5 (G.pos v u)
                  omega
            have h6 := sL_add (others G.n q) (fun u => if B u then G.m v u else 0) (fun u => if B u then 0 else G.m v u)
            have h7 : sL (others G.n q) (fun u => (if B u then G.m v u else 0) + if B u then 0 else G.m v u) = sL (others G.n q) (G.m v) := sL_congr fun u _ => by
              by_cases hBu : B u = true
              · rw [if_pos hBu, if_pos hBu]; omega
              · rw [if_neg hBu, if_neg hBu]; omega
            omega
          · refine .inl fun u hu hBu => ?_
            unfold bump
            rw [if_neg (fun e => hB (by rw [← e]; exact hBu))]
            exact ih u hu hBu
        · exact .inr ih
    rcases key _ hr.once with h | h
    · have := h v0 hv0 hB0
      obtain ⟨h1, h2⟩ := others_mem.1 hv0
      rw [one1_at h1 h2] at this
      omega
    · exact h
  · rintro ⟨hs, hB⟩
    have hs := hst.2 hs
    have hp : ∀ v, v < G.n → v ≠ q → 0 ≤ d v + beta G q v := fun v h1 h2 => by have := h0 v h1 h2; have := G.pos q v; unfold beta; omega
    obtain ⟨c, c1, c2, _, _⟩ := stb_spec W hp
    have hle := c1.least (fun u _ => one1_nonneg (G := G) (q := q) u) ((after_one hq d).symm.stab hs)
    have hone : ∀ v ∈ others G.n q, c v ≠ 0 := by
      apply Classical.byContradiction
      intro hx
      have hx : ∃ v ∈ others G.n q, (fun v => decide (c v = 0)) v = true := by
        apply Classical.byContradiction
        intro hy
        exact hx fun v hv e => hy ⟨v, hv, by simp [e]⟩
      obtain ⟨v, hv, hBv, hd⟩ := hB _ hx
      obtain ⟨h1, h2⟩ := others_mem.1 hv
      have hcv : c v = 0 := by simpa using hBv
      have h3 := c2 v h1 h2
      rw [after_zero d c v hcv, val_others hq] at h3
      have h4 : sL (others G.n q) (fun u => if decide (c u = 0) = true then 0 else G.m v u) ≤ sumN G.n (fun u => c u * G.m v u) := by
        rw [sL_others]
        refine sumN_le fun u hu => ?_
        by_cases e : u = q
        · rw [e, c1.sink, if_pos rfl]; simp
        · rw [if_neg e]
          have h5 := hle u hu
          rw [one1_at hu e] at h5
          have h6 := c1.nonneg u
          by_cases e0 : c u = 0
          · simp [e0]
          · have : c u = 1 := by omega
            simp [this]
      have h6 := sL_add (others G.n q) (fun u => if decide (c u = 0) = true then G.m v u else 0) (fun u => if decide (c u = 0) = true then 0 else G.m v u)
      have h7 : sL (others G.n q) (fun u => (if decide (c u = 0) = true then G.m v u else 0) + if decide (c u = 0) = true then 0 else G.m v u) = sL (others G.n q) (G.m v) := sL_congr fun u _ => by
        by_cases hBu : decide (c u = 0) = true
        · rw [if_pos hBu, if_pos hBu]; omega
        · rw [if_neg hBu, if_neg hBu]; omega
      omega
    refine ⟨h0, hs, ?_⟩
    have : c = one1 G q := by
      funext u
      by_cases hu : u < G.n
      · by_cases e : u = q
        · rw [e, c1.sink]; unfold one1; rw [if_pos (.inl rfl)]
        · have h5 := hle u hu
          rw [one1_at hu e] at h5
          have h6 := c1.nonneg u
          have h7 := hone u (others_mem.2 ⟨hu, e⟩)
          rw [one1_at hu e]; omega
      · rw [c1.out hu]; unfold one1; rw [if_pos (.inr hu)]
    rw [← this]; exact c1
end Gr

/-! ### Counts over boxes given by lists -/
theorem sumN_trim {n k : Nat} {f : Nat → Int} (hk : k ≤ n) (h : ∀ i, k ≤ i → i < n → f i = 0) : sumN n f = sumN k f := by
  induction n with
  | zero => have : k = 0 := by omega
            rw [this]
  | succ n ih =>
    by_cases e : k = n + 1
    · rw [e]
    · rw [sumN, h n (by omega) (by omega), ih (by omega) (fun i h1 h2 => h i h1 (by omega))]; omega
end Go.Proofs.Ytifdhapaonideaa
