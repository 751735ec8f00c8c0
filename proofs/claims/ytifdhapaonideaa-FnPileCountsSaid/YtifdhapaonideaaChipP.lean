/- Chips on graphs, plain: the identity of the piles, orders, opposites. -/
import Derived.Test.YtifdhapaonideaaChipT
namespace Go.Proofs.Ytifdhapaonideaa

theorem pigeon : ∀ (N : Nat) (f : Nat → Nat), (∀ i, i ≤ N → f i < N) → ∃ i j, i < j ∧ j ≤ N ∧ f i = f j := by
  intro N
  induction N with
  | zero => intro f h; have := h 0 (Nat.le_refl _); omega
  | succ N ih =>
    intro f h
    by_cases hx : ∃ i, i < N + 1 ∧ f i = f (N + 1)
    · obtain ⟨i, h1, h2⟩ := hx
      exact ⟨i, N + 1, h1, Nat.le_refl _, h2⟩
    · have hn : ∀ i, i < N + 1 → f i ≠ f (N + 1) := fun i hi e => hx ⟨i, hi, e⟩
      obtain ⟨i, j, h1, h2, h3⟩ := ih (fun i => if f i = N then f (N + 1) else f i) (fun i hi => by
        have g1 := h i (by omega)
        have g2 := h (N + 1) (Nat.le_refl _)
        have g3 := hn i (by omega)
        skip
        split <;> omega)

      have g1 := hn i (by omega)
      have g2 := hn j (by omega)
      refine ⟨i, j, h1, by omega, ?_⟩
      by_cases a : f i = N <;> by_cases b : f j = N
      · rw [a, b]
      · rw [if_pos a, if_neg b] at h3; exact (g2 h3.symm).elim
      · rw [if_neg a, if_pos b] at h3; exact (g1 h3).elim
      · rw [if_neg a, if_neg b] at h3; exact h3

def codeN (f : Nat → Int) : Nat → Nat
  | 0 => 0
  | k + 1 => codeN f k * 36 + (f k).toNat
theorem codeN_lt {f : Nat → Int} : ∀ k, (∀ v, v < k → 0 ≤ f v ∧ f v < 36) → codeN f k < 36 ^ k
  | 0, _ => by simp [codeN]
  | k + 1, h => by
    have := codeN_lt k (fun v hv => h v (by omega))
    have := h k (by omega)
    rw [Nat.pow_succ]
    simp only [codeN]; omega
theorem codeN_inj {f g : Nat → Int} : ∀ k, (∀ v, v < k → 0 ≤ f v ∧ f v < 36) → (∀ v, v < k → 0 ≤ g v ∧ g v < 36) → codeN f k = codeN g k → ∀ v, v < k → f v = g v
  | 0, _, _, _ => fun v hv => by omega
  | k + 1, h, h', e => fun v hv => by
    have a := h k (by omega)
    have b := h' k (by omega)
    simp only [codeN] at e
    by_cases ev : v = k
    · subst ev; omega
    · exact codeN_inj k (fun v hv => h v (by omega)) (fun v hv => h' v (by omega)) (by omega) v (by omega)

namespace Gr
variable {G : Gr}

/-! ### The identity -/
def dbl (G : Gr) (q : Nat) : Nat → Int := fun v => 2 * grt G q v
noncomputable def left (G : Gr) (q : Nat) : Nat → Int := fun v => dbl G q v - stb G q (dbl G q) v
noncomputable def idp (G : Gr) (q : Nat) : Nat → Int := stb G q (left G q)
theorem grt_pos {q : Nat} (W : G.Wt q) : ∀ v, v < G.n → v ≠ q → 0 ≤ grt G q v := fun v h1 h2 => by unfold grt; rw [if_neg h2]; have := W.val_pos h1 h2; omega
theorem dbl_pos {q : Nat} (W : G.Wt q) : ∀ v, v < G.n → v ≠ q → 0 ≤ dbl G q v := fun v h1 h2 => by have := grt_pos W v h1 h2; unfold dbl; omega
theorem left_ge {q : Nat} (W : G.Wt q) : ∀ v, v < G.n → v ≠ q → grt G q v ≤ left G q v := fun v h1 h2 => by
  have h3 := stb_stab W (dbl_pos W) v h1 h2
  have h4 : grt G q v = G.val v - 1 := by unfold grt; rw [if_neg h2]
  unfold left
  have : dbl G q v = 2 * grt G q v := rfl
  omega
theorem left_pos {q : Nat} (W : G.Wt q) : ∀ v, v < G.n → v ≠ q → 0 ≤ left G q v := fun v h1 h2 => by have := left_ge W v h1 h2; have := grt_pos W v h1 h2; omega
theorem left_le {q : Nat} (W : G.Wt q) : ∀ v, v < G.n → v ≠ q → left G q v ≤ 68 := fun v h1 h2 => by
  have h3 := stb_pos W (dbl_pos W) v h1 h2
  have h4 : grt G q v = G.val v - 1 := by unfold grt; rw [if_neg h2]
  have h5 := G.val_le v h1
  unfold left
  have : dbl G q v = 2 * grt G q v := rfl
  omega
theorem left_sink {q : Nat} : left G q q = 0 := by unfold left dbl grt; rw [stb_sink, if_pos rfl]; rfl
theorem idp_rec {q : Nat} (hq : q < G.n) (W : G.Wt q) (hc : G.Conn q) : Rec G q (idp G q) := by
  have h := (grt_rec hq W hc).add hq W (a := fun v => left G q v - grt G q v) (fun v h1 h2 => by have := left_ge W v h1 h2; omega)
  have e : (fun v => grt G q v + (left G q v - grt G q v)) = left G q := by funext v; omega

  rw [e] at h
  exact h
theorem idp_zero {q : Nat} (W : G.Wt q) : Teq G q none0 (idp G q) := by
  have h1 : Teq G q (dbl G q) (stb G q (dbl G q)) := Teq.stb W (dbl_pos W)
  have h2 : Teq G q (left G q) (idp G q) := Teq.stb W (left_pos W)
  refine Teq.trans ?_ h2
  have h3 := h1.symm.add (Teq.refl (G := G) (q := q) (fun v => - stb G q (dbl G q) v))
  refine (Teq.of_eqv (fun v _ _ => ?_)).trans (h3.trans (Teq.of_eqv (fun v _ _ => ?_)))
  · simp [none0]; omega
  · show dbl G q v + - stb G q (dbl G q) v = dbl G q v - stb G q (dbl G q) v; omega
/-- a recurrent pile that changes one is the identity, and the identity changes none -/
theorem Rec.sum_pos {q : Nat} {d e : Nat → Int} (hd : Rec G q d) (he : Rec G q e) : ∀ v, v < G.n → v ≠ q → 0 ≤ d v + e v := fun v h1 h2 => by have := hd.pos v h1 h2; have := he.pos v h1 h2; omega
theorem idp_iff {q : Nat} (hq : q < G.n) (W : G.Wt q) (hc : G.Conn q) {d e : Nat → Int} (hd : Rec G q d) (he : Rec G q e) : Eqv G q (stb G q (fun v => d v + e v)) d ↔ Eqv G q e (idp G q) := by
  have hp := hd.sum_pos he
  have ht := Teq.stb W hp
  constructor
  · intro h
    refine he.eq hq (idp_rec hq W hc) (Teq.trans ?_ (idp_zero W))
    -- e = (d + e) - d ~ d - d = 0
    have h1 := (ht.trans (Teq.of_eqv h)).add (Teq.refl (G := G) (q := q) (fun v => - d v))
    refine (Teq.of_eqv (fun v _ _ => ?_)).trans (h1.trans (Teq.of_eqv (fun v _ _ => ?_)))
    · show e v = d v + e v + - d v; omega
    · show d v + - d v = none0 v; simp [none0]; omega
  · intro h
    refine (hd.add hq W he.pos).eq hq hd (ht.symm.trans ?_)
    have h1 := (Teq.refl (G := G) (q := q) d).add ((Teq.of_eqv h).trans (idp_zero W).symm)
    exact h1.trans (Teq.of_eqv (fun v _ _ => by simp [none0]))

/-! ### Orders -/
/-- the sum of k + 1 of a pile -/
noncomputable def ms (G : Gr) (q : Nat) (d : Nat → Int) : Nat → Nat → Int
  | 0 => d
  | k + 1 => stb G q (fun v => ms G q d k v + d v)
theorem ms_rec {q : Nat} (hq : q < G.n) (W : G.Wt q) {d : Nat → Int} (hd : Rec G q d) : ∀ k, Rec G q (ms G q d k)
  | 0 => hd
  | k + 1 => (ms_rec hq W hd k).add hq W hd.pos
theorem ms_teq {q : Nat} (hq : q < G.n) (W : G.Wt q) {d : Nat → Int} (hd : Rec G q d) : ∀ k : Nat, Teq G q (fun v => ((k : Int) + 1) * d v) (ms G q d k)
  | 0 => Teq.of_eqv (fun v _ _ => by simp [ms])
  | k + 1 => by
    have h1 := (ms_teq hq W hd k).add (Teq.refl (G := G) (q := q) d)
    have h2 := Teq.stb W ((ms_rec hq W hd k).sum_pos hd)
    refine Teq.trans (Teq.of_eqv (fun v _ _ => ?_)) (h1.trans h2)

    rw [Int.natCast_succ, Int.add_mul ((k : Int) + 1)]; omega
theorem Rec.small {q : Nat} {d : Nat → Int} (h : Rec G q d) : ∀ v, v < G.n → 0 ≤ (if v = q then 0 else d v) ∧ (if v = q then 0 else d v) < 36 := by
  intro v hv
  by_cases e : v = q
  · rw [if_pos e]; omega
  · rw [if_neg e]
    have := h.pos v hv e; have := h.stab v hv e; have := G.val_le v hv
    omega
theorem ms_order {q : Nat} (hq : q < G.n) (W : G.Wt q) (hc : G.Conn q) {d : Nat → Int} (hd : Rec G q d) : ∃ k, k < 36 ^ G.n ∧ Eqv G q (ms G q d k) (idp G q) := by
  obtain ⟨i, j, h1, h2, h3⟩ := pigeon (36 ^ G.n) (fun i => codeN (fun v => if v = q then 0 else ms G q d i v) G.n) (fun i _ => codeN_lt _ (ms_rec hq W hd i).small)
  have h4 := codeN_inj _ (ms_rec hq W hd i).small (ms_rec hq W hd j).small h3
  have h5 : Eqv G q (ms G q d i) (ms G q d j) := fun v hv hne => by
    have := h4 v hv
    rw [if_neg hne, if_neg hne] at this
    exact this
  refine ⟨j - i - 1, by omega, (ms_rec hq W hd _).eq hq (idp_rec hq W hc) (Teq.trans ?_ (idp_zero W))⟩
  have h6 := ((ms_teq hq W hd j).trans (Teq.of_eqv h5.symm)).trans (ms_teq hq W hd i).symm
  have h7 := h6.add (Teq.refl (G := G) (q := q) (fun v => - (((i : Int) + 1) * d v)))
  refine (ms_teq hq W hd (j - i - 1)).symm.trans ((Teq.of_eqv (fun v _ _ => ?_)).trans (h7.trans (Teq.of_eqv (fun v _ _ => ?_))))
  · skip
    rw [← Int.neg_mul, ← Int.add_mul]
    congr 1
    omega
  · simp [none0]; omega
/-- a least one -/
theorem ms_first {q : Nat} (hq : q < G.n) (W : G.Wt q) (hc : G.Conn q) {d : Nat → Int} (hd : Rec G q d) : ∃ k, Eqv G q (ms G q d k) (idp G q) ∧ ∀ j, j < k → ¬ Eqv G q (ms G q d j) (idp G q) := by
  obtain ⟨k0, _, h0⟩ := ms_order hq W hc hd
  obtain ⟨k, h1, h2⟩ := least_of (P := fun k => Eqv G q (ms G q d k) (idp G q)) ⟨k0, h0⟩
  exact ⟨k, h1, fun j hj h => by have := h2 j h; omega⟩
noncomputable def ord (G : Gr) (q : Nat) (d : Nat → Int) : Nat := open Classical in if h : ∃ k, Eqv G q (ms G q d k) (idp G q) ∧ ∀ j, j < k → ¬ Eqv G q (ms G q d j) (idp G q) then Classical.choose h else 0
theorem ord_spec {q : Nat} (hq : q < G.n) (W : G.Wt q) (hc : G.Conn q) {d : Nat → Int} (hd : Rec G q d) : Eqv G q (ms G q d (ord G q d)) (idp G q) ∧ ∀ j, j < ord G q d → ¬ Eqv G q (ms G q d j) (idp G q) := by
  unfold ord; rw [dif_pos (ms_first hq W hc hd)]
  exact Classical.choose_spec (ms_first hq W hc hd)
theorem ord_lt {q : Nat} (hq : q < G.n) (W : G.Wt q) (hc : G.Conn q) {d : Nat → Int} (hd : Rec G q d) : ord G q d < 36 ^ G.n := by
  obtain ⟨k, h1, h2⟩ := ms_order hq W hc hd
  apply Classical.byContradiction
  intro hn
  exact (ord_spec hq W hc hd).2 k (by omega) h2

/-! ### Opposites -/
/-- the identity and k of a pile -/
noncomputable def op (G : Gr) (q : Nat) (d : Nat → Int) : Nat → Nat → Int
  | 0 => idp G q
  | k + 1 => stb G q (fun v => op G q d k v + d v)
theorem op_rec {q : Nat} (hq : q < G.n) (W : G.Wt q) (hc : G.Conn q) {d : Nat → Int} (hd : Rec G q d) : ∀ k, Rec G q (op G q d k)
  | 0 => idp_rec hq W hc
  | k + 1 => (op_rec hq W hc hd k).add hq W hd.pos
theorem op_ms {q : Nat} (hq : q < G.n) (W : G.Wt q) (hc : G.Conn q) {d : Nat → Int} (hd : Rec G q d) : ∀ k, Eqv G q (op G q d (k + 1)) (ms G q d k)
  | 0 => by
    refine (op_rec hq W hc hd 1).eq hq hd ?_
    have h1 := Teq.stb W ((idp_rec hq W hc).sum_pos hd)
    refine h1.symm.trans (((idp_zero W).symm.add (Teq.refl (G := G) (q := q) d)).trans (Teq.of_eqv (fun v _ _ => by simp [none0, ms])))
  | k + 1 => by
    have ih := op_ms hq W hc hd k
    intro v hv hne
    exact stb_congr W ((op_rec hq W hc hd (k + 1)).sum_pos hd) (fun v h1 h2 => by dsimp only; rw [ih v h1 h2]) v hv
noncomputable def opp (G : Gr) (q : Nat) (d : Nat → Int) : Nat → Int := op G q d (ord G q d)
theorem opp_sum {q : Nat} (hq : q < G.n) (W : G.Wt q) (hc : G.Conn q) {d : Nat → Int} (hd : Rec G q d) : Eqv G q (stb G q (fun v => opp G q d v + d v)) (idp G q) :=
  (op_ms hq W hc hd (ord G q d)).trans (ord_spec hq W hc hd).1
theorem opp_iff {q : Nat} (hq : q < G.n) (W : G.Wt q) (hc : G.Conn q) {d c : Nat → Int} (hd : Rec G q d) (hx : Rec G q c) : Eqv G q (stb G q (fun v => c v + d v)) (idp G q) ↔ Eqv G q c (opp G q d) := by
  have ho := op_rec hq W hc hd (ord G q d)
  have h1 := Teq.stb W (hx.sum_pos hd)
  have h2 := Teq.stb W (ho.sum_pos hd)
  constructor
  · intro h
    refine hx.eq hq ho ?_
    have h3 := ((h1.trans (Teq.of_eqv (h.trans (opp_sum hq W hc hd).symm))).trans h2.symm).add (Teq.refl (G := G) (q := q) (fun v => - d v))
    refine (Teq.of_eqv (fun v _ _ => ?_)).trans (h3.trans (Teq.of_eqv (fun v _ _ => ?_)))
    · show c v = c v + d v + - d v; omega
    · show op G q d (ord G q d) v + d v + - d v = op G q d (ord G q d) v; omega
  · intro h
    intro v hv hne
    rw [stb_congr W (hx.sum_pos hd) (g := fun v => opp G q d v + d v) (fun v h1 h2 => by dsimp only; rw [h v h1 h2]) v hv]
    exact opp_sum hq W hc hd v hv hne
end Gr
end Go.Proofs.Ytifdhapaonideaa
