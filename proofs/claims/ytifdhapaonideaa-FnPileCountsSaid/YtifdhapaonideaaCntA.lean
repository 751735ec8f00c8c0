/- Recurrent piles are counted, plain: sums over lists of vertices, counts over boxes, a recursion that has one answer. -/
import Derived.Test.YtifdhapaonideaaChipP
namespace Go.Proofs.Ytifdhapaonideaa

/-! ### Sums over lists of vertices -/
def sL : List Nat → (Nat → Int) → Int
  | [], _ => 0
  | v :: A, f => f v + sL A f
theorem sL_congr {A : List Nat} {f g : Nat → Int} (h : ∀ v ∈ A, f v = g v) : sL A f = sL A g := by
  induction A with
  | nil => rfl
  | cons a A ih => rw [sL, sL, h a (by simp), ih (fun v hv => h v (by simp [hv]))]
theorem sL_add (A : List Nat) (f g : Nat → Int) : sL A (fun v => f v + g v) = sL A f + sL A g := by
  induction A with
  | nil => rfl
  | cons a A ih => simp only [sL, ih]; omega
theorem sL_zero {A : List Nat} {f : Nat → Int} (h : ∀ v ∈ A, f v = 0) : sL A f = 0 := by
  induction A with
  | nil => rfl
  | cons a A ih => rw [sL, h a (by simp), ih (fun v hv => h v (by simp [hv]))]; rfl
theorem sL_nonneg {A : List Nat} {f : Nat → Int} (h : ∀ v ∈ A, 0 ≤ f v) : 0 ≤ sL A f := by
  induction A with
  | nil => exact Int.le_refl _
  | cons a A ih => have := h a (by simp); have := ih (fun v hv => h v (by simp [hv])); simp only [sL]; omega
theorem sL_le {A : List Nat} {f g : Nat → Int} (h : ∀ v ∈ A, f v ≤ g v) : sL A f ≤ sL A g := by
  induction A with
  | nil => exact Int.le_refl _
  | cons a A ih => have := h a (by simp); have := ih (fun v hv => h v (by simp [hv])); simp only [sL]; omega
theorem sL_erase {A : List Nat} {v : Nat} (hv : v ∈ A) (f : Nat → Int) : sL A f = f v + sL (A.erase v) f := by
  induction A with
  | nil => simp at hv
  | cons a A ih =>
    by_cases e : a = v
    · subst e; rw [List.erase_cons_head]; rfl
    · rw [List.erase_cons_tail (by simpa using e)]
      have := ih ((List.mem_cons.1 hv).resolve_left (fun h => e h.symm))
      simp only [sL]; omega

/-! ### Counts over boxes -/
def setC (c : Nat → Int) (v : Nat) (k : Int) : Nat → Int := fun u => if u = v then k else c u
theorem setC_comm {c : Nat → Int} {u v : Nat} {j k : Int} (h : u ≠ v) : setC (setC c u j) v k = setC (setC c v k) u j := by
  funext x; unfold setC
  by_cases a : x = v <;> by_cases b : x = u
  · exact (h (b.symm.trans a)).elim
  all_goals simp [a, b]
  · exact fun e => (h e.symm).elim
  · exact fun e => (h e).elim
def cnt (K : Nat) : List Nat → (Nat → Int) → ((Nat → Int) → Int) → Int
  | [], c, f => f c
  | v :: A, c, f => sumN K fun k => cnt K A (setC c v k) f
theorem cnt_congr {K : Nat} {f g : (Nat → Int) → Int} (h : ∀ c, f c = g c) (A : List Nat) (c : Nat → Int) : cnt K A c f = cnt K A c g := by
  rw [show f = g from funext h]
theorem cnt_add (K : Nat) (f g : (Nat → Int) → Int) : ∀ (A : List Nat) (c : Nat → Int), cnt K A c (fun c => f c + g c) = cnt K A c f + cnt K A c g
  | [], _ => rfl
  | v :: A, c => by
    simp only [cnt]
    rw [← sumN_add]
    exact sumN_congr fun k _ => cnt_add K f g A _
theorem cnt_zero (K : Nat) {f : (Nat → Int) → Int} (h : ∀ c, f c = 0) : ∀ (A : List Nat) (c : Nat → Int), cnt K A c f = 0
  | [], c => h c
  | _ :: A, _ => sumN_zero fun _ _ => cnt_zero K h A _
theorem cnt_push (K : Nat) (f : (Nat → Int) → Int) (v : Nat) : ∀ (A : List Nat) (c : Nat → Int), v ∉ A → (sumN K fun k => cnt K A (setC c v k) f) = cnt K A c (fun c => sumN K fun k => f (setC c v k))
  | [], _, _ => rfl
  | a :: A, c, h => by
    simp only [cnt]
    rw [sumN_comm]
    refine sumN_congr fun j _ => ?_
    rw [← cnt_push K f v A _ (fun hv => h (by simp [hv]))]
    refine sumN_congr fun k _ => ?_
    rw [setC_comm (fun e => h (by simp [e]))]
theorem cnt_pull (K : Nat) (f : (Nat → Int) → Int) (v : Nat) : ∀ (A : List Nat) (c : Nat → Int), A.Nodup → v ∈ A → cnt K A c f = cnt K (A.erase v) c (fun c => sumN K fun k => f (setC c v k))
  | [], _, _, h => by simp at h
  | a :: A, c, hn, h => by
    rw [List.nodup_cons] at hn
    by_cases e : a = v
    · subst e
      rw [List.erase_cons_head, ← cnt_push K f a A c hn.1]; rfl
    · rw [List.erase_cons_tail (by simpa using e)]
      simp only [cnt]
      exact sumN_congr fun k _ => cnt_pull K f v A _ hn.2 ((List.mem_cons.1 h).resolve_left (fun h => e h.symm))

/-! ### Recurrent piles of some vertices, the others being the sink -/
def RF (m : Nat → Nat → Int) (A : List Nat) (b d : Nat → Int) : Prop :=
  (∀ v ∈ A, d v < sL A (m v) + b v) ∧ ∀ B : Nat → Bool, (∃ v ∈ A, B v = true) → ∃ v ∈ A, B v = true ∧ sL A (fun u => if B u then m v u else 0) ≤ d v
noncomputable def ind (p : Prop) : Int := open Classical in if p then 1 else 0
theorem ind_congr {p q : Prop} (h : p ↔ q) : ind p = ind q := by rw [propext h]
theorem ind_no {p : Prop} (h : ¬ p) : ind p = 0 := by unfold ind; rw [if_neg h]
theorem ind_yes {p : Prop} (h : p) : ind p = 1 := by unfold ind; rw [if_pos h]
noncomputable def nRF (m : Nat → Nat → Int) (K : Nat) (A : List Nat) (b : Nat → Int) : Int := cnt K A (fun _ => 0) (fun d => ind (RF m A b d))
theorem RF_congr {m : Nat → Nat → Int} {A : List Nat} {b b' d : Nat → Int} (h : ∀ v ∈ A, b v = b' v) : RF m A b d ↔ RF m A b' d := by
  have : (∀ v ∈ A, d v < sL A (m v) + b v) ↔ ∀ v ∈ A, d v < sL A (m v) + b' v := ⟨fun x v hv => by rw [← h v hv]; exact x v hv, fun x v hv => by rw [h v hv]; exact x v hv⟩
  unfold RF; rw [this]

theorem sL_but {A : List Nat} (hn : A.Nodup) {v : Nat} {f g : Nat → Int} (h0 : f v = 0) (h : ∀ u, u ≠ v → f u = g u) (hv : v ∈ A) : sL A f = sL (A.erase v) g := by
  rw [sL_erase hv, h0, Int.zero_add]
  exact sL_congr fun u hu => h u (fun e => by subst e; exact (List.Nodup.not_mem_erase hn) hu)
theorem mem_er {A : List Nat} (hn : A.Nodup) {v u : Nat} : u ∈ A.erase v ↔ u ≠ v ∧ u ∈ A := List.Nodup.mem_erase_iff hn

/-- the two cases of a vertex at the sink: it has as many chips as it can, or fewer -/
theorem RF_step {m : Nat → Nat → Int} {A : List Nat} {b : Nat → Int} {v : Nat} (hp : ∀ u v, 0 ≤ m u v) (hn : A.Nodup) (hv : v ∈ A) (hb : 0 ≤ b v) (c : Nat → Int) (k : Int) :
    ind (RF m A (Gr.bump b v) (setC c v k)) = ind (RF m A b (setC c v k)) + (if k = sL A (m v) + b v then ind (RF m (A.erase v) (fun u => b u + m u v) c) else 0) := by
  have hbv : Gr.bump b v v = b v + 1 := by simp [Gr.bump]
  have hbu : ∀ u, u ≠ v → Gr.bump b v u = b u := fun u h => by simp [Gr.bump, h]
  have hcv : setC c v k v = k := by simp [setC]
  have hcu : ∀ u, u ≠ v → setC c v k u = c u := fun u h => by simp [setC, h]
  rcases Int.lt_trichotomy k (sL A (m v) + b v) with h | h | h
  · rw [if_neg (by omega), Int.add_zero]
    apply ind_congr
    have : (∀ w ∈ A, setC c v k w < sL A (m w) + Gr.bump b v w) ↔ ∀ w ∈ A, setC c v k w < sL A (m w) + b w := by
      constructor
      · intro x w hw
        by_cases e : w = v
        · subst e; rw [hcv]; exact h
        · have := x w hw; rw [hbu w e] at this; exact this
      · intro x w hw
        by_cases e : w = v
        · subst e; rw [hcv, hbv]; omega
        · have := x w hw; rw [hbu w e]; exact this
    unfold RF; rw [this]
  · rw [if_pos h, ind_no (p := RF m A b (setC c v k)) (fun x => by have := x.1 v hv; rw [hcv] at this; omega), Int.zero_add]
    apply ind_congr
    have hdeg : ∀ w, w ≠ v → sL A (m w) = sL (A.erase v) (m w) + m w v := fun w _ => by rw [sL_erase hv]; omega
    constructor
    · rintro ⟨x, y⟩
      refine ⟨fun w hw => ?_, fun B hB => ?_⟩
      · obtain ⟨e, hw⟩ := (mem_er hn).1 hw
        have := x w hw
        rw [hcu w e, hbu w e, hdeg w e] at this
        dsimp only
        omega
      · obtain ⟨w, hw, hBw⟩ := hB
        obtain ⟨e, hw⟩ := (mem_er hn).1 hw
        obtain ⟨w', hw', hBw', hle⟩ := y (fun u => if u = v then false else B u) ⟨w, hw, by simp [e, hBw]⟩
        have e' : w' ≠ v := fun e' => by simp [e'] at hBw'
        simp only [if_neg e'] at hBw'
        refine ⟨w', (mem_er hn).2 ⟨e', hw'⟩, hBw', ?_⟩
        rw [hcu w' e'] at hle
        rw [sL_but hn (g := fun u => if B u then m w' u else 0) (by simp) (fun u hu => by simp [hu]) hv] at hle
        exact hle
    · rintro ⟨x, y⟩
      refine ⟨fun w hw => ?_, fun B hB => ?_⟩
      · by_cases e : w = v
        · subst e; rw [hcv, hbv]; omega
        · have := x w ((mem_er hn).2 ⟨e, hw⟩)
          rw [hcu w e, hbu w e, hdeg w e]
          dsimp only at this
          omega
      · by_cases hBv : B v = true
        · refine ⟨v, hv, hBv, ?_⟩
          rw [hcv]
          have : sL A (fun u => if B u then m v u else 0) ≤ sL A (m v) := sL_le fun u _ => by
            have := hp v u
            split <;> omega
          omega
        · obtain ⟨w, hw, hBw⟩ := hB
          have e : w ≠ v := fun e => hBv (by rw [← e]; exact hBw)
          obtain ⟨w', hw', hBw', hle⟩ := y B ⟨w, (mem_er hn).2 ⟨e, hw⟩, hBw⟩
          obtain ⟨e', hw'⟩ := (mem_er hn).1 hw'
          refine ⟨w', hw', hBw', ?_⟩
          rw [hcu w' e', sL_but hn (g := fun u => if B u then m w' u else 0) (by simp [hBv]) (fun u _ => rfl) hv]
          exact hle
  · rw [if_neg (by omega), ind_no (p := RF m A b (setC c v k)) (fun x => by have := x.1 v hv; rw [hcv] at this; omega), ind_no (fun x => by have := x.1 v hv; rw [hcv, hbv] at this; omega)]
    rfl

/-- the recursion: more edges from the sink to a vertex -/
structure TreeLike (m : Nat → Nat → Int) (K N : Nat) (F : List Nat → (Nat → Int) → Int) : Prop where
  congr : ∀ A b b', (∀ v ∈ A, b v = b' v) → F A b = F A b'
  nil : ∀ b, F [] b = 1
  zero : ∀ A b, A ≠ [] → A.Nodup → A.length ≤ N → (∀ v ∈ A, b v = 0) → F A b = 0
  step : ∀ A b v, A.Nodup → A.length ≤ N → v ∈ A → (∀ u ∈ A, 0 ≤ b u) → sL A (m v) + b v < K → F A (Gr.bump b v) = F A b + F (A.erase v) (fun u => b u + m u v)

theorem nRF_tree {m : Nat → Nat → Int} (hp : ∀ u v, 0 ≤ m u v) (K N : Nat) : TreeLike m K N (nRF m K) where
  congr := fun A b b' h => cnt_congr (fun c => ind_congr (RF_congr h)) A _
  nil := fun b => ind_yes ⟨fun v hv => by simp at hv, fun B ⟨v, hv, _⟩ => by simp at hv⟩
  zero := fun A b hne hn _ h => cnt_zero K (fun c => ind_no fun ⟨x, y⟩ => by
    obtain ⟨a, A', rfl⟩ := List.exists_cons_of_ne_nil hne
    obtain ⟨w, hw, _, hle⟩ := y (fun _ => true) ⟨a, by simp, rfl⟩
    have h1 := x w hw
    rw [h w hw] at h1
    have h2 : sL (a :: A') (fun u => if (fun _ => true) u = true then m w u else 0) = sL (a :: A') (m w) := sL_congr fun u _ => by simp
    rw [h2] at hle
    omega) A _
  step := fun A b v hn _ hv hb hK => by
    unfold nRF
    rw [cnt_pull K _ v A _ hn hv, cnt_pull K (fun d => ind (RF m A b d)) v A _ hn hv, ← cnt_add]
    refine cnt_congr (fun c => ?_) _ _
    rw [sumN_congr (fun (k : Nat) _ => RF_step hp hn hv (hb v hv) c (k : Int)), sumN_add]
    congr 1
    have h0 : 0 ≤ sL A (m v) + b v := by have := sL_nonneg (fun u (_ : u ∈ A) => hp v u); have := hb v hv; omega
    rw [sumN_one (v := (sL A (m v) + b v).toNat) _ (by omega) (fun i _ hi => if_neg (by omega)), if_pos (by omega)]

theorem sL_bump {A : List Nat} (hn : A.Nodup) {v : Nat} (hv : v ∈ A) (b : Nat → Int) : sL A (Gr.bump b v) = sL A b + 1 := by
  rw [sL_erase hv, sL_erase hv b, sL_congr (f := Gr.bump b v) (g := b) (fun u hu => by
    have := ((mem_er hn).1 hu).1
    simp [Gr.bump, this])]
  simp [Gr.bump]; omega
/-- two answers are the same -/
theorem TreeLike.same {m : Nat → Nat → Int} {K N : Nat} {F F' : List Nat → (Nat → Int) → Int} (hp : ∀ u v, 0 ≤ m u v) (h : TreeLike m K N F) (h' : TreeLike m K N F') :
    ∀ (len : Nat) (s : Nat) (A : List Nat) (b : Nat → Int), A.length = len → sL A b = s → A.Nodup → A.length ≤ N → (∀ u ∈ A, 0 ≤ b u) → (∀ u ∈ A, sL A (m u) + b u ≤ K) → F A b = F' A b := by
  intro len
  induction len with
  | zero =>
    intro s A b hl _ _ _ _ _
    have : A = [] := List.length_eq_zero_iff.1 hl
    subst this
    rw [h.nil, h'.nil]
  | succ len ihl =>
    intro s
    induction s with
    | zero =>
      intro A b hl hsum hn hN hb hK
      have hne : A ≠ [] := fun e => by rw [e] at hl; simp at hl
      have hz : ∀ v ∈ A, b v = 0 := fun v hv => by
        have h1 := sL_erase hv b
        have h2 : 0 ≤ sL (A.erase v) b := sL_nonneg fun u hu => hb u (List.mem_of_mem_erase hu)
        have := hb v hv
        omega
      rw [h.zero A b hne hn hN hz, h'.zero A b hne hn hN hz]
    | succ s ih =>
      intro A b hl hsum hn hN hb hK
      obtain ⟨v, hv, hbv⟩ : ∃ v ∈ A, 1 ≤ b v := by
        apply Classical.byContradiction
        intro hx
        have : sL A b ≤ sL A (fun _ => 0) := sL_le fun v hv => Int.not_lt.1 fun h1 => hx ⟨v, hv, by omega⟩
        rw [sL_zero (fun _ _ => rfl)] at this
        omega
      obtain ⟨b0, hb0⟩ : ∃ b0 : Nat → Int, b0 = fun u => if u = v then b v - 1 else b u := ⟨_, rfl⟩
      have hbv0 : b0 v = b v - 1 := by rw [hb0]; simp
      have hbu0 : ∀ u, u ≠ v → b0 u = b u := fun u hu => by rw [hb0]; simp [hu]
      have heq : ∀ u ∈ A, b u = Gr.bump b0 v u := fun u _ => by
        unfold Gr.bump
        by_cases e : u = v
        · rw [if_pos e, e, hbv0]; omega
        · rw [if_neg e, hbu0 u e]
      have hb0n : ∀ u ∈ A, 0 ≤ b0 u := fun u hu => by
        by_cases e : u = v
        · rw [e, hbv0]; omega
        · rw [hbu0 u e]; exact hb u hu
      have hs0 : sL A b0 = s := by
        have := sL_bump hn hv b0
        rw [← sL_congr heq] at this
        omega
      have hKv : sL A (m v) + b0 v < K := by have := hK v hv; omega
      rw [h.congr A b _ heq, h'.congr A b _ heq, h.step A b0 v hn hN hv hb0n hKv, h'.step A b0 v hn hN hv hb0n hKv]
      have hle : (A.erase v).length = len := by rw [List.length_erase_of_mem hv, hl]; rfl
      have hbn : ∀ u ∈ A.erase v, 0 ≤ b0 u + m u v := fun u hu => by have := hb0n u (List.mem_of_mem_erase hu); have := hp u v; omega
      have hs1 : 0 ≤ sL (A.erase v) (fun u => b0 u + m u v) := sL_nonneg hbn
      rw [ih A b0 hl hs0 hn hN hb0n (fun u hu => by
          have := hK u hu
          by_cases e : u = v
          · rw [e] at this ⊢; omega
          · rw [hbu0 u e]; exact this),
        ihl (sL (A.erase v) (fun u => b0 u + m u v)).toNat (A.erase v) _ hle (by omega) (hn.erase v) (by omega) hbn (fun u hu => by
          obtain ⟨e, hu⟩ := (mem_er hn).1 hu
          have := hK u hu
          rw [sL_erase hv] at this
          rw [hbu0 u e]
          omega)]
end Go.Proofs.Ytifdhapaonideaa
