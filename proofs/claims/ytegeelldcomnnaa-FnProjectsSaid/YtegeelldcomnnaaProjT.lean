/- Projects, plain: earliest and latest starts, the end, floats, critical chains, delays. -/
import Derived.Test.YtegeelldcomnnaaFloats
import Derived.Test.YtegeelldcomnnaaFree
import Derived.Test.YtegeelldcomnnaaCrit3
namespace Go.Proofs.Ytegeelldcomnnaa
open Go.RowKit
open Go.Lib (hid)

abbrev tE (L : List Tsk) (j : Nat) : Int := (earlyF L).getD j 0
abbrev tT (L : List Tsk) (j : Nat) : Int := (L.getD j noTsk).time
abbrev tN (L : List Tsk) (j : Nat) : List Int := (L.getD j noTsk).needs
/-- task q is needed by task i -/
def Nd (L : List Tsk) (q i : Nat) : Prop := i < L.length ∧ (q : Int) ∈ tN L i
theorem Nd.lt {L : List Tsk} (hL : GoodT L) {q i : Nat} (h : Nd L q i) : q < i := by have := (hL.2 i h.1).1 _ h.2; omega
theorem nd_of {L : List Tsk} (hL : GoodT L) {i : Nat} (hi : i < L.length) {x : Int} (h : x ∈ tN L i) : ∃ q : Nat, x = (q : Int) ∧ Nd L q i := by
  have := (hL.2 i hi).1 _ h
  refine ⟨x.toNat, by omega, hi, ?_⟩
  rw [show ((x.toNat : Nat) : Int) = x by omega]; exact h

theorem startOf_spec (S : List Int) (L : List Tsk) : ∀ (ks : List Int) (s : Int), s ≤ startOf S L ks s ∧ (∀ k ∈ ks, S.getD k.toNat 0 + tT L k.toNat ≤ startOf S L ks s) ∧ (startOf S L ks s = s ∨ ∃ k ∈ ks, startOf S L ks s = S.getD k.toNat 0 + tT L k.toNat) := by
  intro ks
  induction ks with
  | nil => intro s; exact ⟨Int.le_refl _, by simp, .inl rfl⟩
  | cons k ks ih =>
    intro s
    rw [startOf_cons]
    obtain ⟨h1, h2, h3⟩ := ih (max s (S.getD k.toNat 0 + (L.getD k.toNat noTsk).time))
    refine ⟨by omega, fun x hx => ?_, ?_⟩
    · rcases List.mem_cons.1 hx with rfl | hx
      · show S.getD x.toNat 0 + (L.getD x.toNat noTsk).time ≤ _; omega
      · exact h2 x hx
    · rcases h3 with h3 | ⟨x, hx, h3⟩
      · rw [h3]
        by_cases e : S.getD k.toNat 0 + (L.getD k.toNat noTsk).time ≤ s
        · left; omega
        · right; exact ⟨k, List.mem_cons_self .., by show _ = S.getD k.toNat 0 + (L.getD k.toNat noTsk).time; omega⟩
      · right; exact ⟨x, List.mem_cons_of_mem _ hx, h3⟩
theorem early_at {L : List Tsk} (hL : GoodT L) {j : Nat} (hj : j < L.length) : tE L j = startOf (earlyF L) L (tN L j) 0 := earlyF_at hL hj
theorem early_pos {L : List Tsk} (hL : GoodT L) {j : Nat} (hj : j < L.length) : 0 ≤ tE L j := by
  rw [early_at hL hj]; exact (startOf_spec _ _ _ _).1
theorem early_nd {L : List Tsk} (hL : GoodT L) {q i : Nat} (h : Nd L q i) : tE L q + tT L q ≤ tE L i := by
  have := (startOf_spec (earlyF L) L (tN L i) 0).2.1 _ h.2
  rw [← early_at hL h.1] at this
  exact this
theorem early_tight {L : List Tsk} (hL : GoodT L) {j : Nat} (hj : j < L.length) : tE L j = 0 ∨ ∃ q, Nd L q j ∧ tE L j = tE L q + tT L q := by
  have := (startOf_spec (earlyF L) L (tN L j) 0).2.2
  rw [← early_at hL hj] at this
  rcases this with h | ⟨x, hx, h⟩
  · exact .inl h
  · obtain ⟨q, rfl, hn⟩ := nd_of hL hj hx
    exact .inr ⟨q, hn, h⟩
/-- starts, as a function -/
def Valid (L : List Tsk) (S : List Int) : Prop := ∀ q i, Nd L q i → S.getD q 0 + tT L q ≤ S.getD i 0
theorem stI_iff {S : List Int} {L : List Tsk} {x : Int} {r : Bool} : ∀ ks : List Int, stI S L x ks r = true ↔ r = true ∧ ∀ k ∈ ks, S.getD k.toNat 0 + tT L k.toNat ≤ x := by
  intro ks
  induction ks with
  | nil => simp [stI]
  | cons k ks ih =>
    by_cases h : x < S.getD k.toNat 0 + (L.getD k.toNat noTsk).time
    · rw [stI_yes h]
      constructor
      · intro h'; cases h'
      · intro h'
        have := h'.2 k (List.mem_cons_self ..)
        have : S.getD k.toNat 0 + (L.getD k.toNat noTsk).time ≤ x := this
        omega
    · rw [stI_no h, ih]
      constructor
      · rintro ⟨h1, h2⟩
        refine ⟨h1, fun y hy => ?_⟩
        rcases List.mem_cons.1 hy with rfl | hy
        · show S.getD y.toNat 0 + (L.getD y.toNat noTsk).time ≤ x; omega
        · exact h2 y hy
      · rintro ⟨h1, h2⟩
        exact ⟨h1, fun y hy => h2 y (List.mem_cons_of_mem _ hy)⟩
theorem stO_iff {S : List Int} {L : List Tsk} : ∀ (d k : Nat), d = L.length - k → k ≤ L.length → (stO S L k (L.drop k) = true ↔ ∀ i, k ≤ i → i < L.length → ∀ x ∈ tN L i, S.getD x.toNat 0 + tT L x.toNat ≤ S.getD i 0) := by
  intro d
  induction d with
  | zero =>
    intro k hd hk
    rw [List.drop_eq_nil_of_le (by omega), stO_nil]
    exact ⟨fun _ i h1 h2 => by omega, fun _ => rfl⟩
  | succ d ih =>
    intro k hd hk
    rw [drop_cons L noTsk k (by omega), stO_cons, stI_iff, ih (k + 1) (by omega) (by omega)]
    constructor
    · rintro ⟨h1, h2⟩ i hi1 hi2 x hx
      by_cases e : i = k
      · subst e; exact h2 x hx
      · exact h1 i (by omega) hi2 x hx
    · intro h
      exact ⟨fun i hi1 hi2 => h i (by omega) hi2, fun x hx => h k (Nat.le_refl _) (by omega) x hx⟩
theorem starts_iff {L : List Tsk} (hL : GoodT L) {S : List Int} : startsB L S = true ↔ Valid L S := by
  have := stO_iff (S := S) (L := L) L.length 0 (by omega) (by omega)
  rw [List.drop_zero] at this
  unfold startsB
  rw [this]
  constructor
  · intro h q i hn
    have := h i (Nat.zero_le _) hn.1 _ hn.2
    simpa using this
  · intro h i _ hi x hx
    obtain ⟨q, rfl, hn⟩ := nd_of hL hi hx
    simpa using h q i hn
theorem early_valid {L : List Tsk} (hL : GoodT L) : Valid L (earlyF L) := fun _ _ h => early_nd hL h
/-- the earliest starts are the least -/
theorem early_least {L : List Tsk} (hL : GoodT L) {S : List Int} (h0 : ∀ i, i < L.length → 0 ≤ S.getD i 0) (hS : Valid L S) : ∀ j, j < L.length → tE L j ≤ S.getD j 0 := by
  intro j
  induction j using Nat.strongRecOn with
  | _ j ih =>
    intro hj
    rcases early_tight hL hj with h | ⟨q, hn, h⟩
    · rw [h]; exact h0 j hj
    · have h1 := hn.lt hL
      have h2 := ih q h1 (by omega)
      have h3 := hS q j hn
      omega
theorem end_ge {L : List Tsk} {S : List Int} {j : Nat} (hj : j < L.length) : S.getD j 0 + tT L j ≤ endF L S := (endF_le.1 (Int.le_refl (endF L S))).2 j hj
theorem end_pos {L : List Tsk} {S : List Int} : 0 ≤ endF L S := (endF_le.1 (Int.le_refl (endF L S))).1
theorem end_at {L : List Tsk} {S : List Int} : endF L S = 0 ∨ ∃ j, j < L.length ∧ S.getD j 0 + tT L j = endF L S := by
  by_cases h : ∃ j, j < L.length ∧ S.getD j 0 + tT L j = endF L S
  · exact .inr h
  · left
    have h0 := end_pos (L := L) (S := S)
    by_cases e : endF L S = 0
    · exact e
    · exfalso
      have : endF L S ≤ endF L S - 1 := endF_le.2 ⟨by omega, fun j hj => by
        have h1 := end_ge (S := S) hj
        have h2 : S.getD j 0 + tT L j ≠ endF L S := fun e' => h ⟨j, hj, e'⟩
        have h3 : S.getD j 0 + tT L j = S.getD j 0 + (L.getD j noTsk).time := rfl
        omega⟩
      omega
theorem end_mono {L : List Tsk} {S R : List Int} (h : ∀ j, j < L.length → S.getD j 0 ≤ R.getD j 0) : endF L S ≤ endF L R :=
  endF_le.2 ⟨end_pos, fun j hj => by
    have h1 := h j hj
    have h2 : R.getD j 0 + tT L j ≤ endF L R := end_ge hj
    have h3 : tT L j = (L.getD j noTsk).time := rfl
    omega⟩

/-! ### Latest starts -/
theorem lateJ_spec {L : List Tsk} {i n : Nat} : ∀ (ks s : List Int), s.length = n → i < n → (∀ x ∈ ks, 0 ≤ x ∧ x < (i : Int)) →
    (lateJ L i ks s).length = n ∧ (∀ j, i ≤ j → (lateJ L i ks s).getD j 0 = s.getD j 0) ∧ (∀ j, (lateJ L i ks s).getD j 0 ≤ s.getD j 0) ∧ (∀ x ∈ ks, (lateJ L i ks s).getD x.toNat 0 ≤ s.getD i 0 - tT L x.toNat) ∧
      ∀ j, (lateJ L i ks s).getD j 0 = s.getD j 0 ∨ ((j : Int) ∈ ks ∧ (lateJ L i ks s).getD j 0 = s.getD i 0 - tT L j) := by
  intro ks
  induction ks with
  | nil => intro s h1 h2 _; exact ⟨h1, fun _ _ => rfl, fun _ => Int.le_refl _, by simp, fun _ => .inl rfl⟩
  | cons k ks ih =>
    intro s h1 h2 h3
    have hk := h3 k (List.mem_cons_self ..)
    rw [lateJ_cons]
    obtain ⟨e1, e2, e3, e4, e5⟩ := ih (s.set k.toNat (min (s.getD k.toNat 0) (s.getD i 0 - (L.getD k.toNat noTsk).time))) (by rw [List.length_set]; exact h1) h2 (fun x hx => h3 x (List.mem_cons_of_mem _ hx))
    have hi : (s.set k.toNat (min (s.getD k.toNat 0) (s.getD i 0 - (L.getD k.toNat noTsk).time))).getD i 0 = s.getD i 0 := getD_set_other (by omega)
    rw [hi] at e4 e5
    have hle : ∀ j, (s.set k.toNat (min (s.getD k.toNat 0) (s.getD i 0 - (L.getD k.toNat noTsk).time))).getD j 0 ≤ s.getD j 0 := fun j => by
      by_cases e : k.toNat = j
      · subst e; rw [getD_set_same (by omega)]; omega
      · rw [getD_set_other e]; exact Int.le_refl _
    refine ⟨e1, fun j hj => by rw [e2 j hj, getD_set_other (by omega)], fun j => Int.le_trans (e3 j) (hle j), fun x hx => ?_, fun j => ?_⟩
    · rcases List.mem_cons.1 hx with rfl | hx
      · have := e3 x.toNat
        rw [getD_set_same (by omega)] at this
        show _ ≤ _ - (L.getD x.toNat noTsk).time
        omega
      · exact e4 x hx
    · rcases e5 j with h | ⟨h, h'⟩
      · by_cases e : k.toNat = j
        · subst e
          rw [getD_set_same (by omega)] at h
          by_cases e' : s.getD k.toNat 0 ≤ s.getD i 0 - (L.getD k.toNat noTsk).time
          · left; omega
          · right
            refine ⟨?_, by show _ = _ - (L.getD k.toNat noTsk).time; omega⟩
            rw [show ((k.toNat : Nat) : Int) = k by omega]; exact List.mem_cons_self ..
        · rw [getD_set_other e] at h; exact .inl h
      · exact .inr ⟨List.mem_cons_of_mem _ h, h'⟩
theorem lateK_spec {L : List Tsk} (hL : GoodT L) : ∀ (k : Nat) (s : List Int), k ≤ L.length → s.length = L.length →
    (∀ j, k ≤ j + 1 → (lateK L k s).getD j 0 = s.getD j 0) ∧ (∀ j, (lateK L k s).getD j 0 ≤ s.getD j 0) ∧ (∀ q i, i < k → Nd L q i → (lateK L k s).getD q 0 ≤ (lateK L k s).getD i 0 - tT L q) ∧
      ∀ j, (lateK L k s).getD j 0 = s.getD j 0 ∨ ∃ i, Nd L j i ∧ (lateK L k s).getD j 0 = (lateK L k s).getD i 0 - tT L j := by
  intro k
  induction k with
  | zero => intro s _ _; exact ⟨fun _ _ => rfl, fun _ => Int.le_refl _, fun q i h => by omega, fun _ => .inl rfl⟩
  | succ k ih =>
    intro s hk hs
    rw [lateK_succ]
    obtain ⟨a1, a2, a3, a4, a5⟩ := lateJ_spec (L := L) (i := k) (n := L.length) (tN L k) s hs (by omega) (hL.2 k (by omega)).1
    obtain ⟨b1, b2, b3, b4⟩ := ih (lateJ L k (L.getD k noTsk).needs s) (by omega) a1
    refine ⟨fun j hj => ?_, fun j => Int.le_trans (b2 j) (a3 j), fun q i hi hn => ?_, fun j => ?_⟩
    · rw [b1 j (by omega), a2 j (by omega)]
    · by_cases e : i = k
      · subst e
        have h1 := a4 _ hn.2
        rw [Int.toNat_natCast] at h1
        have h2 := b2 q
        rw [b1 i (by omega), a2 i (Nat.le_refl _)]
        exact Int.le_trans h2 h1
      · exact b3 q i (by omega) hn
    · rcases b4 j with h | h
      · rcases a5 j with h' | ⟨h', h''⟩
        · left; rw [h]; exact h'
        · right
          refine ⟨k, ⟨by omega, h'⟩, ?_⟩
          rw [b1 k (by omega), a2 k (Nat.le_refl _), h]; exact h''
      · exact .inr h
abbrev tL (L : List Tsk) (e : Int) (j : Nat) : Int := (lateF L e).getD j 0
theorem late_le {L : List Tsk} (hL : GoodT L) {e : Int} {j : Nat} (hj : j < L.length) : tL L e j ≤ e - tT L j := by
  have := (lateK_spec hL L.length (late0 L e) (Nat.le_refl _) (by simp [late0])).2.1 j
  rwa [late0_at hj] at this
theorem late_nd {L : List Tsk} (hL : GoodT L) {e : Int} {q i : Nat} (h : Nd L q i) : tL L e q + tT L q ≤ tL L e i := by
  have := (lateK_spec hL L.length (late0 L e) (Nat.le_refl _) (by simp [late0])).2.2.1 q i h.1 h
  have h1 : tL L e q ≤ tL L e i - tT L q := this
  omega
theorem late_tight {L : List Tsk} (hL : GoodT L) {e : Int} {j : Nat} (hj : j < L.length) : tL L e j = e - tT L j ∨ ∃ i, Nd L j i ∧ tL L e j = tL L e i - tT L j := by
  have := (lateK_spec hL L.length (late0 L e) (Nat.le_refl _) (by simp [late0])).2.2.2 j
  rw [late0_at hj] at this
  exact this
/-- no latest start is ahead of the earliest -/
theorem late_ge {L : List Tsk} (hL : GoodT L) {e : Int} (he : endF L (earlyF L) ≤ e) : ∀ d j, L.length - j ≤ d → j < L.length → tE L j ≤ tL L e j := by
  intro d
  induction d with
  | zero => intro j h1 h2; omega
  | succ d ih =>
    intro j h1 h2
    rcases late_tight hL (e := e) h2 with h | ⟨i, hn, h⟩
    · have : tE L j + tT L j ≤ endF L (earlyF L) := end_ge h2
      omega
    · have h3 := hn.lt hL
      have h4 := ih i (by have := hn.1; omega) hn.1
      have h5 := early_nd hL hn
      omega
theorem late_valid {L : List Tsk} (hL : GoodT L) {e : Int} : Valid L (lateF L e) := fun _ _ h => late_nd hL h

/-! ### Floats -/
theorem float_at {L : List Tsk} (hL : GoodT L) {j : Nat} (hj : j < L.length) : (floatF L).getD j 0 = tL L (endF L (earlyF L)) j - tE L j := by
  have h1 := (lateF_ok (e := endF L (earlyF L)) hL).1
  unfold floatF diffF
  rw [h1]
  simp [List.getD, hj]
theorem float_pos {L : List Tsk} (hL : GoodT L) {j : Nat} (hj : j < L.length) : 0 ≤ (floatF L).getD j 0 := by
  rw [float_at hL hj]
  have := late_ge hL (Int.le_refl _) L.length j (by omega) hj
  omega
theorem frL_spec (S : List Int) (i : Nat) (t : Int) (L : List Tsk) : ∀ (d k : Nat) (m : Int), d = L.length - k → k ≤ L.length →
    frL S i t k (L.drop k) m ≤ m ∧ (∀ j, k ≤ j → j < L.length → (i : Int) ∈ tN L j → frL S i t k (L.drop k) m ≤ S.getD j 0 - S.getD i 0 - t) ∧
      (frL S i t k (L.drop k) m = m ∨ ∃ j, k ≤ j ∧ j < L.length ∧ (i : Int) ∈ tN L j ∧ frL S i t k (L.drop k) m = S.getD j 0 - S.getD i 0 - t) := by
  intro d
  induction d with
  | zero =>
    intro k m hd hk
    rw [List.drop_eq_nil_of_le (by omega), frL_nil]
    exact ⟨Int.le_refl _, fun j h1 h2 => by omega, .inl rfl⟩
  | succ d ih =>
    intro k m hd hk
    rw [drop_cons L noTsk k (by omega)]
    rcases Bool.eq_false_or_eq_true (hasB (L.getD k noTsk).needs (i : Int)) with h | h
    · rw [frL_yes h]
      obtain ⟨h1, h2, h3⟩ := ih (k + 1) (min m (S.getD k 0 - S.getD i 0 - t)) (by omega) (by omega)
      refine ⟨by omega, fun j hj1 hj2 hm => ?_, ?_⟩
      · by_cases e : j = k
        · subst e; omega
        · exact h2 j (by omega) hj2 hm
      · rcases h3 with h3 | ⟨j, hj1, hj2, hm, h3⟩
        · by_cases e : m ≤ S.getD k 0 - S.getD i 0 - t
          · left; omega
          · right; exact ⟨k, Nat.le_refl _, by omega, hasB_memF h, by omega⟩
        · exact .inr ⟨j, by omega, hj2, hm, h3⟩
    · rw [frL_no h]
      obtain ⟨h1, h2, h3⟩ := ih (k + 1) m (by omega) (by omega)
      refine ⟨h1, fun j hj1 hj2 hm => ?_, ?_⟩
      · by_cases e : j = k
        · subst e
          exfalso
          have : hasB (L.getD j noTsk).needs (i : Int) = true := by
            unfold hasB; rw [List.any_eq_true]; exact ⟨_, hm, by simp⟩
          rw [h] at this; cases this
        · exact h2 j (by omega) hj2 hm
      · rcases h3 with h3 | ⟨j, hj1, hj2, hm, h3⟩
        · exact .inl h3
        · exact .inr ⟨j, by omega, hj2, hm, h3⟩
theorem free_at {L : List Tsk} {j : Nat} (hj : j < L.length) : (freeF L).getD j 0 = freeAt L j := by simp [freeF, List.getD, hj]
theorem free_pos {L : List Tsk} (hL : GoodT L) {j : Nat} (hj : j < L.length) : 0 ≤ (freeF L).getD j 0 ∧ (freeF L).getD j 0 ≤ (floatF L).getD j 0 := by
  rw [free_at hj, freeAt_all hL hj, float_at hL hj]
  have hs := frL_spec (earlyF L) j (tT L j) L L.length 0 (endF L (earlyF L) - (earlyF L).getD j 0 - (L.getD j noTsk).time) (by omega) (by omega)
  rw [List.drop_zero] at hs
  obtain ⟨h1, h2, h3⟩ := hs
  have he : tE L j + tT L j ≤ endF L (earlyF L) := end_ge hj
  obtain ⟨r, hr⟩ : ∃ r, frL (earlyF L) j (tT L j) 0 L (endF L (earlyF L) - (earlyF L).getD j 0 - (L.getD j noTsk).time) = r := ⟨_, rfl⟩
  rw [hr] at h1 h2 h3 
  show 0 ≤ frL (earlyF L) j (tT L j) 0 L (endF L (earlyF L) - (earlyF L).getD j 0 - (L.getD j noTsk).time) ∧ frL (earlyF L) j (tT L j) 0 L (endF L (earlyF L) - (earlyF L).getD j 0 - (L.getD j noTsk).time) ≤ _
  rw [hr]
  have h1' : r ≤ endF L (earlyF L) - tE L j - tT L j := h1
  constructor
  · rcases h3 with h3 | ⟨i, _, hi, hm, h3⟩
    · have h3' : r = endF L (earlyF L) - tE L j - tT L j := h3
      omega
    · have h5 := early_nd hL (show Nd L j i from ⟨hi, hm⟩)
      have h3' : r = tE L i - tE L j - tT L j := h3
      omega
  · rcases late_tight hL (e := endF L (earlyF L)) hj with h | ⟨i, hn, h⟩
    · omega
    · have h4 := late_ge hL (Int.le_refl (endF L (earlyF L))) L.length i (by omega) hn.1
      have h6 : r ≤ tE L i - tE L j - tT L j := h2 i (Nat.zero_le _) hn.1 hn.2
      omega
theorem plcL_mem (n : Int) : ∀ (l : List Int) (i : Nat) (acc : List Int) (x : Int), x ∈ plcL n i l acc ↔ x ∈ acc ∨ ∃ j, j < l.length ∧ l.getD j 0 = n ∧ x = ((i + j : Nat) : Int) := by
  intro l
  induction l with
  | nil => intro i acc x; rw [plcL_nil]; simp
  | cons y l ih =>
    intro i acc x
    have hsh : (∃ j, j < (y :: l).length ∧ (y :: l).getD j 0 = n ∧ x = ((i + j : Nat) : Int)) ↔ ((y = n ∧ x = (i : Int)) ∨ ∃ j, j < l.length ∧ l.getD j 0 = n ∧ x = ((i + 1 + j : Nat) : Int)) := by
      constructor
      · rintro ⟨j, h1, h2, h3⟩
        cases j with
        | zero => left; exact ⟨by simpa using h2, by simpa using h3⟩
        | succ j => right; exact ⟨j, by simpa using h1, by simpa using h2, by rw [h3]; congr 1; omega⟩
      · rintro (⟨h1, h2⟩ | ⟨j, h1, h2, h3⟩)
        · exact ⟨0, by simp, by simpa using h1, by simpa using h2⟩
        · exact ⟨j + 1, by simpa using h1, by simpa using h2, by rw [h3]; congr 1; omega⟩
    rw [hsh]
    rcases Bool.eq_false_or_eq_true (y == n) with t | t
    · rw [plcL_yes t, ih]
      rw [beq_iff_eq] at t
      simp only [List.mem_append, List.mem_singleton]
      constructor
      · rintro ((h | h) | h)
        · exact .inl h
        · exact .inr (.inl ⟨t, h⟩)
        · exact .inr (.inr h)
      · rintro (h | ⟨_, h⟩ | h)
        · exact .inl (.inl h)
        · exact .inl (.inr h)
        · exact .inr h
    · rw [plcL_no t, ih]
      rw [beq_eq_false_iff_ne] at t
      constructor
      · rintro (h | h)
        · exact .inl h
        · exact .inr (.inr h)
      · rintro (h | ⟨h, _⟩ | h)
        · exact .inl h
        · exact absurd h t
        · exact .inr h
theorem hasB_places {U : List Int} {n : Int} {i : Nat} (hi : i < U.length) : hasB (placesF U n) (i : Int) = (U.getD i 0 == n) := by
  rw [Bool.eq_iff_iff, beq_iff_eq]
  unfold hasB
  rw [List.any_eq_true]
  constructor
  · rintro ⟨x, hx, h⟩
    rw [beq_iff_eq] at h
    subst h
    unfold placesF at hx
    rw [plcL_mem] at hx
    rcases hx with h | ⟨j, h1, h2, h3⟩
    · simp at h
    · obtain rfl : i = j := by omega
      exact h2
  · intro h
    refine ⟨(i : Int), ?_, by simp⟩
    unfold placesF
    rw [plcL_mem]
    exact .inr ⟨i, hi, h, by simp⟩

/-! ### Critical chains -/
/-- a way of tight steps leads to the end -/
inductive Rch (L : List Tsk) (e : Int) : Nat → Prop
  | stop {i : Nat} : i < L.length → tE L i + tT L i = e → Rch L e i
  | step {i k : Nat} : Nd L i k → tE L k = tE L i + tT L i → Rch L e k → Rch L e i
theorem Rch.lt {L : List Tsk} (hL : GoodT L) {e : Int} {i : Nat} (h : Rch L e i) : i < L.length := by
  cases h with
  | stop h _ => exact h
  | step hn _ _ => have := hn.lt hL; have := hn.1; omega
theorem rch_zero {L : List Tsk} (hL : GoodT L) {e : Int} : ∀ j, Rch L e j → ∃ i, Rch L e i ∧ tE L i = 0 := by
  intro j
  induction j using Nat.strongRecOn with
  | _ j ih =>
    intro h
    rcases early_tight hL (h.lt hL) with h0 | ⟨q, hn, hq⟩
    · exact ⟨j, h, h0⟩
    · exact ih q (hn.lt hL) (.step hn hq h)
theorem rch_some {L : List Tsk} (hL : GoodT L) (h0 : 0 < L.length) : ∃ j, Rch L (endF L (earlyF L)) j := by
  rcases end_at (L := L) (S := earlyF L) with h | ⟨j, hj, h⟩
  · refine ⟨0, .stop h0 ?_⟩
    have h1 : tE L 0 + tT L 0 ≤ endF L (earlyF L) := end_ge h0
    have h2 := early_pos hL h0
    have h3 := (hL.2 0 h0).2.1
    have h4 : tT L 0 = (L.getD 0 noTsk).time := rfl
    omega
  · exact ⟨j, .stop hj h⟩
theorem hasB_nd {L : List Tsk} {q k : Nat} (h : Nd L q k) : hasB (tN L k) (q : Int) = true := by
  unfold hasB; rw [List.any_eq_true]; exact ⟨_, h.2, by simp⟩
theorem critL_isSome {S : List Int} {i : Nat} {x : Int} {f : Nat → Option (List Int)} {L : List Tsk} : ∀ (d k : Nat), d = L.length - k → k ≤ L.length → (∃ j, k ≤ j ∧ j < L.length ∧ hasB (tN L j) (i : Int) = true ∧ S.getD j 0 = x ∧ (f j).isSome = true) → (critL S i x f k (L.drop k)).isSome = true := by
  intro d
  induction d with
  | zero => intro k hd hk ⟨j, h1, h2, _⟩; omega
  | succ d ih =>
    intro k hd hk ⟨j, h1, h2, h3, h4, h5⟩
    rw [drop_cons L noTsk k (by omega)]
    have hrec : j ≠ k → (critL S i x f (k + 1) (L.drop (k + 1))).isSome = true := fun e => ih (k + 1) (by omega) (by omega) ⟨j, by omega, h2, h3, h4, h5⟩
    cases hf : f k with
    | some r =>
      rcases Bool.eq_false_or_eq_true (hasB (L.getD k noTsk).needs (i : Int)) with t | t
      · rcases Bool.eq_false_or_eq_true (S.getD k 0 == x) with t2 | t2
        · rw [critL_some t t2 hf]; rfl
        · rw [critL_no2 t2]
          exact hrec (fun e => by subst e; rw [h4] at t2; simp at t2)
      · rw [critL_no1 t]
        exact hrec (fun e => by subst e; rw [show hasB (L.getD j noTsk).needs (i : Int) = true from h3] at t; cases t)
    | none =>
      rw [critL_none hf]
      exact hrec (fun e => by subst e; rw [hf] at h5; cases h5)
theorem critF_isSome {L : List Tsk} (hL : GoodT L) {e : Int} : ∀ d i, L.length - i ≤ d → Rch L e i → (critF L (earlyF L) e d i).isSome = true := by
  intro d
  induction d with
  | zero => intro i h1 h2; have := h2.lt hL; omega
  | succ d ih =>
    intro i h1 h2
    rcases Bool.eq_false_or_eq_true ((earlyF L).getD i 0 + (L.getD i noTsk).time == e) with t | t
    · rw [critF_end t]; rfl
    · rw [critF_go t]
      have hlt := h2.lt hL
      cases h2 with
      | stop _ h => rw [show (earlyF L).getD i 0 + (L.getD i noTsk).time = e from h] at t; simp at t
      | step hn hk hr =>
        rename_i k
        have h3 := hn.lt hL
        have := critL_isSome (S := earlyF L) (i := i) (x := (earlyF L).getD i 0 + (L.getD i noTsk).time) (f := critF L (earlyF L) e d) (L := L) _ (i + 1) rfl (by omega) ⟨k, by omega, hn.1, hasB_nd hn, hk, ih k (by have := hn.1; omega) hr⟩
        rw [Option.isSome_map]; exact this
theorem chnL_isSome {f : Nat → Option (List Int)} : ∀ (xs : List Int) (i : Nat), (∃ j, j < xs.length ∧ xs.getD j 0 = 0 ∧ (f (i + j)).isSome = true) → (chnL f i xs).isSome = true := by
  intro xs
  induction xs with
  | nil => intro i ⟨j, h, _⟩; simp at h
  | cons x xs ih =>
    intro i ⟨j, h1, h2, h3⟩
    rcases Bool.eq_false_or_eq_true (x == 0) with t | t
    · cases hf : f i with
      | some r => rw [chnL_some t hf]; rfl
      | none =>
        rw [chnL_none hf]
        cases j with
        | zero => rw [Nat.add_zero, hf] at h3; cases h3
        | succ j => exact ih (i + 1) ⟨j, by simpa using h1, by simpa using h2, by rw [show i + 1 + j = i + (j + 1) by omega]; exact h3⟩
    · rw [chnL_no t]
      cases j with
      | zero => simp at h2; rw [h2] at t; simp at t
      | succ j => exact ih (i + 1) ⟨j, by simpa using h1, by simpa using h2, by rw [show i + 1 + j = i + (j + 1) by omega]; exact h3⟩
theorem chn_isSome {L : List Tsk} (hL : GoodT L) (h0 : 0 < L.length) : (chnF L).isSome = true := by
  obtain ⟨j, hj⟩ := rch_some hL h0
  obtain ⟨i, hi, hz⟩ := rch_zero hL j hj
  have hlt := hi.lt hL
  exact chnL_isSome _ 0 ⟨i, by rw [(earlyF_ok hL).1]; exact hlt, hz, by rw [Nat.zero_add]; exact critF_isSome hL _ _ (by omega) hi⟩
theorem chn_nil {L : List Tsk} (h0 : L.length = 0) : chnF L = none := by
  obtain rfl : L = [] := List.length_eq_zero_iff.1 h0
  rfl
/-- a chain of tight steps to the end -/
def Tight (L : List Tsk) (e : Int) : List Int → Prop
  | [] => False
  | [x] => ∃ i : Nat, x = (i : Int) ∧ i < L.length ∧ tE L i + tT L i = e
  | x :: y :: r => (∃ i k : Nat, x = (i : Int) ∧ y = (k : Int) ∧ Nd L i k ∧ tE L k = tE L i + tT L i) ∧ Tight L e (y :: r)
theorem critL_has {S : List Int} {i : Nat} {x : Int} {f : Nat → Option (List Int)} {L : List Tsk} {r : List Int} : ∀ (d k : Nat), d = L.length - k → k ≤ L.length → critL S i x f k (L.drop k) = some r → ∃ j, k ≤ j ∧ j < L.length ∧ hasB (tN L j) (i : Int) = true ∧ S.getD j 0 = x ∧ f j = some r := by
  intro d
  induction d with
  | zero => intro k hd hk h; rw [List.drop_eq_nil_of_le (by omega), critL_nil] at h; cases h
  | succ d ih =>
    intro k hd hk h
    rw [drop_cons L noTsk k (by omega)] at h
    have hrec : critL S i x f (k + 1) (L.drop (k + 1)) = some r → ∃ j, k ≤ j ∧ j < L.length ∧ hasB (tN L j) (i : Int) = true ∧ S.getD j 0 = x ∧ f j = some r := fun h => by
      obtain ⟨j, h1, h2⟩ := ih (k + 1) (by omega) (by omega) h
      exact ⟨j, by omega, h2⟩
    rcases Bool.eq_false_or_eq_true (hasB (L.getD k noTsk).needs (i : Int)) with t | t
    · rcases Bool.eq_false_or_eq_true (S.getD k 0 == x) with t2 | t2
      · cases hf : f k with
        | none => rw [critL_none hf] at h; exact hrec h
        | some r' =>
          rw [critL_some t t2 hf] at h
          cases h
          exact ⟨k, Nat.le_refl _, by omega, t, by simpa using t2, hf⟩
      · rw [critL_no2 t2] at h; exact hrec h
    · rw [critL_no1 t] at h; exact hrec h
theorem critF_tight {L : List Tsk} {e : Int} : ∀ d i r, i < L.length → critF L (earlyF L) e d i = some r → Tight L e r ∧ ∃ r', r = (i : Int) :: r' := by
  intro d
  induction d with
  | zero => intro i r _ h; simp [critF] at h
  | succ d ih =>
    intro i r hi h
    rcases Bool.eq_false_or_eq_true ((earlyF L).getD i 0 + (L.getD i noTsk).time == e) with t | t
    · rw [critF_end t] at h
      cases h
      exact ⟨⟨i, rfl, hi, beq_iff_eq.1 t⟩, [], rfl⟩
    · rw [critF_go t] at h
      cases hc : critL (earlyF L) i ((earlyF L).getD i 0 + (L.getD i noTsk).time) (critF L (earlyF L) e d) (i + 1) (L.drop (i + 1)) with
      | none => rw [hc] at h; simp at h
      | some q =>
        rw [hc] at h
        simp only [Option.map_some, Option.some.injEq] at h
        subst h
        obtain ⟨j, h1, h2, h3, h4, h5⟩ := critL_has _ (i + 1) rfl (by omega) hc
        obtain ⟨h6, q', rfl⟩ := ih j q h2 h5
        refine ⟨⟨⟨i, j, rfl, rfl, ⟨h2, ?_⟩, h4⟩, h6⟩, _, rfl⟩
        exact hasB_memF h3
theorem chn_tight {L : List Tsk} (hL : GoodT L) {r : List Int} (h : chnF L = some r) : Tight L (endF L (earlyF L)) r ∧ ∃ (i : Nat) (r' : List Int), r = (i : Int) :: r' ∧ tE L i = 0 := by
  have key : ∀ (xs : List Int) (i : Nat), (∀ j, j < xs.length → i + j < L.length ∧ xs.getD j 0 = tE L (i + j)) → chnL (critF L (earlyF L) (endF L (earlyF L)) L.length) i xs = some r → ∃ j, j < L.length ∧ tE L j = 0 ∧ critF L (earlyF L) (endF L (earlyF L)) L.length j = some r := by
    intro xs
    induction xs with
    | nil => intro i _ h; rw [chnL_nil] at h; cases h
    | cons x xs ih =>
      intro i hx h
      have hrec : chnL (critF L (earlyF L) (endF L (earlyF L)) L.length) (i + 1) xs = some r → ∃ j, j < L.length ∧ tE L j = 0 ∧ critF L (earlyF L) (endF L (earlyF L)) L.length j = some r := ih (i + 1) (fun j hj => by
        have := hx (j + 1) (by simpa using hj)
        rw [show i + (j + 1) = i + 1 + j by omega] at this
        simpa using this)
      rcases Bool.eq_false_or_eq_true (x == 0) with t | t
      · cases hf : critF L (earlyF L) (endF L (earlyF L)) L.length i with
        | none => rw [chnL_none hf] at h; exact hrec h
        | some r' =>
          rw [chnL_some t hf] at h
          cases h
          have := hx 0 (by simp)
          exact ⟨i, by omega, by rw [← show x = tE L i by simpa using this.2]; simpa using t, hf⟩
      · rw [chnL_no t] at h; exact hrec h
  obtain ⟨j, h1, h2, h3⟩ := key (earlyF L) 0 (fun j hj => by rw [(earlyF_ok hL).1] at hj; rw [Nat.zero_add]; exact ⟨hj, rfl⟩) h
  obtain ⟨h4, r', h5⟩ := critF_tight _ _ _ h1 h3
  exact ⟨h4, j, r', h5, h2⟩
/-- all tasks of a tight chain are critical -/
theorem tight_late {L : List Tsk} (hL : GoodT L) : ∀ r, Tight L (endF L (earlyF L)) r → ∀ x ∈ r, ∃ i : Nat, x = (i : Int) ∧ i < L.length ∧ tL L (endF L (earlyF L)) i = tE L i
  | [], h => h.elim
  | [x], ⟨i, h1, h2, h3⟩ => fun y hy => by
    rw [List.mem_singleton] at hy
    subst hy
    refine ⟨i, h1, h2, ?_⟩
    have h4 := late_ge hL (Int.le_refl (endF L (earlyF L))) L.length i (by omega) h2
    have h5 := late_le hL (e := endF L (earlyF L)) h2
    omega
  | x :: y :: r, ⟨⟨i, k, h1, h2, h3, h4⟩, h5⟩ => fun z hz => by
    have ih := tight_late hL (y :: r) h5
    rcases List.mem_cons.1 hz with rfl | hz
    · obtain ⟨k', h6, h7, h8⟩ := ih y (List.mem_cons_self ..)
      obtain rfl : k = k' := by omega
      have h9 := late_nd hL (e := endF L (earlyF L)) h3
      have hi : i < L.length := by have := h3.lt hL; omega
      have h10 := late_ge hL (Int.le_refl (endF L (earlyF L))) L.length i (by omega) hi
      exact ⟨i, h1, hi, by omega⟩
    · exact ih z hz
theorem chain_float {L : List Tsk} (hL : GoodT L) {r : List Int} (h : chnF L = some r) : ∀ x ∈ r, ∃ i : Nat, x = (i : Int) ∧ i < L.length ∧ (floatF L).getD i 0 = 0 := fun x hx => by
  obtain ⟨i, h1, h2, h3⟩ := tight_late hL r (chn_tight hL h).1 x hx
  exact ⟨i, h1, h2, by rw [float_at hL h2]; omega⟩

end Go.Proofs.Ytegeelldcomnnaa
