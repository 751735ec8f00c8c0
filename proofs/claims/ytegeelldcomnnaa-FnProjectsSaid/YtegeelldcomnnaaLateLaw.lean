/- The latest starts are times just if the end is no earlier than the least one. Plain. -/
import Derived.Test.YtegeelldcomnnaaLate
import Derived.Test.YtegeelldcomnnaaAreStarts
namespace Go.Proofs.Ytegeelldcomnnaa
open Go.RowKit
open Go.Lib (hid)

theorem startOf_le {S : List Int} {L : List Tsk} {b : Int} : ∀ (ks : List Int) (s : Int), startOf S L ks s ≤ b ↔ s ≤ b ∧ ∀ k ∈ ks, S.getD k.toNat 0 + (L.getD k.toNat noTsk).time ≤ b := by
  intro ks
  induction ks with
  | nil => intro s; simp [startOf_nil]
  | cons k ks ih =>
    intro s
    rw [startOf_cons, ih]
    simp only [List.mem_cons, forall_eq_or_imp]
    constructor
    · rintro ⟨h1, h2⟩; exact ⟨by omega, by omega, h2⟩
    · rintro ⟨h1, h2, h3⟩; exact ⟨by omega, h3⟩
theorem startOf_congr {S S' : List Int} {L : List Tsk} : ∀ (ks : List Int) (s : Int), (∀ k ∈ ks, S.getD k.toNat 0 = S'.getD k.toNat 0) → startOf S L ks s = startOf S' L ks s := by
  intro ks
  induction ks with
  | nil => intro s _; rfl
  | cons k ks ih =>
    intro s h
    rw [startOf_cons, startOf_cons, h k List.mem_cons_self]
    exact ih _ (fun x hx => h x (List.mem_cons_of_mem _ hx))
theorem getD_app_lt {acc : List Int} {s : Int} {j : Nat} (h : j < acc.length) : (acc ++ [s]).getD j 0 = acc.getD j 0 := by simp [List.getD, List.getElem?_append_left h]
theorem getD_app_at {acc : List Int} {s : Int} : (acc ++ [s]).getD acc.length 0 = s := by simp [List.getD]
/-- each start is the greatest end of those that it needs -/
theorem earlyL_at {L : List Tsk} (hL : GoodT L) : ∀ (d k : Nat) (acc : List Int), d = L.length - k → k ≤ L.length → acc.length = k → (∀ j, j < k → acc.getD j 0 = startOf acc L (L.getD j noTsk).needs 0) →
    ∀ j, j < L.length → (earlyL L acc (L.drop k)).getD j 0 = startOf (earlyL L acc (L.drop k)) L (L.getD j noTsk).needs 0 := by
  intro d
  induction d with
  | zero => intro k acc hd hk hl hA j hj; rw [List.drop_eq_nil_of_le (by omega), earlyL_nil]; exact hA j (by omega)
  | succ d ih =>
    intro k acc hd hk hl hA j hj
    rw [drop_cons L noTsk k (by omega), earlyL_cons]
    refine ih (k + 1) _ (by omega) (by omega) (by simp [hl]) (fun i hi => ?_) j hj
    have hc : ∀ i, i ≤ k → startOf (acc ++ [startOf acc L (L.getD k noTsk).needs 0]) L (L.getD i noTsk).needs 0 = startOf acc L (L.getD i noTsk).needs 0 := by
      intro i hi
      refine startOf_congr _ _ (fun x hx => ?_)
      have := (hL.2 i (by omega)).1 x hx
      exact getD_app_lt (by omega)
    rw [hc i (by omega)]
    by_cases e : i < k
    · rw [getD_app_lt (by omega)]; exact hA i e
    · obtain rfl : i = k := by omega
      subst hl
      rw [getD_app_at]
theorem earlyF_at {L : List Tsk} (hL : GoodT L) {j : Nat} (hj : j < L.length) : (earlyF L).getD j 0 = startOf (earlyF L) L (L.getD j noTsk).needs 0 := by
  have := earlyL_at hL L.length 0 [] (by omega) (by omega) rfl (fun j hj => by omega) j hj
  rwa [List.drop_zero] at this
theorem earlyF_le {L : List Tsk} (hL : GoodT L) {j : Nat} (hj : j < L.length) {b : Int} : (earlyF L).getD j 0 ≤ b ↔ 0 ≤ b ∧ ∀ k ∈ (L.getD j noTsk).needs, (earlyF L).getD k.toNat 0 + (L.getD k.toNat noTsk).time ≤ b := by
  rw [earlyF_at hL hj, startOf_le]
theorem endL_le {S : List Int} {b : Int} : ∀ (ts : List Tsk) (i : Nat) (e : Int), endL S i ts e ≤ b ↔ e ≤ b ∧ ∀ j, j < ts.length → S.getD (i + j) 0 + (ts.getD j noTsk).time ≤ b := by
  intro ts
  induction ts with
  | nil => intro i e; simp [endL_nil]
  | cons t ts ih =>
    intro i e
    rw [endL_cons, ih]
    constructor
    · rintro ⟨h1, h2⟩
      refine ⟨by omega, fun j hj => ?_⟩
      cases j with
      | zero => show S.getD i 0 + t.time ≤ b; omega
      | succ j =>
        have := h2 j (by simpa using hj)
        show S.getD (i + (j + 1)) 0 + (ts.getD j noTsk).time ≤ b
        rw [show i + (j + 1) = i + 1 + j by omega]; exact this
    · rintro ⟨h1, h2⟩
      have h0 : S.getD i 0 + t.time ≤ b := h2 0 (by simp)
      refine ⟨by omega, fun j hj => ?_⟩
      have : S.getD (i + (j + 1)) 0 + (ts.getD j noTsk).time ≤ b := h2 (j + 1) (by simpa using hj)
      rw [show i + (j + 1) = i + 1 + j by omega] at this; exact this
theorem endF_le {L : List Tsk} {S : List Int} {b : Int} : endF L S ≤ b ↔ 0 ≤ b ∧ ∀ j, j < L.length → S.getD j 0 + (L.getD j noTsk).time ≤ b := by
  rw [endF, endL_le]; simp

theorem lateJ_len (L : List Tsk) (i : Nat) : ∀ (ks s : List Int), (lateJ L i ks s).length = s.length := by
  intro ks
  induction ks with
  | nil => intro s; rfl
  | cons k ks ih => intro s; rw [lateJ_cons, ih, List.length_set]
theorem lateK_len (L : List Tsk) : ∀ (k : Nat) (s : List Int), (lateK L k s).length = s.length := by
  intro k
  induction k with
  | zero => intro s; rfl
  | succ k ih => intro s; rw [lateK_succ, ih, lateJ_len]
theorem lateJ_high {L : List Tsk} {i : Nat} : ∀ (ks s : List Int), (∀ x ∈ ks, 0 ≤ x ∧ x < (i : Int)) → ∀ j, i ≤ j → (lateJ L i ks s).getD j 0 = s.getD j 0 := by
  intro ks
  induction ks with
  | nil => intro s _ j _; rfl
  | cons k ks ih =>
    intro s hk j hj
    have := hk k List.mem_cons_self
    rw [lateJ_cons, ih _ (fun x hx => hk x (List.mem_cons_of_mem _ hx)) j hj, getD_set_other (by omega)]
theorem lateJ_ge {L : List Tsk} {i : Nat} : ∀ (ks s : List Int), (∀ x ∈ ks, 0 ≤ x ∧ x < (i : Int)) → i < s.length → ∀ (j : Nat) (b : Int), j < s.length →
    (b ≤ (lateJ L i ks s).getD j 0 ↔ b ≤ s.getD j 0 ∧ ((j : Int) ∈ ks → b ≤ s.getD i 0 - (L.getD j noTsk).time)) := by
  intro ks
  induction ks with
  | nil => intro s _ _ j b _; simp [lateJ_nil]
  | cons k ks ih =>
    intro s hk hi j b hj
    have hk0 := hk k List.mem_cons_self
    rw [lateJ_cons, ih _ (fun x hx => hk x (List.mem_cons_of_mem _ hx)) (by rw [List.length_set]; exact hi) j b (by rw [List.length_set]; exact hj)]
    rw [getD_set_other (show k.toNat ≠ i by omega)]
    by_cases e : k.toNat = j
    · subst e
      rw [getD_set_same hj]
      have : ((k.toNat : Nat) : Int) = k := by omega
      simp only [List.mem_cons, this, true_or, forall_const]
      constructor
      · rintro ⟨h1, h2⟩; exact ⟨by omega, by omega⟩
      · rintro ⟨h1, h2⟩; exact ⟨by omega, fun _ => h2⟩
    · rw [getD_set_other e]
      have : ¬ (j : Int) = k := by omega
      simp only [List.mem_cons, this, false_or]
theorem lateK_high {L : List Tsk} (hL : GoodT L) : ∀ (k : Nat) (s : List Int), k ≤ L.length → ∀ j, k ≤ j + 1 → (lateK L k s).getD j 0 = s.getD j 0 := by
  intro k
  induction k with
  | zero => intro s _ j _; rfl
  | succ k ih =>
    intro s hk j hj
    rw [lateK_succ, ih _ (by omega) j (by omega)]
    exact lateJ_high _ _ (hL.2 k (by omega)).1 j (by omega)
theorem lateK_low {L : List Tsk} (hL : GoodT L) : ∀ (k : Nat) (s : List Int), k ≤ L.length → s.length = L.length → ∀ j, j < L.length → (lateK L k s).getD j 0 ≤ s.getD j 0 := by
  intro k
  induction k with
  | zero => intro s _ _ j _; exact Int.le_refl _
  | succ k ih =>
    intro s hk hs j hj
    rw [lateK_succ]
    have h1 := ih (lateJ L k (L.getD k noTsk).needs s) (by omega) (by rw [lateJ_len]; exact hs) j hj
    have h2 := ((lateJ_ge (L := L) (L.getD k noTsk).needs s (hL.2 k (by omega)).1 (by omega) j ((lateJ L k (L.getD k noTsk).needs s).getD j 0) (by omega)).1 (Int.le_refl _)).1
    omega
/-- the latest starts are no less than any starts that are so at first -/
theorem lateK_ge {L : List Tsk} (hL : GoodT L) : ∀ (k : Nat) (s : List Int), k ≤ L.length → s.length = L.length → (∀ j, j < L.length → (earlyF L).getD j 0 ≤ s.getD j 0) → ∀ j, j < L.length → (earlyF L).getD j 0 ≤ (lateK L k s).getD j 0 := by
  intro k
  induction k with
  | zero => intro s _ _ h j hj; exact h j hj
  | succ k ih =>
    intro s hk hs h j hj
    rw [lateK_succ]
    refine ih _ (by omega) (by rw [lateJ_len]; exact hs) (fun i hi => ?_) j hj
    refine (lateJ_ge _ s (hL.2 k (by omega)).1 (by omega) i _ (by omega)).2 ⟨h i hi, fun hm => ?_⟩
    have h1 := ((earlyF_le hL (j := k) (by omega) (b := (earlyF L).getD k 0)).1 (Int.le_refl _)).2 _ hm
    have h2 := h k (by omega)
    rw [Int.toNat_natCast] at h1
    omega
theorem lateK_link {L : List Tsk} (hL : GoodT L) : ∀ (k : Nat) (s : List Int), k ≤ L.length → s.length = L.length → ∀ i, i < k → ∀ j : Nat, j < L.length → (j : Int) ∈ (L.getD i noTsk).needs → (lateK L k s).getD j 0 + (L.getD j noTsk).time ≤ (lateK L k s).getD i 0 := by
  intro k
  induction k with
  | zero => intro s _ _ i hi; omega
  | succ k ih =>
    intro s hk hs i hi j hj hm
    rw [lateK_succ]
    by_cases e : i < k
    · exact ih _ (by omega) (by rw [lateJ_len]; exact hs) i e j hj hm
    · obtain rfl : i = k := by omega
      rw [lateK_high hL i _ (by omega) i (by omega), lateJ_high _ _ (hL.2 i (by omega)).1 i (Nat.le_refl _)]
      have h1 := lateK_low hL i (lateJ L i (L.getD i noTsk).needs s) (by omega) (by rw [lateJ_len]; exact hs) j hj
      have h2 := ((lateJ_ge (L := L) (L.getD i noTsk).needs s (hL.2 i (by omega)).1 (by omega) j ((lateJ L i (L.getD i noTsk).needs s).getD j 0) (by omega)).1 (Int.le_refl _)).2 hm
      omega
theorem late0_at {L : List Tsk} {e : Int} {j : Nat} (hj : j < L.length) : (late0 L e).getD j 0 = e - (L.getD j noTsk).time := by simp [late0, List.getD, List.getElem?_eq_getElem hj]
theorem late_from {L : List Tsk} (hL : GoodT L) {e : Int} (he : endF L (earlyF L) ≤ e) : ∀ j, j < L.length → (earlyF L).getD j 0 ≤ (lateF L e).getD j 0 := by
  refine lateK_ge hL _ _ (Nat.le_refl _) (by simp [late0]) (fun j hj => ?_)
  have := (endF_le.1 he).2 j hj
  rw [late0_at hj]; omega
theorem late_to {L : List Tsk} (hL : GoodT L) {e : Int} (he : 0 ≤ e) (h : ∀ j, j < L.length → 0 ≤ (lateF L e).getD j 0) : endF L (earlyF L) ≤ e := by
  have hl : (late0 L e).length = L.length := by simp [late0]
  have key : ∀ j, j < L.length → (earlyF L).getD j 0 ≤ (lateF L e).getD j 0 := by
    intro j
    induction j using Nat.strongRecOn with
    | _ j ih =>
      intro hj
      refine (earlyF_le hL hj).2 ⟨h j hj, fun k hk => ?_⟩
      have hb := (hL.2 j hj).1 k hk
      have h1 := ih k.toNat (by omega) (by omega)
      have h2 := lateK_link hL L.length (late0 L e) (Nat.le_refl _) hl j hj k.toNat (by omega) (by rw [show ((k.toNat : Nat) : Int) = k by omega]; exact hk)
      unfold lateF at h1 ⊢
      omega
  refine endF_le.2 ⟨he, fun j hj => ?_⟩
  have h1 := key j hj
  have h2 := lateK_low hL L.length (late0 L e) (Nat.le_refl _) hl j hj
  rw [late0_at hj] at h2
  unfold lateF at h1
  omega
theorem allB_iff {l : List Int} {lo hi : Int} : allB l lo hi = true ↔ ∀ j, j < l.length → lo ≤ l.getD j 0 ∧ l.getD j 0 ≤ hi := by
  refine ⟨fun h j hj => allB_at h hj, fun h => ?_⟩
  unfold allB
  rw [List.all_eq_true]
  intro x hx
  obtain ⟨j, hj, rfl⟩ := List.getElem_of_mem hx
  have := h j hj
  rw [inB_iff]
  simpa [List.getD, List.getElem?_eq_getElem hj] using this
/-- the latest starts are times just if the end is not too early -/
theorem late_iff {L : List Tsk} (hL : GoodT L) {e : Int} (he : 0 ≤ e) (he' : e ≤ 100000) : allB (lateF L e) 0 100000 = decide (endF L (earlyF L) ≤ e) := by
  have hok := lateF_ok (e := e) hL
  rw [Bool.eq_iff_iff, decide_eq_true_iff, allB_iff]
  constructor
  · intro h
    exact late_to hL he (fun j hj => (h j (by rw [hok.1]; exact hj)).1)
  · intro h j hj
    rw [hok.1] at hj
    have h1 := late_from hL h j hj
    have h2 := hok.2 j hj
    have h3 := (earlyF_ok hL).2 j (by rw [(earlyF_ok hL).1]; exact hj)
    omega

end Go.Proofs.Ytegeelldcomnnaa
