/- Projects, plain: proved ends, delays. -/
import Derived.Test.YtegeelldcomnnaaProjT
import Derived.Test.YtegeelldcomnnaaDelay
import Derived.Test.YtegeelldcomnnaaProved2
namespace Go.Proofs.Ytegeelldcomnnaa
open Go.RowKit
open Go.Lib (hid)

/-- a tight chain is a chain, and its times fill the end behind its first start -/
theorem tight_chR {L : List Tsk} (hL : GoodT L) {e : Int} : ∀ (r : List Int) (p : Option Int), Tight L e r → (∀ q x r', p = some q → r = x :: r' → hasB (needsAt L x) q = true) → chR L p r = true
  | [], _, h, _ => h.elim
  | [x], p, ⟨i, h1, h2, h3⟩, hp => by
    rw [chR_cons, chR_nil, Bool.and_true, Bool.and_eq_true]
    refine ⟨inB_iff.2 (by omega), ?_⟩
    cases p with
    | none => rfl
    | some q => rw [linkB_some]; exact hp q x [] rfl rfl
  | x :: y :: r, p, ⟨⟨i, k, h1, h2, h3, h4⟩, h5⟩, hp => by
    rw [chR_cons, Bool.and_eq_true, Bool.and_eq_true]
    have h6 := h3.lt hL
    have h7 := h3.1
    refine ⟨inB_iff.2 (by omega), ?_, tight_chR hL (y :: r) (some x) h5 (fun q z r' hq hz => ?_)⟩
    · cases p with
      | none => rfl
      | some q => rw [linkB_some]; exact hp q x _ rfl rfl
    · cases hq; cases hz
      subst h1 h2
      unfold needsAt
      rw [Int.toNat_natCast]
      exact hasB_nd h3
theorem tight_sum {L : List Tsk} {e : Int} : ∀ (r : List Int) (s : Int), Tight L e r → ∃ (i : Nat) (r' : List Int), r = (i : Int) :: r' ∧ sumC L r s = s + (e - tE L i)
  | [], _, h => h.elim
  | [x], s, ⟨i, h1, h2, h3⟩ => ⟨i, [], by rw [h1], by
    subst h1
    rw [sumC_cons, sumC_nil, Int.toNat_natCast]
    have : tT L i = (L.getD i noTsk).time := rfl
    omega⟩
  | x :: y :: r, s, ⟨⟨i, k, h1, h2, h3, h4⟩, h5⟩ => by
    obtain ⟨k', r', h6, h7⟩ := tight_sum (y :: r) (s + (L.getD x.toNat noTsk).time) h5
    refine ⟨i, y :: r, by rw [h1], ?_⟩
    rw [sumC_cons, h7]
    subst h1
    rw [Int.toNat_natCast]
    simp only [List.cons.injEq] at h6
    obtain rfl : k = k' := by omega
    have : tT L i = (L.getD i noTsk).time := rfl
    omega
theorem early_times {L : List Tsk} (t : tasksB L = true) : timesB L (earlyF L) = true := by
  have hL := good_of_tasksB t
  have h1 := earlyF_ok hL
  have h2 := hL.1
  unfold timesB
  rw [t, h1.1]
  simp only [beq_self_eq_true, Bool.true_and]
  unfold allB
  rw [List.all_eq_true]
  intro x hx
  obtain ⟨i, hi, rfl⟩ := List.getElem_of_mem hx
  have h3 := h1.2 i hi
  rw [show (earlyF L).getD i 0 = (earlyF L)[i] by simp [List.getD, hi]] at h3
  rw [inB_iff]
  omega
theorem early_are {L : List Tsk} (t : tasksB L = true) : areStB L (earlyF L) = (true, true) := by
  unfold areStB
  rw [early_times t, (starts_iff (good_of_tasksB t)).2 (early_valid (good_of_tasksB t))]
  rfl
/-- the critical chain proves the end -/
theorem chn_proves {L : List Tsk} (t : tasksB L = true) {r : List Int} (h : chnF L = some r) : provB L (earlyF L) r = (true, true) := by
  have hL := good_of_tasksB t
  obtain ⟨h1, i, r', h2, h3⟩ := chn_tight hL h
  obtain ⟨i', r'', h4, h5⟩ := tight_sum r 0 h1
  have hh : i = i' := by
    rw [h2] at h4
    simp only [List.cons.injEq] at h4
    omega
  subst hh
  have h6 : provOk L (earlyF L) r = true := by
    unfold provOk chainB
    rw [early_times t, (starts_iff hL).2 (early_valid hL), tight_chR hL r none h1 (fun q x r' hq => by cases hq), h2]
    simp
  rw [provB_yes h6, h5, h3]
  simp
/-- a chain's times are no more than the end of any starts -/
theorem chain_le {L : List Tsk} (hL : GoodT L) {S : List Int} (hS : Valid L S) : ∀ (r : List Int) (p : Option Int) (s : Int), chR L p r = true → ∀ x r', r = x :: r' → sumC L r s ≤ s + (endF L S - S.getD x.toNat 0)
  | [], _, _, _ => fun x r' h => by cases h
  | [x], p, s, h => fun y r' hy => by
    cases hy
    rw [chR_cons, Bool.and_eq_true] at h
    have h1 := inB_iff.1 h.1
    rw [sumC_cons, sumC_nil]
    have h2 : S.getD x.toNat 0 + tT L x.toNat ≤ endF L S := end_ge (by omega)
    have : tT L x.toNat = (L.getD x.toNat noTsk).time := rfl
    omega
  | x :: y :: r, p, s, h => fun z r' hz => by
    cases hz
    rw [chR_cons, Bool.and_eq_true, Bool.and_eq_true] at h
    have h1 := inB_iff.1 h.1
    have h2 := h.2.2
    have h3 := h2
    rw [chR_cons, Bool.and_eq_true, Bool.and_eq_true, linkB_some] at h3
    have h4 := inB_iff.1 h3.1
    have ih := chain_le hL hS (y :: r) (some x) (s + (L.getD x.toNat noTsk).time) h2 y r rfl
    rw [sumC_cons]
    have h5 : Nd L x.toNat y.toNat := ⟨by omega, by
      have := hasB_memF h3.2.1
      unfold needsAt at this
      rw [show ((x.toNat : Nat) : Int) = x by omega]; exact this⟩
    have h6 := hS _ _ h5
    have : tT L x.toNat = (L.getD x.toNat noTsk).time := rfl
    omega
/-- a proved end is the project's -/
theorem prov_end {L : List Tsk} {S C : List Int} (h : provB L S C = (true, true)) : endF L S = endF L (earlyF L) ∧ tasksB L = true ∧ S.length = L.length ∧ ∀ i, i < L.length → 0 ≤ S.getD i 0 ∧ S.getD i 0 ≤ 100000 := by
  rcases Bool.eq_false_or_eq_true (provOk L S C) with t | t
  · rw [provB_yes t] at h
    simp only [Prod.mk.injEq, and_true, beq_iff_eq] at h
    unfold provOk at t
    rw [Bool.and_eq_true, Bool.and_eq_true] at t
    obtain ⟨t1, t2, t3⟩ := t
    obtain ⟨a1, a2, a3⟩ := timesB_yes t1
    have hL := good_of_tasksB a1
    have hr : ∀ i, i < L.length → 0 ≤ S.getD i 0 ∧ S.getD i 0 ≤ 100000 := fun i hi => allB_at a3 (by omega)
    have hv := (starts_iff hL).1 t2
    have h1 := end_mono (early_least hL (fun i hi => (hr i hi).1) hv)
    refine ⟨?_, a1, a2, hr⟩
    unfold chainB at t3
    rw [Bool.and_eq_true, decide_eq_true_eq] at t3
    cases C with
    | nil => simp at t3
    | cons x C =>
      have h2 := chain_le hL (early_valid hL) (x :: C) none 0 t3.1 x C rfl
      have h4 := t3.1
      rw [chR_cons, Bool.and_eq_true] at h4
      have h5 := inB_iff.1 h4.1
      have h3 := early_pos hL (j := x.toNat) (by omega)
      have h6 : tE L x.toNat = (earlyF L).getD x.toNat 0 := rfl
      omega
  · rw [provB_no t] at h; simp at h

/-! ### Delays -/
theorem delay_nd {L : List Tsk} {i : Nat} {d : Int} {q j : Nat} : Nd (delayF L i d) q j ↔ Nd L q j := by
  unfold Nd tN
  rw [delayF_len]
  by_cases e : i = j
  · subst e
    constructor
    · rintro ⟨h1, h2⟩; rw [delayF_same h1] at h2; exact ⟨h1, h2⟩
    · rintro ⟨h1, h2⟩; refine ⟨h1, ?_⟩; rw [delayF_same h1]; exact h2
  · rw [delayF_other e]
theorem delay_time {L : List Tsk} {i : Nat} {d : Int} {j : Nat} (hj : j < L.length) : tT (delayF L i d) j = tT L j + (if j = i then d else 0) := by
  unfold tT
  by_cases e : i = j
  · subst e; rw [delayF_same hj, if_pos rfl]
  · rw [delayF_other e, if_neg (fun h => e h.symm)]; omega
section
variable {L : List Tsk} {i : Nat} {d : Int} (hL : GoodT L) (hD : GoodT (delayF L i d)) (hd : 0 ≤ d)
include hL hD hd
theorem delay_low : ∀ j, j < L.length → tE L j ≤ tE (delayF L i d) j := by
  intro j
  induction j using Nat.strongRecOn with
  | _ j ih =>
    intro hj
    have hj' : j < (delayF L i d).length := by rw [delayF_len]; exact hj
    rcases early_tight hL hj with h | ⟨q, hn, h⟩
    · have := early_pos hD hj'; omega
    · have h1 := hn.lt hL
      have h2 := ih q h1 (by omega)
      have h3 := early_nd hD (delay_nd.2 hn)
      rw [delay_time (by omega)] at h3
      split at h3 <;> omega
omit hd in
theorem delay_before : ∀ j, j < L.length → j ≤ i → tE (delayF L i d) j ≤ tE L j := by
  intro j
  induction j using Nat.strongRecOn with
  | _ j ih =>
    intro hj hji
    have hj' : j < (delayF L i d).length := by rw [delayF_len]; exact hj
    rcases early_tight hD hj' with h | ⟨q, hn, h⟩
    · have := early_pos hL hj; omega
    · have h1 := hn.lt hD
      have h2 := ih q h1 (by omega) (by omega)
      have h3 := early_nd hL (delay_nd.1 hn)
      rw [delay_time (by omega), if_neg (by omega)] at h
      omega
theorem delay_high : ∀ j, j < L.length → tE (delayF L i d) j ≤ tE L j + d := by
  intro j
  induction j using Nat.strongRecOn with
  | _ j ih =>
    intro hj
    have hj' : j < (delayF L i d).length := by rw [delayF_len]; exact hj
    rcases early_tight hD hj' with h | ⟨q, hn, h⟩
    · have := early_pos hL hj; omega
    · have h1 := hn.lt hD
      have h3 := early_nd hL (delay_nd.1 hn)
      rw [delay_time (by omega)] at h
      by_cases e : q = i
      · have h2 := delay_before hL hD q (by omega) (by omega)
        rw [if_pos e] at h; omega
      · have h2 := ih q h1 (by omega)
        rw [if_neg e] at h; omega
theorem delay_end : endF L (earlyF L) ≤ endF (delayF L i d) (earlyF (delayF L i d)) ∧ endF (delayF L i d) (earlyF (delayF L i d)) ≤ endF L (earlyF L) + d := by
  constructor
  · refine endF_le.2 ⟨end_pos, fun j hj => ?_⟩
    have h1 := delay_low hL hD hd j hj
    have h2 : tE (delayF L i d) j + tT (delayF L i d) j ≤ endF (delayF L i d) (earlyF (delayF L i d)) := end_ge (by rw [delayF_len]; exact hj)
    rw [delay_time hj] at h2
    have h3 : tT L j = (L.getD j noTsk).time := rfl
    have h4 : tE L j = (earlyF L).getD j 0 := rfl
    split at h2 <;> omega
  · refine endF_le.2 ⟨by have := end_pos (L := L) (S := earlyF L); omega, fun j hj => ?_⟩
    rw [delayF_len] at hj
    have h1 : tE L j + tT L j ≤ endF L (earlyF L) := end_ge hj
    have h2 := delay_time (i := i) (d := d) hj
    have h3 : tT (delayF L i d) j = ((delayF L i d).getD j noTsk).time := rfl
    have h4 : tE (delayF L i d) j = (earlyF (delayF L i d)).getD j 0 := rfl
    by_cases e : j = i
    · have h5 := delay_before hL hD j hj (by omega)
      rw [if_pos e] at h2; omega
    · have h5 := delay_high hL hD hd j hj
      rw [if_neg e] at h2; omega
/-- what is late at a critical task is late at the end -/
theorem delay_late : ∀ n j, L.length - j ≤ n → j < L.length → tL L (endF L (earlyF L)) j = tE L j → tE L j + tT L j + d ≤ tE (delayF L i d) j + tT (delayF L i d) j → endF L (earlyF L) + d ≤ endF (delayF L i d) (earlyF (delayF L i d)) := by
  intro n
  induction n with
  | zero => intro j h1 h2; omega
  | succ n ih =>
    intro j h1 h2 h3 h4
    rcases late_tight hL (e := endF L (earlyF L)) h2 with h | ⟨k, hn, h⟩
    · have h5 : tE (delayF L i d) j + tT (delayF L i d) j ≤ endF (delayF L i d) (earlyF (delayF L i d)) := end_ge (by rw [delayF_len]; exact h2)
      omega
    · have h5 := hn.lt hL
      have h6 := late_ge hL (Int.le_refl (endF L (earlyF L))) L.length k (by omega) hn.1
      have h7 := early_nd hL hn
      have h8 := early_nd hD (delay_nd.2 hn)
      have h9 := delay_time (i := i) (d := d) hn.1
      refine ih k (by have := hn.1; omega) hn.1 (by omega) ?_
      split at h9 <;> omega
theorem delay_critical (hi : i < L.length) (hf : (floatF L).getD i 0 = 0) : endF (delayF L i d) (earlyF (delayF L i d)) = endF L (earlyF L) + d := by
  have h1 := (delay_end hL hD hd).2
  rw [float_at hL hi] at hf
  have h2 := delay_low hL hD hd i hi
  have h3 := delay_time (i := i) (d := d) hi
  rw [if_pos rfl] at h3
  have h4 := delay_late hL hD hd L.length i (by omega) hi (by omega) (by omega)
  omega
end

end Go.Proofs.Ytegeelldcomnnaa
