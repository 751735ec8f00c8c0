/- What the law FnFloats needs: plain facts. -/
import Derived.Test.YtegeelldcomnnaaProjQ
import Derived.Test.YtegeelldcomnnaaMost
namespace Go.Proofs.Ytegeelldcomnnaa
open Go.RowKit
open Go.Lib (hid)

theorem floatsB_yes' {L : List Tsk} (t : tasksB L = true) : floatsB L = (floatF L, true) := by unfold floatsB; rw [t]; rfl
theorem floatsB_no' {L : List Tsk} (t : tasksB L = false) : floatsB L = ([], false) := by unfold floatsB; rw [t]; rfl
theorem critB_yes' {L : List Tsk} (t : tasksB L = true) : critB L = (placesF (floatF L) 0, true) := by unfold critB; rw [t]; rfl
theorem critB_no' {L : List Tsk} (t : tasksB L = false) : critB L = ([], false) := by unfold critB; rw [t]; rfl
/-- all tasks of the chain are critical -/
theorem chn_crit {L : List Tsk} (t : tasksB L = true) {C : List Int} {b : Bool} (h : chnB L = (C, b)) : ∀ x ∈ C, hasB (placesF (floatF L) 0) x = true := fun x hx => by
  have hL := good_of_tasksB t
  cases hc : chnF L with
  | none => rw [chnB_none t hc] at h; cases h; simp at hx
  | some r =>
    rw [chnB_some t hc] at h
    cases h
    obtain ⟨i, rfl, hi, hf⟩ := chain_float hL hc x hx
    rw [hasB_places (by rw [floatF_len hL]; exact hi), hf]; rfl
/-- latest starts that are given are starts -/
theorem late_are {U : List Tsk} {E : Int} {K : List Int} (h : lateB U E = (K, true)) : areStB U K = (true, true) := by
  rcases Bool.eq_false_or_eq_true (tasksB U) with t | t
  · rcases Bool.eq_false_or_eq_true (inB E 0 100000) with t2 | t2
    · by_cases t3 : endF U (earlyF U) ≤ E
      · rw [lateB_yes t t2 (decide_eq_true t3)] at h
        cases h
        have hL := good_of_tasksB t
        have he := inB_iff.1 t2
        have h1 := (lateF_ok (e := E) hL).1
        have hall : allB (lateF U E) 0 100000 = true := allB_iff.2 (fun j hj => by
          rw [h1] at hj
          have h2 := late_ge hL t3 U.length j (by omega) hj
          have h3 := early_pos hL hj
          have h4 := late_le hL (e := E) hj
          have h5 := (hL.2 j hj).2
          have h6 : tT U j = (U.getD j noTsk).time := rfl
          have h7 : tL U E j = (lateF U E).getD j 0 := rfl
          omega)
        unfold areStB timesB
        rw [t, h1, hall, (starts_iff hL).2 (late_valid hL)]
        simp
      · exfalso
        unfold lateB at h
        rw [t, t2, decide_eq_false t3] at h
        simp at h
    · exfalso
      unfold lateB at h
      rw [t, t2] at h
      simp at h
  · exfalso
    unfold lateB at h
    rw [t] at h
    simp at h
/-- what the most at once says -/
theorem most_parts {X : List Tsk} {Y : List Int} {t c : Int} (h : mostB X Y = (t, c, true)) : tasksB X = true ∧ Y.length = X.length ∧ (∀ j, j < Y.length → 0 ≤ Y.getD j 0 ∧ Y.getD j 0 ≤ 100000) ∧ cntF X Y t = c ∧ 0 < c := by
  rcases Bool.eq_false_or_eq_true (timesB X Y) with t1 | t1
  · rcases Bool.eq_false_or_eq_true (startsB X Y) with t2 | t2
    · by_cases t3 : 0 < (mostF X Y).2
      · rw [mostB_yes t1 t2 t3] at h
        simp only [Prod.mk.injEq, and_true] at h
        obtain ⟨a1, a2, a3⟩ := timesB_yes t1
        have hr : ∀ j, j < Y.length → 0 ≤ Y.getD j 0 ∧ Y.getD j 0 ≤ 100000 := fun j hj => allB_at a3 hj
        have hS : ∀ x ∈ Y, 0 ≤ x := fun x hx => by
          obtain ⟨j, hj, rfl⟩ := List.getElem_of_mem hx
          have := hr j hj
          rw [show Y.getD j 0 = Y[j] by simp [List.getD, hj]] at this
          exact this.1
        refine ⟨a1, a2, hr, ?_, by rw [← h.2]; exact t3⟩
        rcases mostF_best (L := X) hS with ⟨h1, _⟩ | ⟨_, _, h3, _⟩
        · exfalso; omega
        · rw [← h.1, ← h.2]; exact h3
      · rw [mostB_no3 t3] at h; simp at h
    · rw [mostB_no2 t2] at h; simp at h
  · rw [mostB_no1 t1] at h; simp at h

end Go.Proofs.Ytegeelldcomnnaa
