/- The project's end and the least starts: both programs' functions. -/
import Derived.Test.YtegeelldcomnnaaEarly
namespace Go.Proofs.Ytegeelldcomnnaa
open Go.RowKit
open Go.Lib (hid)

/-- a list of numbers and a bool, the list in new memory -/
def RetIntsB (w : World) (p : List Int × Bool) (e : Ending) (w' : World) : Prop := ∃ v, e = .returned (.tuple #[v, .bool p.2]) ∧ FInts w' w.heap.size w'.heap.size v p.1 ∧ Below w.heap.size w w'
theorem retIntsB_no {w w' : World} {p : List Int × Bool} (hb : Below w.heap.size w w') (hp : p = ([], false)) (e : Ending) (he : e = .returned (.tuple #[.slice none 0 0, .bool false])) : RetIntsB w p e w' := by
  subst hp; exact ⟨_, he, ints_nil _ _ _, hb⟩

def endB (L : List Tsk) : Int × Bool := if tasksB L then (endF L (earlyF L), true) else (0, false)
theorem endB_yes {L : List Tsk} (h : tasksB L = true) : endB L = (endF L (earlyF L), true) := by rw [endB, h]; rfl
theorem endB_no {L : List Tsk} (h : tasksB L = false) : endB L = (0, false) := by rw [endB, h]; rfl
def earlyB (L : List Tsk) : List Int × Bool := if tasksB L then (earlyF L, true) else ([], false)
theorem earlyB_yes {L : List Tsk} (h : tasksB L = true) : earlyB L = (earlyF L, true) := by rw [earlyB, h]; rfl
theorem earlyB_no {L : List Tsk} (h : tasksB L = false) : earlyB L = ([], false) := by rw [earlyB, h]; rfl
theorem earlyB_len (L : List Tsk) : (earlyB L).1.length ≤ 12 := by
  rcases Bool.eq_false_or_eq_true (tasksB L) with h | h
  · rw [earlyB_yes h]; have := earlyF_ok (good_of_tasksB h); have := (tasksB_at h).1; show (earlyF L).length ≤ 12; omega
  · rw [earlyB_no h]; simp

theorem startsOk_bound {S : List Int} (h : StartsOk S) (hl : S.length ≤ 12) : ∀ j, j < S.length → -200000 ≤ S.getD j 0 ∧ S.getD j 0 ≤ 200000 := fun j hj => by have := h j hj; omega
theorem good_times {L : List Tsk} (h : GoodT L) : ∀ k, k < L.length → 0 ≤ (L.getD k noTsk).time ∧ (L.getD k noTsk).time ≤ 2000 := fun k hk => (h.2 k hk).2

set_option maxHeartbeats 1000000 in
theorem sProjectEnd_u (v : Value) (L : List Tsk) (w : World) (h : RTasks w v L) :
    Calls Try.prog 47 #[v] w fun e w' => e = .returned (.tuple #[.int .i64 (endB L).1, .bool (endB L).2]) ∧ Below w.heap.size w w' := by
  rcases Bool.eq_false_or_eq_true (tasksB L) with t | t
  · have hg := good_of_tasksB t
    have hok := earlyF_ok hg
    have HB := hid (endB_yes t)
    have HG := hid hg; clear hg
    have HK := hid hok; clear hok
    have HL12 := hid (HG.out.1)
    go_enter Try.func47, Try.ntmps47
    go_wp2_with fail
    refine (pjGood_c _ L _ h).mono ?_
    rintro e w1 ⟨rfl, hb1⟩
    rw [t]
    have h1 := h.keep hb1
    go_wp2_with fail
    refine (pjEarly_c _ L _ h1 HG.out).mono ?_
    rintro e w2 ⟨u, rfl, hF, hb2⟩
    have h2 := h1.keep hb2
    have hR := hF.r
    have HB2 := hid (hb1.trans (hb2.mono hb1.size))
    clear hb1 hb2 h h1 hF
    go_wp2_with fail
    refine (pjEnd_c _ _ L _ _ h2 hR HK.out.1 (startsOk_bound HK.out.2 (by rw [HK.out.1]; exact HL12.out)) (good_times HG.out)).mono ?_
    rintro e w3 ⟨rfl, hb3⟩
    have HB3 := hid (HB2.out.trans (hb3.mono HB2.out.size))
    clear hb3 h2 hR
    go_wp2
    go_ret2
    exact ⟨by rw [HB.out]; rfl, HB3.out⟩
  · have HB := hid (endB_no t)
    go_enter Try.func47, Try.ntmps47
    go_wp2_with fail
    refine (pjGood_c _ L _ h).mono ?_
    rintro e w1 ⟨rfl, hb1⟩
    rw [t]
    go_wp2
    go_ret2
    exact ⟨by rw [HB.out]; rfl, hb1⟩

set_option maxHeartbeats 1000000 in
theorem sEarliestStarts_u (v : Value) (L : List Tsk) (w : World) (h : RTasks w v L) :
    Calls Try.prog 45 #[v] w (RetIntsB w (earlyB L)) := by
  rcases Bool.eq_false_or_eq_true (tasksB L) with t | t
  · have hg := good_of_tasksB t
    have HB := hid (earlyB_yes t)
    have HG := hid hg; clear hg
    go_enter Try.func45, Try.ntmps45
    go_wp2_with fail
    refine (pjGood_c _ L _ h).mono ?_
    rintro e w1 ⟨rfl, hb1⟩
    rw [t]
    have h1 := h.keep hb1
    go_wp2_with fail
    refine (pjEarly_c _ L _ h1 HG.out).mono ?_
    rintro e w2 ⟨u, rfl, hF, hb2⟩
    have HB2 := hid (hb1.trans (hb2.mono hb1.size))
    have HF := hid (hF.mono hb1.size (Nat.le_refl _))
    clear hb1 hb2 h h1 hF
    go_wp2
    go_ret2
    exact ⟨u, by rw [HB.out]; rfl, by rw [HB.out]; exact HF.out, HB2.out⟩
  · have HB := hid (earlyB_no t)
    go_enter Try.func45, Try.ntmps45
    go_wp2_with fail
    refine (pjGood_c _ L _ h).mono ?_
    rintro e w1 ⟨rfl, hb1⟩
    rw [t]
    go_wp2
    go_ret2
    exact retIntsB_no hb1 HB.out _ rfl

set_option maxHeartbeats 1000000 in
theorem iProjectEnd_u (v : Value) (L : List Tsk) (w : World) (h : RTasks w v L) :
    Calls Try.prog 46 #[v] w fun e w' => e = .returned (.tuple #[.int .i64 (endB L).1, .bool (endB L).2]) ∧ Below w.heap.size w w' := by
  rcases Bool.eq_false_or_eq_true (tasksB L) with t | t
  · have hg := good_of_tasksB t
    have hok := earlyF_ok hg
    have HB := hid (endB_yes t)
    have HG := hid hg; clear hg
    have HK := hid hok; clear hok
    have HL12 := hid (HG.out.1)
    go_enter Try.func46, Try.ntmps46
    go_wp2_with fail
    refine (areTasks_c _ L _ h).mono ?_
    rintro e w1 ⟨rfl, hb1⟩
    rw [t]
    have h1 := h.keep hb1
    go_wp2_with fail
    refine (earliest_c _ L _ h1 HG.out).mono ?_
    rintro e w2 ⟨u, rfl, hF, hb2⟩
    have h2 := h1.keep hb2
    have hR := hF.r
    have HB2 := hid (hb1.trans (hb2.mono hb1.size))
    clear hb1 hb2 h h1 hF
    go_wp2_with fail
    refine (endOf_c _ _ L _ _ h2 hR HK.out.1 (startsOk_bound HK.out.2 (by rw [HK.out.1]; exact HL12.out)) (good_times HG.out)).mono ?_
    rintro e w3 ⟨rfl, hb3⟩
    have HB3 := hid (HB2.out.trans (hb3.mono HB2.out.size))
    clear hb3 h2 hR
    go_wp2
    go_ret2
    exact ⟨by rw [HB.out]; rfl, HB3.out⟩
  · have HB := hid (endB_no t)
    go_enter Try.func46, Try.ntmps46
    go_wp2_with fail
    refine (areTasks_c _ L _ h).mono ?_
    rintro e w1 ⟨rfl, hb1⟩
    rw [t]
    go_wp2
    go_ret2
    exact ⟨by rw [HB.out]; rfl, hb1⟩

set_option maxHeartbeats 1000000 in
theorem iEarliestStarts_u (v : Value) (L : List Tsk) (w : World) (h : RTasks w v L) :
    Calls Try.prog 44 #[v] w (RetIntsB w (earlyB L)) := by
  rcases Bool.eq_false_or_eq_true (tasksB L) with t | t
  · have hg := good_of_tasksB t
    have HB := hid (earlyB_yes t)
    have HG := hid hg; clear hg
    go_enter Try.func44, Try.ntmps44
    go_wp2_with fail
    refine (areTasks_c _ L _ h).mono ?_
    rintro e w1 ⟨rfl, hb1⟩
    rw [t]
    have h1 := h.keep hb1
    go_wp2_with fail
    refine (earliest_c _ L _ h1 HG.out).mono ?_
    rintro e w2 ⟨u, rfl, hF, hb2⟩
    have HB2 := hid (hb1.trans (hb2.mono hb1.size))
    have HF := hid (hF.mono hb1.size (Nat.le_refl _))
    clear hb1 hb2 h h1 hF
    go_wp2
    go_ret2
    exact ⟨u, by rw [HB.out]; rfl, by rw [HB.out]; exact HF.out, HB2.out⟩
  · have HB := hid (earlyB_no t)
    go_enter Try.func44, Try.ntmps44
    go_wp2_with fail
    refine (areTasks_c _ L _ h).mono ?_
    rintro e w1 ⟨rfl, hb1⟩
    rw [t]
    go_wp2
    go_ret2
    exact retIntsB_no hb1 HB.out _ rfl

end Go.Proofs.Ytegeelldcomnnaa
