/- Twice the length of a given split: both programs' functions. -/
import Derived.Test.YtnkbfgnmodfemaaGreatDoorLength
namespace Go.Proofs.YtnkbfgnmodfemaaGreatDoor
open Go.RowKit
open Go.Lib (hid)

theorem risB_in {lo hi : Int} : ∀ {p : Option Int} {l : List Int}, risB lo hi p l = true → ∀ x ∈ l, lo ≤ x ∧ x ≤ hi := by
  intro p l
  induction l generalizing p with
  | nil => intro _ x hx; cases hx
  | cons y ys ih =>
    intro h x hx
    rw [risB_cons, Bool.and_eq_true, Bool.and_eq_true] at h
    cases List.mem_cons.1 hx with
    | inl e => subst e; exact inB_iff.1 h.1
    | inr e => exact ih h.2.2 x e
theorem split_in {n : Nat} {a : List Int} (h : splitB n a = true) : ∀ x ∈ a, 0 ≤ x ∧ x < (n : Int) := by
  rw [splitB, Bool.and_eq_true, Bool.and_eq_true] at h
  intro x hx
  have := risB_in h.2.2 x hx
  omega

theorem risB_short {lo hi : Int} : ∀ {y : Int} {l : List Int}, risB lo hi (some y) l = true → y ≤ hi → (l.length : Int) ≤ hi - y := by
  intro y l
  induction l generalizing y with
  | nil => intro _ h; simp; omega
  | cons x xs ih =>
    intro h hy
    rw [risB_cons, Bool.and_eq_true, Bool.and_eq_true] at h
    have h1 := inB_iff.1 h.1
    have h2 := ih h.2.2 h1.2
    have h3 := of_decide_eq_true h.2.1
    simp only [List.length_cons]
    omega
theorem split_short {n : Nat} {a : List Int} (h : splitB n a = true) : a.length ≤ 1048576 := by
  rw [splitB, Bool.and_eq_true, Bool.and_eq_true] at h
  have hn := inB_iff.1 h.1
  have hr := h.2.2
  cases a with
  | nil => simp
  | cons x xs =>
    rw [risB_cons, Bool.and_eq_true, Bool.and_eq_true] at hr
    have h1 := inB_iff.1 hr.1
    have h2 := risB_short hr.2.2 h1.2
    simp only [List.length_cons]
    omega

theorem treeB_met {M : List (List Int)} (h : treeB M = true) : metB M = true := by
  rw [treeB, Bool.and_eq_true] at h; exact h.1

set_option maxHeartbeats 1000000 in
theorem slTree_c (v : Value) (M : List (List Int)) (w : World) (h : RMat w v M) :
    Calls Tryz.prog 28 #[v] w fun e w' => e = .returned (.bool (treeB M)) ∧ Below w.heap.size w w' := by
  rcases Bool.eq_false_or_eq_true (metB M) with t | t
  · have HQ : Hid ((badF M).isNone = treeB M) := by show _ = _; rw [treeB, t]; rfl
    have HL := hid (getL_zero M)
    go_enter Tryz.func28, Tryz.ntmps28
    go_wp2_with fail
    refine (meGood_b _ M _ h).mono ?_
    rintro e w1 ⟨rfl, hb1⟩
    rw [t]
    have h1 := h.keep hb1
    have HB1 := hid hb1
    clear hb1
    go_wp2_with fail
    refine (meBad_c _ M _ t h1).mono ?_
    rintro e w2 ⟨u, rfl, hF, hb2⟩
    have HB2 := hid (HB1.out.trans (hb2.mono HB1.out.size))
    obtain ⟨au, nu, cu, rfl⟩ := hF.form3
    have hnu := fints_len3 hF
    rw [← hnu] at HL
    clear hF hb2 hnu
    go_wp2
    go_ret
    exact ⟨ret_bool (by rw [← HQ.out, ← HL.out]), HB2.out⟩
  · go_enter Tryz.func28, Tryz.ntmps28
    go_wp2_with fail
    refine (meGood_b _ M _ h).mono ?_
    rintro e w1 ⟨rfl, hb1⟩
    rw [t]
    go_wp2
    go_ret
    exact ⟨ret_bool (by rw [treeB, t]; rfl), hb1⟩

def lengthB (M : List (List Int)) (S : List Int) : Int × Bool := if treeB M && splitB M.length S then (lenF M S, true) else (0, false)
theorem lengthB_yes {M : List (List Int)} {S : List Int} (h : treeB M = true) (h2 : splitB M.length S = true) : lengthB M S = (lenF M S, true) := by rw [lengthB, h, h2]; rfl
theorem lengthB_no {M : List (List Int)} {S : List Int} (h : treeB M = false) : lengthB M S = (0, false) := by rw [lengthB, h]; rfl
theorem lengthB_no2 {M : List (List Int)} {S : List Int} (h : treeB M = true) (h2 : splitB M.length S = false) : lengthB M S = (0, false) := by rw [lengthB, h, h2]; rfl

set_option maxHeartbeats 2000000 in
theorem sTwiceLengthOf_u (v : Value) (M : List (List Int)) (u : Value) (S : List Int) (w : World) (h : RMat w v M) (h' : RInts w u S) :
    Calls Tryz.prog 23 #[v, u] w fun e w' => e = .returned (.tuple #[.int .i64 (lengthB M S).1, .bool (lengthB M S).2]) ∧ Below w.heap.size w w' := by
  have HR := hid h
  have HU := hid h'
  obtain ⟨a, cap, rfl, q1, q2, hc⟩ := h
  clear hc
  unfold maxLen at q2
  rcases Bool.eq_false_or_eq_true (treeB M) with t | t
  · rcases Bool.eq_false_or_eq_true (splitB M.length S) with t2 | t2
    all_goals
      have HT := hid t
      have HT2 := hid t2
      go_enter Tryz.func23, Tryz.ntmps23
      go_wp2_with fail
      refine (slTree_c _ M _ HR.out).mono ?_
      rintro e w1 ⟨rfl, hb1⟩
      rw [t]
      have H1 := hid (HR.out.keep hb1)
      have U1 := HU.out.keep hb1
      have HB1 := hid hb1
      clear hb1
      go_wp2_with (go_at_call 36; refine (slGood_c _ _ _ _ U1).mono ?_; rintro e w' ⟨rfl, rfl⟩; rw [t2])
    · refine (slTwice_c _ _ M S _ (treeB_met HT.out) H1.out U1 (split_in HT2.out) (split_short HT2.out)).mono ?_
      rintro e w2 ⟨rfl, hb2⟩
      have HB2 := hid (HB1.out.trans (hb2.mono HB1.out.size))
      clear hb2
      go_wp2
      go_ret2
      exact ⟨by rw [lengthB_yes HT.out HT2.out]; rfl, HB2.out⟩
    · go_ret2
      exact ⟨by rw [lengthB_no2 HT.out HT2.out]; rfl, HB1.out⟩
  · have HT := hid t
    go_enter Tryz.func23, Tryz.ntmps23
    go_wp2_with fail
    refine (slTree_c _ M _ HR.out).mono ?_
    rintro e w1 ⟨rfl, hb1⟩
    rw [t]
    go_wp2
    go_ret2
    exact ⟨by rw [lengthB_no HT.out]; rfl, hb1⟩

set_option maxHeartbeats 2000000 in
theorem iTwiceLengthOf_u (v : Value) (M : List (List Int)) (u : Value) (S : List Int) (w : World) (h : RMat w v M) (h' : RInts w u S) :
    Calls Tryz.prog 14 #[v, u] w fun e w' => e = .returned (.tuple #[.int .i64 (lengthB M S).1, .bool (lengthB M S).2]) ∧ Below w.heap.size w w' := by
  have HR := hid h
  have HU := hid h'
  obtain ⟨a, cap, rfl, q1, q2, hc⟩ := h
  clear hc
  unfold maxLen at q2
  rcases Bool.eq_false_or_eq_true (treeB M) with t | t
  · rcases Bool.eq_false_or_eq_true (splitB M.length S) with t2 | t2
    all_goals
      have HT := hid t
      have HT2 := hid t2
      go_enter Tryz.func14, Tryz.ntmps14
      go_wp2_with fail
      refine (isTreeMetric_c _ M _ HR.out).mono ?_
      rintro e w1 ⟨rfl, hb1⟩
      rw [t]
      have H1 := hid (HR.out.keep hb1)
      have U1 := HU.out.keep hb1
      have HB1 := hid hb1
      clear hb1
      go_wp2_with (go_at_call 32; refine (isSplit_c _ _ _ _ U1).mono ?_; rintro e w' ⟨rfl, rfl⟩; rw [t2])
    · refine (twiceLength_c _ _ M S _ (treeB_met HT.out) H1.out U1 (split_in HT2.out) (split_short HT2.out)).mono ?_
      rintro e w2 ⟨rfl, hb2⟩
      have HB2 := hid (HB1.out.trans (hb2.mono HB1.out.size))
      clear hb2
      go_wp2
      go_ret2
      exact ⟨by rw [lengthB_yes HT.out HT2.out]; rfl, HB2.out⟩
    · go_ret2
      exact ⟨by rw [lengthB_no2 HT.out HT2.out]; rfl, HB1.out⟩
  · have HT := hid t
    go_enter Tryz.func14, Tryz.ntmps14
    go_wp2_with fail
    refine (isTreeMetric_c _ M _ HR.out).mono ?_
    rintro e w1 ⟨rfl, hb1⟩
    rw [t]
    go_wp2
    go_ret2
    exact ⟨by rw [lengthB_no HT.out]; rfl, hb1⟩

end Go.Proofs.YtnkbfgnmodfemaaGreatDoor
