/- Twice the length of a given split: both programs' functions. -/
import Derived.Test.YtcgcgmlonhganaaGreatLength
namespace Go.Proofs.YtcgcgmlonhganaaGreat
open Go.RowKit
open Go.Lib (hid)

theorem risB_in {lo hi : Int} : ∀ {p : Option Int} {l : List Int}, risB lo hi p l = true → ∀ x ∈ l, lo ≤ x ∧ x ≤ hi := by
  intro p l
  induction l generalizing p with
  | nil => intro _ x hx; cases hx
  | cons y ys ih =>
    intro h x hx
    rw [risB_cons, Bool.and_eq_true, Bool.and_eq_true] at h
    cases List.mem_cons.1 hx with
    | inl e => subst e; exact inB_iff.1 h.1
    | inr e => exact ih h.2.2 x e
theorem split_in {n : Nat} {a : List Int} (h : splitB n a = true) : ∀ x ∈ a, 0 ≤ x ∧ x < (n : Int) := by
  rw [splitB, Bool.and_eq_true, Bool.and_eq_true] at h
  intro x hx
  have := risB_in h.2.2 x hx
  omega

theorem risB_short {lo hi : Int} : ∀ {y : Int} {l : List Int}, risB lo hi (some y) l = true → y ≤ hi → (l.length : Int) ≤ hi - y := by
  intro y l
  induction l generalizing y with
  | nil => intro _ h; simp; omega
  | cons x xs ih =>
    intro h hy
    rw [risB_cons, Bool.and_eq_true, Bool.and_eq_true] at h
    have h1 := inB_iff.1 h.1
    have h2 := ih h.2.2 h1.2
    have h3 := of_decide_eq_true h.2.1
    simp only [List.length_cons]
    omega
theorem split_short {n : Nat} {a : List Int} (h : splitB n a = true) : a.length ≤ 1048576 := by
  rw [splitB, Bool.and_eq_true, Bool.and_eq_true] at h
  have hn := inB_iff.1 h.1
  have hr := h.2.2
  cases a with
  | nil => simp
  | cons x xs =>
    rw [risB_cons, Bool.and_eq_true, Bool.and_eq_true] at hr
    have h1 := inB_iff.1 hr.1
    have h2 := risB_short hr.2.2 h1.2
    simp only [List.length_cons]
    omega

theorem treeB_met {M : List (List Int)} (h : treeB M = true) : metB M = true := by
  rw [treeB, Bool.and_eq_true] at h; exact h.1

set_option maxHeartbeats 1000000 in
theorem slTree_c (v : Value) (M : List (List Int)) (w : World) (h : RMat w v M) :
    Calls Tryz.prog 26 #[v] w fun e w' => e = .returned (.bool (treeB M)) ∧ Below w.heap.size w w' := by
  rcases Bool.eq_false_or_eq_true (metB M) with t | t
  · have HQ : Hid ((badF M).isNone = treeB M) := by show _ = _; rw [treeB, t]; rfl
    have HL := hid (getL_zero M)
    go_enter Tryz.func26, Tryz.ntmps26
    go_wp2_with fail
    refine (meGood_b _ M _ h).mono ?_
    rintro e w1 ⟨rfl, hb1⟩
    rw [t]
    have h1 := h.keep hb1
    have HB1 := hid hb1
    clear hb1
    go_wp2_with fail
    refine (meBad_c _ M _ t h1).mono ?_
    rintro e w2 ⟨u, rfl, hF, hb2⟩
    have HB2 := hid (HB1.out.trans (hb2.mono HB1.out.size))
    obtain ⟨au, nu, cu, rfl⟩ := hF.form3
    have hnu := fints_len3 hF
    rw [← hnu] at HL
    clear hF hb2 hnu
    go_wp2
    go_ret
    exact ⟨ret_bool (by rw [← HQ.out, ← HL.out]), HB2.out⟩
  · go_enter Tryz.func26, Tryz.ntmps26
    go_wp2_with fail
    refine (meGood_b _ M _ h).mono ?_
    rintro e w1 ⟨rfl, hb1⟩
    rw [t]
    go_wp2
    go_ret
    exact ⟨ret_bool (by rw [treeB, t]; rfl), hb1⟩

def lengthB (M : List (List Int)) (S : List Int) : Int × Bool := if treeB M && splitB M.length S then (lenF M S, true) else (0, false)
theorem lengthB_yes {M : List (List Int)} {S : List Int} (h : treeB M = true) (h2 : splitB M.length S = true) : lengthB M S = (lenF M S, true) := by rw [lengthB, h, h2]; rfl
theorem lengthB_no {M : List (List Int)} {S : List Int} (h : treeB M = false) : lengthB M S = (0, false) := by rw [lengthB, h]; rfl
theorem lengthB_no2 {M : List (List Int)} {S : List Int} (h : treeB M = true) (h2 : splitB M.length S = false) : lengthB M S = (0, false) := by rw [lengthB, h, h2]; rfl

end Go.Proofs.YtcgcgmlonhganaaGreat
