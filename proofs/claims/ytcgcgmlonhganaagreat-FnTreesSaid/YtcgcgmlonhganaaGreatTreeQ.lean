/- Trees and splits: the plain facts of FnTrees. -/
import Derived.Test.YtcgcgmlonhganaaGreatDiff
import Derived.Test.YtcgcgmlonhganaaGreatClash
import Derived.Test.YtcgcgmlonhganaaGreatFit
namespace Go.Proofs.YtcgcgmlonhganaaGreat
open Go.RowKit

theorem sides_form : ∀ (m i : Nat) (xs l : List Int), l ∈ sidesL m i xs → ∃ t : List Int, l = xs ++ t ∧ t ≠ [] ∧ ∀ y ∈ t, (i : Int) ≤ y
  | 0, _, _, _, h => by rw [sidesL_zero] at h; cases h
  | m + 1, i, xs, l, h => by
    rw [sidesL] at h
    rcases List.mem_cons.1 h with h | h
    · exact ⟨[(i : Int)], h, by simp, by simp⟩
    · rcases List.mem_append.1 h with h | h
      · obtain ⟨t, e, _, h2⟩ := sides_form m (i + 1) _ l h
        refine ⟨(i : Int) :: t, by rw [e]; simp, by simp, fun y hy => ?_⟩
        rcases List.mem_cons.1 hy with h | h
        · omega
        · have := h2 y h; omega
      · obtain ⟨t, e, h1, h2⟩ := sides_form m (i + 1) _ l h
        exact ⟨t, e, h1, fun y hy => by have := h2 y hy; omega⟩
theorem sides_nodup : ∀ (m i : Nat) (xs : List Int), (sidesL m i xs).Nodup
  | 0, _, _ => by rw [sidesL_zero]; exact List.nodup_nil
  | m + 1, i, xs => by
    rw [sidesL, List.nodup_cons, List.nodup_append]
    refine ⟨fun h => ?_, sides_nodup m (i + 1) _, sides_nodup m (i + 1) _, fun a ha b hb e => ?_⟩
    · rcases List.mem_append.1 h with h | h
      · obtain ⟨t, e, h1, _⟩ := sides_form _ _ _ _ h
        have := congrArg List.length e
        simp at this
        exact h1 this
      · obtain ⟨t, e, _, h2⟩ := sides_form _ _ _ _ h
        have e2 : [(i : Int)] = t := List.append_cancel_left e
        have := h2 (i : Int) (by rw [← e2]; simp)
        omega
    · obtain ⟨t, e1, _, _⟩ := sides_form _ _ _ _ ha
      obtain ⟨t', e2, _, h2⟩ := sides_form _ _ _ _ hb
      rw [e1, e2, List.append_assoc] at e
      have e3 : [(i : Int)] ++ t = t' := List.append_cancel_left e
      have := h2 (i : Int) (by rw [← e3]; simp)
      omega
theorem inner_nodup (M : List (List Int)) : (innerL M).Nodup := ((sides_nodup _ _ _).filter _).filter _
theorem nd_le : ∀ (A B : List (List Int)), A.Nodup → (∀ x ∈ A, x ∈ B) → A.length ≤ B.length
  | [], _, _, _ => Nat.zero_le _
  | a :: t, B, hn, hs => by
    have ha := hs a (by simp)
    have hn' := List.nodup_cons.1 hn
    have h1 := nd_le t (B.erase a) hn'.2 (fun x hx => (List.mem_erase_of_ne (fun (e : x = a) => hn'.1 (by rw [← e]; exact hx))).2 (hs x (by simp [hx])))
    have h2 := List.length_erase_of_mem ha
    have h3 := List.length_pos_of_mem ha
    simp only [List.length_cons]
    omega
theorem inL_iff {B : List (List Int)} {x : List Int} : inL B x = true ↔ x ∈ B := by
  unfold inL
  rw [List.any_eq_true]
  exact ⟨fun ⟨y, hy, e⟩ => by rw [of_decide_eq_true e]; exact hy, fun h => ⟨x, h, by simp⟩⟩
theorem miss_count (B : List (List Int)) : ∀ A : List (List Int), missL B A + (A.filter (inL B)).length = A.length
  | [] => rfl
  | x :: xs => by
    have := miss_count B xs
    simp only [missL, List.filter_cons, List.length_cons]
    cases inL B x <;> simp <;> omega
theorem both_same {A B : List (List Int)} (hA : A.Nodup) (hB : B.Nodup) : (A.filter (inL B)).length = (B.filter (inL A)).length := by
  have one : ∀ {A B : List (List Int)}, A.Nodup → (A.filter (inL B)).length ≤ (B.filter (inL A)).length := fun {A B} h =>
    nd_le _ _ (h.filter _) (fun x hx => by
      have h1 := List.mem_filter.1 hx
      exact List.mem_filter.2 ⟨inL_iff.1 h1.2, inL_iff.2 h1.1⟩)
  have := one (A := A) (B := B) hA
  have := one (A := B) (B := A) hB
  omega
theorem miss_self (A : List (List Int)) : missL A A = 0 := by
  have h := miss_count A A
  have e : A.filter (inL A) = A := List.filter_eq_self.2 (fun x hx => inL_iff.2 hx)
  rw [e] at h
  omega
theorem td_law {A B : List (List Int)} {d : Int} (h : tdB A B = (d, true)) : tdB B A = (d, true) ∧ tdB A A = (0, true) ∧ ∃ (IA IB : List (List Int)) (x : Bool), innerB A = (IA, true) ∧ innerB B = (IB, true) ∧ binB A = (x, true) ∧ IA.length ≤ 128 ∧ IB.length ≤ 128 ∧ ∃ c : Nat, d + 2 * c = (IA.length : Int) + IB.length ∧ 0 ≤ d := by
  have ha : treeB A = true := by
    rcases Bool.eq_false_or_eq_true (treeB A) with t | t
    · exact t
    · rw [tdB_no1 t] at h; cases h
  have hb : treeB B = true := by
    rcases Bool.eq_false_or_eq_true (treeB B) with t | t
    · exact t
    · rw [tdB_no2 t] at h; cases h
  have hl : A.length = B.length := by
    by_cases t : A.length = B.length
    · exact t
    · rw [tdB_no3 t] at h; cases h
  rw [tdB_yes ha hb hl] at h
  simp only [Prod.mk.injEq, and_true] at h
  refine ⟨?_, ?_, innerL A, innerL B, _, innerB_yes ha, innerB_yes hb, binB_yes ha, (innerL_small ha).1, (innerL_small hb).1, (innerL A |>.filter (inL (innerL B))).length, ?_, by omega⟩
  · rw [tdB_yes hb ha hl.symm, ← h, Nat.add_comm]
  · rw [tdB_yes ha ha rfl, miss_self]; rfl
  · have h1 := miss_count (innerL B) (innerL A)
    have h2 := miss_count (innerL A) (innerL B)
    have h3 := both_same (inner_nodup A) (inner_nodup B)
    omega

theorem comp_parts {n : Int} {x y : List Int} : (compB n x y).2 = (splitB n x && splitB n y) := by
  unfold compB
  split
  · rename_i h; exact h.symm
  · rename_i h; simpa using h
theorem row_found {a : List Int} {i : Nat} : ∀ {L : List (List Int)} {k : Nat} {p : Nat × Nat}, clashRow a i k L = some p → p.1 = i ∧ ∃ j, p.2 = k + j ∧ j < L.length ∧ fitB a (L.getD j []) = false
  | [], _, _, h => by rw [clashRow_nil] at h; cases h
  | b :: bs, k, p, h => by
    rcases Bool.eq_false_or_eq_true (fitB a b) with t | t
    · rw [clashRow_yes _ _ _ _ _ t] at h
      obtain ⟨h1, j, h2, h3, h4⟩ := row_found h
      exact ⟨h1, j + 1, by omega, by simp; omega, by simpa using h4⟩
    · rw [clashRow_no _ _ _ _ _ t] at h
      cases h
      exact ⟨rfl, 0, by omega, by simp, by simpa using t⟩
theorem clash_found : ∀ {L : List (List Int)} {i : Nat} {p : Nat × Nat}, clashL i L = some p → ∃ a b, p = (i + a, i + b) ∧ a < b ∧ b < L.length ∧ fitB (L.getD a []) (L.getD b []) = false
  | [], _, _, h => by rw [clashL_nil] at h; cases h
  | x :: rest, i, p, h => by
    rw [clashL_cons] at h
    cases hr : clashRow x i (i + 1) rest with
    | some q =>
      rw [hr] at h
      cases h
      obtain ⟨h1, j, h2, h3, h4⟩ := row_found hr
      refine ⟨0, j + 1, ?_, by omega, by simp; omega, by simpa using h4⟩
      obtain ⟨q1, q2⟩ := p
      simp only at h1 h2
      rw [h1, h2]
      simp only [Prod.mk.injEq]
      omega
    | none =>
      rw [hr] at h
      have h' : clashL (i + 1) rest = some p := h
      obtain ⟨a, b, h1, h2, h3, h4⟩ := clash_found h'
      refine ⟨a + 1, b + 1, by rw [h1]; simp only [Prod.mk.injEq]; omega, by omega, by simp; omega, by simpa using h4⟩
theorem clash_law {n : Int} {L : List (List Int)} {p q : Int} (h : clashB n L = ((p, q), true)) : ∃ i k : Nat, p = i ∧ q = k ∧ i < k ∧ k < L.length ∧ compB n (L.getD i []) (L.getD k []) = (false, true) := by
  rcases Bool.eq_false_or_eq_true (splitsB n L) with t | t
  · cases hc : clashL 0 L with
    | none => rw [clashB_none n L t hc] at h; cases h
    | some r =>
      obtain ⟨i, k⟩ := r
      rw [clashB_some n L t i k hc] at h
      simp only [Prod.mk.injEq, and_true] at h
      obtain ⟨a, b, h1, h2, h3, h4⟩ := clash_found hc
      simp only [Nat.zero_add, Prod.mk.injEq] at h1
      obtain ⟨rfl, rfl⟩ := h1
      refine ⟨i, k, h.1.symm, h.2.symm, h2, h3, ?_⟩
      have hall : ∀ j, j < L.length → splitB n (L.getD j []) = true := fun j hj => by
        unfold splitsB at t
        simp only [Bool.and_eq_true, List.all_eq_true] at t
        exact t.2.2 _ (by simp [List.getD, hj])
      unfold compB
      rw [hall i (by omega), hall k h3, h4]; rfl
  · rw [clashB_bad n L t] at h; cases h
theorem comp_law {n : Int} {x y : List Int} {c : Bool} (h : compB n x y = (c, true)) : (splitB n x && splitB n y) = true ∧ ∃ p q : Int, clashB n [x, y] = ((p, q), !c) := by
  have h2 : (splitB n x && splitB n y) = true := by rw [← comp_parts, h]
  refine ⟨h2, ?_⟩
  have h3 := Bool.and_eq_true _ _ ▸ h2
  have hc : fitB x y = c := by
    unfold compB at h
    rw [h2] at h
    simpa using h
  have hs : splitsB n [x, y] = true := by
    have hn : inB n 2 7 = true := by
      have := h3.1
      unfold splitB at this
      simp only [Bool.and_eq_true] at this
      exact this.1
    unfold splitsB
    rw [hn]
    simp [h3.1, h3.2]
  cases c with
  | true =>
    have : clashL 0 [x, y] = none := by
      rw [clashL_cons, clashRow_yes _ _ _ _ _ hc, clashRow_nil]; rfl
    exact ⟨0, 0, clashB_none n _ hs this⟩
  | false =>
    have : clashL 0 [x, y] = some (0, 1) := by
      rw [clashL_cons, clashRow_no _ _ _ _ _ hc]; rfl
    exact ⟨_, _, clashB_some n _ hs 0 1 this⟩
end Go.Proofs.YtcgcgmlonhganaaGreat
