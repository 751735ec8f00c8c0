/- The text of a split: the program's SplitText. -/
import Derived.Test.YtnkbfgnmodfemaaDoorTextI
namespace Go.Proofs.YtnkbfgnmodfemaaDoor
open Go.RowKit
open Go.Lib (hid)

theorem ris_pair : ∀ (l : List Int) (lo hi : Int) (o : Option Int), risB lo hi o l = true → l.Pairwise (· < ·) ∧ ∀ y, o = some y → ∀ x ∈ l, y < x
  | [], _, _, _, _ => ⟨List.Pairwise.nil, fun _ _ x hx => by cases hx⟩
  | z :: zs, lo, hi, o, h => by
    rw [risB_cons] at h
    simp only [Bool.and_eq_true] at h
    obtain ⟨h1, h2⟩ := ris_pair zs lo hi _ h.2.2
    have h3 := h2 z rfl
    refine ⟨List.pairwise_cons.2 ⟨h3, h1⟩, fun y hy x hx => ?_⟩
    subst hy
    have h4 : y < z := by simpa using h.2.1
    rcases List.mem_cons.1 hx with e | e
    · rw [e]; exact h4
    · have := h3 x e; omega
theorem ris_filter : ∀ (d lo : Nat) (a : List Int), (∀ x ∈ a, (lo : Int) ≤ x ∧ x < (lo : Int) + d) → a.Pairwise (· < ·) → (List.range' lo d).filter (fun (i : Nat) => hasB a i) = a.map Int.toNat
  | 0, lo, a, h, _ => by
    cases a with
    | nil => rfl
    | cons x xs => have := h x (by simp); omega
  | d + 1, lo, a, h, hp => by
    rw [List.range'_succ]
    cases a with
    | nil => rw [List.filter_eq_nil_iff.2 (fun x _ => by simp [hasB])]; rfl
    | cons x xs =>
      have hx := h x (by simp)
      have hc := List.pairwise_cons.1 hp
      by_cases e : x = (lo : Int)
      · have ih := ris_filter d (lo + 1) xs (fun y hy => by have h1 := h y (by simp [hy]); have h2 := hc.1 y hy; omega) hc.2
        rw [List.filter_cons_of_pos (by simp [hasB, e])]
        rw [List.map_cons, ← ih, e]
        refine congrArg (List.cons lo) (List.filter_congr fun i hi => ?_)
        have := (List.mem_range'_1.1 hi).1
        simp [hasB]
        intro e2
        omega
      · have ih := ris_filter d (lo + 1) (x :: xs) (fun y hy => by
          have h1 := h y hy
          rcases List.mem_cons.1 hy with e2 | e2
          · omega
          · have h2 := hc.1 y e2; omega) hp
        rw [List.filter_cons_of_neg (by
          rw [hasB, Bool.not_eq_true, List.any_eq_false]
          intro y hy
          have h1 := h y hy
          rcases List.mem_cons.1 hy with e2 | e2
          · subst e2; simpa using fun q => e q
          · have h2 := hc.1 y e2
            simp
            omega)]
        exact ih
theorem split_ins {n : Nat} {a : List Int} (h : splitB n a = true) : insL n a = a.map Int.toNat := by
  unfold splitB at h
  simp only [Bool.and_eq_true] at h
  have h1 := ris_all _ _ _ _ h.2.2
  have h2 := ris_pair _ _ _ _ h.2.2
  rw [insL, List.range_eq_range']
  exact ris_filter n 0 a (fun x hx => by have := h1 x hx; omega) h2.1
theorem othR_eq (S : List Int) : ∀ (m i : Nat) (acc : List Int), othR S m i acc = acc ++ ((List.range' i m).filter fun (x : Nat) => !hasB S x).map fun (x : Nat) => (x : Int)
  | 0, _, _ => by rw [othR_zero]; simp
  | m + 1, i, acc => by
    rw [List.range'_succ]
    rcases Bool.eq_false_or_eq_true (hasB S (i : Int)) with t | t
    · rw [othR_yes t, othR_eq S m (i + 1) acc, List.filter_cons_of_neg (by simp [t])]
    · rw [othR_no t, othR_eq S m (i + 1) _, List.filter_cons_of_pos (by simp [t])]
      simp
theorem oth_out (n : Nat) (S : List Int) : othF n S = (outL n S).map fun (x : Nat) => (x : Int) := by
  rw [othF, othR_eq, outL, List.range_eq_range']; rfl
theorem oth_nat (n : Nat) (S : List Int) : (othF n S).map Int.toNat = outL n S := by rw [oth_out, List.map_map]; simp [Function.comp_def]

theorem bstr_bar (f s : List UInt8) : Value.string ((⟨f.toArray⟩ : ByteArray) ++ (⟨#[124]⟩ : ByteArray) ++ (⟨s.toArray⟩ : ByteArray)) = bstr (f ++ 124 :: s) := by
  unfold bstr
  congr 1
  apply ByteArray.ext
  apply Array.ext'
  simp

set_option maxRecDepth 100000 in
set_option maxHeartbeats 1000000 in
theorem iSplitText_yes (n : Nat) (v : Value) (a : List Int) (w : World) (h : RInts w v a) (hs : splitB n a = true) :
    Calls Tryd.prog 6 #[.int .i64 n, v] w fun e w' => e = .returned (.tuple #[bstr (sTxt n a), .bool true]) ∧ Below w.heap.size w w' := by
  have HR := hid h
  have HS := hid hs
  obtain ⟨h1, h2, h3⟩ := split_ne hs
  have ha : a ≠ [] := by rintro rfl; rw [split_ins hs] at h1; exact h1 rfl
  have hal : a.length ≤ 7 := by have := (ins_len n a).1; rw [split_ins hs, List.length_map] at this; omega
  have had : ∀ x ∈ a, 0 ≤ x ∧ x < 10 := fun x hx => by
    unfold splitB at hs
    simp only [Bool.and_eq_true] at hs
    have := ris_all _ _ _ _ hs.2.2 x hx
    omega
  have hol : (othF n a).length ≤ 7 := by have := (othF_ok n a).2; omega
  have hod : ∀ x ∈ othF n a, 0 ≤ x ∧ x < 10 := fun x hx => by have := (othF_ok n a).1 x hx; omega
  have hoe : othF n a ≠ [] := fun e => h2 (by rw [← oth_nat, e]; rfl)
  have H1 := hid h1
  have H2 := hid ha
  have H3 := hid had
  have H4 := hid hod
  have H5 := hid hoe
  clear h h1 h2 ha had hod hoe hs
  go_enter Tryd.func6, Tryd.ntmps6
  go_wp2_with fail
  refine (isSplit_c (n : Int) _ a _ HR.out).mono ?_
  rintro e w' ⟨rfl, rfl⟩
  rw [HS.out]
  go_wp2_with fail
  refine (otherSide_c n _ a _ HR.out (by omega)).mono ?_
  rintro e w1 ⟨v1, rfl, hF1, hb1⟩
  have HB1 := hid hb1
  have hR1 := hF1.r
  clear hb1 hF1
  go_wp2_with fail
  refine (pointsText_c v1 _ _ hR1 (by omega) H4.out H5.out).mono ?_
  rintro e w2 ⟨rfl, hb2⟩
  have HB2 := hid (HB1.out.trans (hb2.mono HB1.out.size))
  have hR2 := HR.out.keep HB2.out
  rw [oth_nat]
  have HL1 := hid (cT_len (outL n a))
  have HL2 := hid (cT_len (a.map Int.toNat))
  have HL3 := hid (ins_len n a)
  obtain ⟨f, hf⟩ : ∃ f, (cT (outL n a)).drop 1 = f := ⟨_, rfl⟩
  rw [hf]
  have hfl : f.length ≤ 100 := by rw [← hf, List.length_drop, HL1.out]; have := HL3.out.2; omega
  have HF := hid hf
  clear hb2 hR1 hf
  have g1 : ¬ 9223372036854775807 < f.length + 1 := by omega
  unfold bstr
  go_wp2_with fail
  refine (pointsText_c _ _ _ hR2 (by omega) H3.out H2.out).mono ?_
  rintro e w3 ⟨rfl, hb3⟩
  have HB3 := hid (HB2.out.trans (hb3.mono HB2.out.size))
  obtain ⟨s, hs⟩ : ∃ s, (cT (a.map Int.toNat)).drop 1 = s := ⟨_, rfl⟩
  rw [hs]
  have hsl : s.length ≤ 100 := by rw [← hs, List.length_drop, HL2.out, List.length_map]; omega
  have HSS := hid hs
  clear hb3 hs
  have g2 : ¬ 9223372036854775807 < f.length + 1 + s.length := by omega
  unfold bstr
  go_wp2
  go_ret2
  refine ⟨?_, HB3.out⟩
  have he : sTxt n a = f ++ (124 :: s) := by rw [sTxt, split_ins HS.out, HF.out, HSS.out]
  rw [he]
  exact congrArg (fun x => Ending.returned (.tuple #[x, .bool true])) (bstr_bar f s)

set_option maxHeartbeats 1000000 in
theorem iSplitText_u (n : Int) (v : Value) (a : List Int) (w : World) (h : RInts w v a) :
    Calls Tryd.prog 6 #[.int .i64 n, v] w fun e w' => e = .returned (.tuple #[bstr (txtB n a).1, .bool (txtB n a).2]) ∧ Below w.heap.size w w' := by
  rcases Bool.eq_false_or_eq_true (splitB n a) with t | t
  · have hr : 2 ≤ n ∧ n ≤ 7 := by
      have t2 := t
      unfold splitB at t2
      simp only [Bool.and_eq_true] at t2
      exact inB_iff.1 t2.1
    obtain ⟨m, rfl⟩ : ∃ m : Nat, n = m := ⟨n.toNat, by omega⟩
    rw [txtB_yes t]
    exact iSplitText_yes m v a w h t
  · have HM := hid (txtB_no t)
    have HR := hid h
    clear h
    go_enter Tryd.func6, Tryd.ntmps6
    go_wp2_with fail
    refine (isSplit_c n _ a _ HR.out).mono ?_
    rintro e w' ⟨rfl, rfl⟩
    rw [t]
    go_wp2
    go_ret2
    exact ⟨by rw [HM.out]; rfl, Below.refl _ _⟩

end Go.Proofs.YtnkbfgnmodfemaaDoor
