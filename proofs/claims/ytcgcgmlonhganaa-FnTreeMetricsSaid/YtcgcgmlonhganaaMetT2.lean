/- Metrics, plain: four points, longer ends, a point less, ends, cherries. -/
import Derived.Test.YtcgcgmlonhganaaMetT
import Derived.Test.YtcgcgmlonhganaaWithout2
import Derived.Test.YtcgcgmlonhganaaEnd
import Derived.Test.YtcgcgmlonhganaaNearest
namespace Go.Proofs.Ytcgcgmlonhganaa
open Go.RowKit

/-! ### Four points -/
theorem findFrom_none {n : Nat} {f : Nat → Option (List Int)} : ∀ (d i : Nat), d = n - i → (findFrom n i f = none ↔ ∀ j, i ≤ j → j < n → f j = none)
  | 0, i, hd => by
    rw [findFrom_ge f (by omega)]
    exact ⟨fun _ j h1 h2 => by omega, fun _ => rfl⟩
  | d + 1, i, hd => by
    rw [findFrom_lt f (by omega)]
    have ih := findFrom_none (n := n) (f := f) d (i + 1) (by omega)
    cases hf : f i with
    | none =>
      rw [oe_none, ih]
      constructor
      · intro x j h1 h2
        by_cases e : j = i
        · rw [e]; exact hf
        · exact x j (by omega) h2
      · intro x j h1 h2; exact x j (by omega) h2
    | some r =>
      rw [oe_some]
      constructor
      · intro x; cases x
      · intro x; have := x i (Nat.le_refl _) (by omega); rw [hf] at this; cases this
theorem badL_none {M : List (List Int)} {i j k l : Nat} : badL M i j k l = none ↔ goodF M i j k l = true := by
  cases t : goodF M i j k l with
  | true => rw [badL_yes t]; simp
  | false => rw [badL_no t]; simp
/-- four points in order -/
theorem bad_none {M : List (List Int)} : badF M = none ↔ ∀ i j k l, i < j → j < k → k < l → l < M.length → goodF M i j k l = true := by
  unfold badF badI badJ badK
  rw [findFrom_none _ 0 rfl]
  constructor
  · intro x i j k l h1 h2 h3 h4
    have a := (findFrom_none _ (i + 1) rfl).1 (x i (Nat.zero_le _) (by omega)) j (by omega) (by omega)
    have b := (findFrom_none _ (j + 1) rfl).1 a k (by omega) (by omega)
    exact badL_none.1 ((findFrom_none _ (k + 1) rfl).1 b l (by omega) h4)
  · intro x i _ hi
    refine (findFrom_none _ (i + 1) rfl).2 fun j h1 h2 => (findFrom_none _ (j + 1) rfl).2 fun k h3 h4 => (findFrom_none _ (k + 1) rfl).2 fun l h5 h6 => badL_none.2 (x i j k l (by omega) (by omega) (by omega) h6)
/-- the greatest of the three sums is there twice -/
def Four (m : Nat → Nat → Int) (i j k l : Nat) : Prop := m i j + m k l ≤ max (m i k + m j l) (m i l + m j k) ∧ m i k + m j l ≤ max (m i j + m k l) (m i l + m j k) ∧ m i l + m j k ≤ max (m i j + m k l) (m i k + m j l)
theorem tw3_iff {a b c : Int} : tw3 a b c = true ↔ a ≤ max b c ∧ b ≤ max a c ∧ c ≤ max a b := by
  unfold tw3; rw [decide_eq_true_eq]; omega
theorem good_iff {M : List (List Int)} {i j k l : Nat} : goodF M i j k l = true ↔ ent M i j + ent M k l ≤ max (ent M i k + ent M j l) (ent M i l + ent M j k) ∧ ent M i k + ent M j l ≤ max (ent M i j + ent M k l) (ent M i l + ent M j k) ∧ ent M i l + ent M j k ≤ max (ent M i j + ent M k l) (ent M i k + ent M j l) := tw3_iff
theorem four_swap {n : Nat} {m : Nat → Nat → Int} (hs : ∀ i j, i < n → j < n → m i j = m j i) {i j k l : Nat} (hi : i < n) (hj : j < n) (hk : k < n) (hl : l < n) (h : Four m i j k l) : Four m j i k l ∧ Four m i k j l ∧ Four m i j l k := by
  unfold Four at h ⊢
  have a1 := hs i j hi hj; have a2 := hs i k hi hk; have a3 := hs i l hi hl; have a4 := hs j k hj hk; have a5 := hs j l hj hl; have a6 := hs k l hk hl
  omega
/-- a tree metric, as a function: any four points -/
def Tree (n : Nat) (m : Nat → Nat → Int) : Prop := ∀ i j k l, i < n → j < n → k < n → l < n → Four m i j k l
theorem sort4 {P : Nat → Nat → Nat → Nat → Prop} {n : Nat} (h1 : ∀ i j k l, i < n → j < n → k < n → l < n → P i j k l → P j i k l) (h2 : ∀ i j k l, i < n → j < n → k < n → l < n → P i j k l → P i k j l) (h3 : ∀ i j k l, i < n → j < n → k < n → l < n → P i j k l → P i j l k)
    (h0 : ∀ i j k l, i ≤ j → j ≤ k → k ≤ l → l < n → P i j k l) {i j k l : Nat} (hi : i < n) (hj : j < n) (hk : k < n) (hl : l < n) : P i j k l := by
  -- two sorted behind; then insert
  have s3 : ∀ i j k l, i < n → j < n → k < n → l < n → i ≤ j → k ≤ l → P i j k l := by
    intro i j k l hi hj hk hl a b
    by_cases c1 : j ≤ k
    · exact h0 i j k l a c1 b hl
    · by_cases c2 : i ≤ k
      · -- i k .. j
        by_cases c3 : j ≤ l
        · exact h2 i k j l hi hk hj hl (h0 i k j l c2 (by omega) c3 hl)
        · -- i k l j
          have := h0 i k l j c2 b (by omega) hj
          exact h2 i k j l hi hk hj hl (h3 i k l j hi hk hl hj this)
      · by_cases c3 : j ≤ l
        · -- k i j l
          have := h0 k i j l (by omega) a c3 hl
          exact h2 i k j l hi hk hj hl (h1 k i j l hk hi hj hl this)
        · by_cases c4 : i ≤ l
          · -- k i l j
            have := h0 k i l j (by omega) c4 (by omega) hj
            exact h2 i k j l hi hk hj hl (h1 k i j l hk hi hj hl (h3 k i l j hk hi hl hj this))
          · -- k l i j
            have := h0 k l i j b (by omega) a hj
            -- k l i j -> k i l j -> i k l j -> i k j l -> i j k l
            have e1 := h2 k l i j hk hl hi hj this
            have e2 := h1 k i l j hk hi hl hj e1
            have e3 := h3 i k l j hi hk hl hj e2
            exact h2 i k j l hi hk hj hl e3
  by_cases a : i ≤ j
  · by_cases b : k ≤ l
    · exact s3 i j k l hi hj hk hl a b
    · exact h3 i j l k hi hj hl hk (s3 i j l k hi hj hl hk a (by omega))
  · by_cases b : k ≤ l
    · exact h1 j i k l hj hi hk hl (s3 j i k l hj hi hk hl (by omega) b)
    · exact h1 j i k l hj hi hk hl (h3 j i l k hj hi hl hk (s3 j i l k hj hi hl hk (by omega) (by omega)))
theorem tree_iff {M : List (List Int)} (h : metB M = true) : badF M = none ↔ Tree M.length (ent M) := by
  obtain ⟨_, hm⟩ := met_iff.1 h
  rw [bad_none]
  constructor
  · intro x i j k l hi hj hk hl
    have hS := hm.sym
    refine sort4 (P := Four (ent M)) (fun i j k l hi hj hk hl x => (four_swap hS hi hj hk hl x).1) (fun i j k l hi hj hk hl x => (four_swap hS hi hj hk hl x).2.1) (fun i j k l hi hj hk hl x => (four_swap hS hi hj hk hl x).2.2) (fun i j k l a b c hl => ?_) hi hj hk hl
    by_cases e1 : i = j
    · subst e1
      have t1 := hm.tri k i l (by omega) (by omega) hl
      have d := hm.diag i (by omega)
      have s1 := hm.sym i k (by omega) (by omega)
      unfold Four; rw [d]; omega
    · by_cases e2 : j = k
      · subst e2
        have t1 := hm.tri i j l (by omega) (by omega) hl
        have d := hm.diag j (by omega)
        unfold Four; rw [d]; omega
      · by_cases e3 : k = l
        · subst e3
          have t1 := hm.tri i k j (by omega) hl (by omega)
          have d := hm.diag k hl
          have s1 := hm.sym j k (by omega) hl
          unfold Four; rw [d]; omega
        · exact good_iff.1 (x i j k l (by omega) (by omega) (by omega) hl)
  · intro x i j k l h1 h2 h3 h4
    exact good_iff.2 (x i j k l (by omega) (by omega) (by omega) h4)
theorem isNone_iff {M : List (List Int)} (h : metB M = true) : (badF M).isNone = true ↔ Tree M.length (ent M) := by rw [Option.isNone_iff_eq_none, tree_iff h]

/-! ### Longer ends -/
theorem addM_ent {M : List (List Int)} {b : List Int} (hs : sqB M M.length = true) : (addM b M).length = M.length ∧ sqB (addM b M) M.length = true ∧ ∀ i j, i < M.length → j < M.length → ent (addM b M) i j = if i = j then ent M i j else ent M i j + (b.getD i 0 + b.getD j 0) := by
  obtain ⟨n, hn⟩ : ∃ n, M.length = n := ⟨_, rfl⟩
  rw [hn] at hs
  unfold addM
  rw [hn]
  let P : Nat → Nat → List (List Int) → Prop := fun i j t => t.length = n ∧ sqB t n = true ∧ ∀ x y, x < n → y < n → ent t x y = if (x < i ∨ (x = i ∧ y < j)) ∧ x ≠ y then ent M x y + (b.getD x 0 + b.getD y 0) else ent M x y
  have hin : ∀ i t, i < n → P i 0 t → P (i + 1) 0 (addI b n i t) := fun i t hi ht => by
    have := iterFrom_ind (n := n) (f := addJ b i) (P i) (fun j t hj ⟨t1, t2, t3⟩ => by
      unfold addJ
      by_cases e : i = j
      · rw [if_pos e]
        refine ⟨t1, t2, fun x y hx hy => ?_⟩
        rw [t3 x y hx hy]
        by_cases c : (x < i ∨ (x = i ∧ y < j)) ∧ x ≠ y
        · rw [if_pos c, if_pos (by omega)]
        · rw [if_neg c, if_neg (by omega)]
      · rw [if_neg e]
        refine ⟨by rw [setEnt_len]; exact t1, setEnt_sq t2 t1 hi _ _, fun x y hx hy => ?_⟩
        rw [ent_setEnt t2 t1 hi hj]
        by_cases e2 : x = i ∧ y = j
        · rw [if_pos e2, t3 i j hi hj, if_neg (by omega), if_pos (by omega), e2.1, e2.2]
        · rw [if_neg e2, t3 x y hx hy]
          by_cases c : (x < i ∨ (x = i ∧ y < j)) ∧ x ≠ y
          · rw [if_pos c, if_pos (by omega)]
          · rw [if_neg c, if_neg (by omega)]) n 0 t (by omega) (Nat.zero_le _) ht
    obtain ⟨t1, t2, t3⟩ := this
    refine ⟨t1, t2, fun x y hx hy => ?_⟩
    show ent (iterFrom n 0 (addJ b i) t) x y = _
    rw [t3 x y hx hy]
    by_cases c : (x < i ∨ (x = i ∧ y < n)) ∧ x ≠ y
    · rw [if_pos c, if_pos (by omega)]
    · rw [if_neg c, if_neg (by omega)]
  obtain ⟨t1, t2, t3⟩ := iterFrom_ind (n := n) (f := addI b n) (fun i t => P i 0 t) hin n 0 M (by omega) (Nat.zero_le _) ⟨hn, hs, fun x y _ _ => by rw [if_neg (by omega)]⟩
  refine ⟨t1, t2, fun i j hi hj => ?_⟩
  rw [t3 i j hi hj]
  by_cases e : i = j
  · rw [if_pos e, if_neg (by omega)]
  · rw [if_neg e, if_pos (by omega)]
/-- a tree metric stays one with longer ends -/
theorem pend_law {M A : List (List Int)} {b : List Int} (h : pendB M b = (A, true)) : metB M = true ∧ ∃ x, isTreeB M = (x, true) ∧ isTreeB A = (x, true) := by
  unfold pendB at h
  cases t : pendOk M b with
  | false => rw [t] at h; simp at h
  | true =>
    rw [t, if_pos rfl] at h
    cases t2 : metB (addM b M) with
    | false => rw [t2] at h; simp at h
    | true =>
      rw [t2, if_pos rfl] at h
      obtain rfl : addM b M = A := congrArg Prod.fst h
      have hM : metB M = true := by unfold pendOk at t; simp only [Bool.and_eq_true] at t; exact t.1
      obtain ⟨hs, _⟩ := met_iff.1 hM
      obtain ⟨a1, _, a3⟩ := addM_ent (b := b) hs
      refine ⟨hM, (badF M).isNone, isTreeB_yes hM, ?_⟩
      rw [isTreeB_yes t2]
      congr 1
      have key : badF (addM b M) = none ↔ badF M = none := by
        rw [bad_none, bad_none, a1]
        have e : ∀ i j k l, i < j → j < k → k < l → l < M.length → (goodF (addM b M) i j k l = true ↔ goodF M i j k l = true) := fun i j k l h1 h2 h3 h4 => by
          rw [good_iff, good_iff, a3 i j (by omega) (by omega), a3 k l (by omega) (by omega), a3 i k (by omega) (by omega), a3 j l (by omega) (by omega), a3 i l (by omega) (by omega), a3 j k (by omega) (by omega),
            if_neg (by omega), if_neg (by omega), if_neg (by omega), if_neg (by omega), if_neg (by omega), if_neg (by omega)]
          omega
        exact ⟨fun x i j k l h1 h2 h3 h4 => (e i j k l h1 h2 h3 h4).1 (x i j k l h1 h2 h3 h4), fun x i j k l h1 h2 h3 h4 => (e i j k l h1 h2 h3 h4).2 (x i j k l h1 h2 h3 h4)⟩
      rw [Bool.eq_iff_iff, Option.isNone_iff_eq_none, Option.isNone_iff_eq_none, key]

/-! ### A point less -/
def skp (k a : Nat) : Nat := if a < k then a else a + 1
theorem restL_split {n i : Nat} (h : i < n) : restL n i 0 = List.range' 0 i ++ List.range' (i + 1) (n - 1 - i) := by
  unfold restL
  have e : List.range' 0 (n - 0) = List.range' 0 i ++ (i :: List.range' (i + 1) (n - 1 - i)) := by
    have h1 : List.range' 0 i ++ List.range' (0 + 1 * i) (1 + (n - 1 - i)) = List.range' 0 (i + (1 + (n - 1 - i))) := List.range'_append
    rw [show n - 0 = i + (1 + (n - 1 - i)) by omega, ← h1]
    congr 1
    rw [show 1 + (n - 1 - i) = (n - 1 - i) + 1 by omega, List.range'_succ]
    simp
  rw [e, List.filter_append, List.filter_cons, if_neg (by simp)]
  congr 1
  · rw [List.filter_eq_self]
    intro a ha
    rw [List.mem_range'_1] at ha
    simp; omega
  · rw [List.filter_eq_self]
    intro a ha
    rw [List.mem_range'_1] at ha
    simp; omega
theorem restL_at {n i a : Nat} (h : i < n) (ha : a < n - 1) : (restL n i 0).length = n - 1 ∧ (restL n i 0).getD a 0 = skp i a := by
  rw [restL_split h]
  refine ⟨by simp; omega, ?_⟩
  unfold skp
  by_cases e : a < i
  · simp [List.getD, List.getElem?_append, e]
  · rw [if_neg e]
    have : a - i < n - 1 - i := by omega
    simp [List.getD, List.getElem?_append, e, this]; omega
theorem dropAt_at {l : List Int} {i b : Nat} (h : i < l.length) : (dropAt l i).length = l.length - 1 ∧ (dropAt l i).getD b 0 = l.getD (skp i b) 0 := by
  unfold dropAt skp
  refine ⟨by simp; omega, ?_⟩
  by_cases e : b < i
  · have h1 : b < (l.take i).length := by simp; omega
    simp only [List.getD, List.getElem?_append, List.length_take, e, if_true]
    rw [if_pos (show b < min i l.length by omega), List.getElem?_take, if_pos e]
  · rw [if_neg e]
    have h1 : (l.take i).length = i := by simp; omega
    have h2 : i + 1 + (b - i) = b + 1 := by omega
    simp [List.getD, List.getElem?_append, h1, e, h2]
theorem without_ent {M : List (List Int)} {i : Nat} (hs : sqB M M.length = true) (hi : i < M.length) : (withoutB M i).length = M.length - 1 ∧ sqB (withoutB M i) (M.length - 1) = true ∧ ∀ a b, a < M.length - 1 → b < M.length - 1 → ent (withoutB M i) a b = ent M (skp i a) (skp i b) := by
  have hlen : (restL M.length i 0).length = M.length - 1 := by rw [restL_split hi]; simp; omega
  unfold withoutB
  refine ⟨by rw [List.length_map]; exact hlen, ?_, fun a b ha hb => ?_⟩
  · rw [sqB_iff]
    intro r hr
    obtain ⟨x, hx, rfl⟩ := List.mem_map.1 hr
    have hm := restL_mem hx
    have hl := sqB_len hs (i := x) hm.2.1
    unfold dropAt
    rw [List.length_append, List.length_take, List.length_drop, hl]
    omega
  · have ha' : a < (restL M.length i 0).length := by omega
    have e1 := (restL_at hi ha).2
    have hsk : skp i a < M.length := by unfold skp; split <;> omega
    have hl := sqB_len hs (i := skp i a) hsk
    unfold ent
    have e2 : ((restL M.length i 0).map fun r => dropAt (M.getD r []) i).getD a [] = dropAt (M.getD (skp i a) []) i := by
      rw [← e1]
      simp [List.getD, ha']
    rw [e2, (dropAt_at (by omega)).2]
theorem wto_law {M W : List (List Int)} {i : Int} (h : wtoB M i = (W, true)) : metB M = true ∧ W.length + 1 = M.length ∧ ∃ x y, isTreeB M = (x, true) ∧ isTreeB W = (y, true) ∧ (x = true → y = true) := by
  unfold wtoB at h
  cases t : metB M && (decide (3 ≤ M.length) && inB i 0 (M.length - 1)) with
  | false => rw [t] at h; simp at h
  | true =>
    rw [t, if_pos rfl] at h
    obtain rfl : withoutB M i.toNat = W := congrArg Prod.fst h
    simp only [Bool.and_eq_true, decide_eq_true_eq] at t
    obtain ⟨hM, h3, hi⟩ := t
    have hi := inB_iff.1 hi
    obtain ⟨hs, hm⟩ := met_iff.1 hM
    obtain ⟨w1, w2, w3⟩ := without_ent (i := i.toNat) hs (by omega)
    have hsk : ∀ a, a < M.length - 1 → skp i.toNat a < M.length := fun a ha => by unfold skp; split <;> omega
    have hinj : ∀ a b, a ≠ b → skp i.toNat a ≠ skp i.toNat b := fun a b hne => by unfold skp; split <;> split <;> omega
    have hW : metB (withoutB M i.toNat) = true := met_iff.2 ⟨by rw [w1]; exact w2, by
      rw [w1]
      refine ⟨by have := hm.n7; omega, by have := hm.n7; omega, fun a ha => ?_, fun a b ha hb hne => ?_, fun a b ha hb => ?_, fun a b c ha hb hc => ?_⟩
      · rw [w3 a a ha ha]; exact hm.diag _ (hsk a ha)
      · rw [w3 a b ha hb]; exact hm.far _ _ (hsk a ha) (hsk b hb) (hinj a b hne)
      · rw [w3 a b ha hb, w3 b a hb ha]; exact hm.sym _ _ (hsk a ha) (hsk b hb)
      · rw [w3 a c ha hc, w3 a b ha hb, w3 b c hb hc]; exact hm.tri _ _ _ (hsk a ha) (hsk b hb) (hsk c hc)⟩
    refine ⟨hM, by omega, _, _, isTreeB_yes hM, isTreeB_yes hW, fun hx => ?_⟩
    rw [isNone_iff hM] at hx
    rw [isNone_iff hW, w1]
    intro a b c d ha hb hc hd
    have := hx (skp i.toNat a) (skp i.toNat b) (skp i.toNat c) (skp i.toNat d) (hsk a ha) (hsk b hb) (hsk c hc) (hsk d hd)
    unfold Four at this ⊢
    rw [w3 a b ha hb, w3 c d hc hd, w3 a c ha hc, w3 b d hb hd, w3 a d ha hd, w3 b c hb hc]
    exact this
end Go.Proofs.Ytcgcgmlonhganaa
