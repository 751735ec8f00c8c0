/- Metrics, plain: bad four points, ultrametrics are tree metrics, cherries, ends, nearest points. -/
import Derived.Test.YtcgcgmlonhganaaMetT2
namespace Go.Proofs.Ytcgcgmlonhganaa
open Go.RowKit

theorem bad_some {M : List (List Int)} {r : List Int} (h : badF M = some r) : ∃ i j k l : Nat, r = [(i : Int), (j : Int), (k : Int), (l : Int)] ∧ i < j ∧ j < k ∧ k < l ∧ l < M.length ∧ goodF M i j k l = false := by
  unfold badF badI badJ badK at h
  obtain ⟨i, _, h2, h⟩ := findFrom_or h
  obtain ⟨j, h3, h4, h⟩ := findFrom_or h
  obtain ⟨k, h5, h6, h⟩ := findFrom_or h
  obtain ⟨l, h7, h8, h⟩ := findFrom_or h
  cases t : goodF M i j k l with
  | true => rw [badL_yes t] at h; cases h
  | false => rw [badL_no t] at h; exact ⟨i, j, k, l, (Option.some.inj h).symm, by omega, by omega, by omega, h8, t⟩
/-- the greatest so far, and how often it was there -/
def mcL : List Int → Int → Int → Int × Int
  | [], m, c => (m, c)
  | x :: xs, m, c => if m < x then mcL xs x 1 else if x = m then mcL xs m (c + 1) else mcL xs m c
theorem mc_three {a b c : Int} (ha : 0 < a) (hb : 0 < b) (hc : 0 < c) (h : tw3 a b c = false) : (mcL [a, b, c] 0 0).2 = 1 := by
  have hn : ¬ (a ≤ max b c ∧ b ≤ max a c ∧ c ≤ max a b) := fun x => by rw [tw3_iff.2 x] at h; cases h
  simp only [mcL]
  split
  · split
    · split
      · rfl
      · split
        · exfalso; omega
        · rfl
    · split
      · split
        · rfl
        · split <;> (exfalso; omega)
      · split
        · rfl
        · split
          · exfalso; omega
          · rfl
  · exfalso; omega
theorem bad_sums {M : List (List Int)} (h : metB M = true) {i j k l : Nat} (h1 : i < j) (h2 : j < k) (h3 : k < l) (h4 : l < M.length) (hg : goodF M i j k l = false) : (mcL (sumsL M i j k l) 0 0).2 = 1 := by
  obtain ⟨_, hm⟩ := met_iff.1 h
  unfold sumsL sumA
  have a1 := hm.far i j (by omega) (by omega) (by omega)
  have a2 := hm.far k l (by omega) (by omega) (by omega)
  have a3 := hm.far i k (by omega) (by omega) (by omega)
  have a4 := hm.far j l (by omega) (by omega) (by omega)
  have a5 := hm.far i l (by omega) (by omega) (by omega)
  have a6 := hm.far j k (by omega) (by omega) (by omega)
  exact mc_three (by omega) (by omega) (by omega) hg
/-- an ultrametric is a tree metric -/
theorem ult_tree {n : Nat} {m : Nat → Nat → Int} (hm : Met n m) (h : Ult n m) : Tree n m := by
  intro i j k l hi hj hk hl
  have u := fun a b c (ha : a < n) (hb : b < n) (hc : c < n) => h a b c ha hb hc
  have s1 := hm.sym i j hi hj; have s2 := hm.sym i k hi hk; have s3 := hm.sym i l hi hl
  have s4 := hm.sym j k hj hk; have s5 := hm.sym j l hj hl; have s6 := hm.sym k l hk hl
  have a1 := u i k j hi hk hj; have a2 := u i j k hi hj hk; have a3 := u j i k hj hi hk
  have b1 := u i l j hi hl hj; have b2 := u i j l hi hj hl; have b3 := u j i l hj hi hl
  have c1 := u i l k hi hl hk; have c2 := u i k l hi hk hl; have c3 := u k i l hk hi hl
  have d1 := u j l k hj hl hk; have d2 := u j k l hj hk hl; have d3 := u k j l hk hj hl
  unfold Four
  omega
theorem ult_tree_b {M : List (List Int)} (h : metB M = true) (hu : utrB M = true) : (badF M).isNone = true :=
  (isNone_iff h).2 (ult_tree (met_iff.1 h).2 ((utr_iff h).1 hu))

/-! ### Cherries -/
/-- the differences of the distances from two points, from the point k on; s: the first one, if there was one -/
def cheR (M : List (List Int)) (i j : Nat) : Nat → Nat → Option Int → Bool
  | 0, _, _ => true
  | d + 1, k, s => if k = i ∨ k = j then cheR M i j d (k + 1) s else match s with
    | none => cheR M i j d (k + 1) (some (ent M i k - ent M j k))
    | some y => if ent M i k - ent M j k = y then cheR M i j d (k + 1) (some y) else false
/-- two points are a cherry -/
def cheP (M : List (List Int)) (i j : Nat) : Bool := cheR M i j M.length 0 none
/-- all cherries -/
def cheL (M : List (List Int)) : List (List Int) := (List.range M.length).flatMap fun i => ((List.range' (i + 1) (M.length - (i + 1))).filter (cheP M i)).map fun (j : Nat) => [(i : Int), (j : Int)]
theorem che_all {M : List (List Int)} {i j : Nat} {y : Int} (h : ∀ k, k < M.length → k ≠ i → k ≠ j → ent M i k - ent M j k = y) : ∀ (d k : Nat) (s : Option Int), k + d ≤ M.length → (s = none ∨ s = some y) → cheR M i j d k s = true
  | 0, _, _, _, _ => rfl
  | d + 1, k, s, hk, hs => by
    unfold cheR
    by_cases e : k = i ∨ k = j
    · rw [if_pos e]; exact che_all h d (k + 1) s (by omega) hs
    · rw [if_neg e]
      have e1 := h k (by omega) (fun x => e (.inl x)) (fun x => e (.inr x))
      rcases hs with rfl | rfl
      · show cheR M i j d (k + 1) (some (ent M i k - ent M j k)) = true
        rw [e1]; exact che_all h d (k + 1) _ (by omega) (.inr rfl)
      · show (if ent M i k - ent M j k = y then cheR M i j d (k + 1) (some y) else false) = true
        rw [if_pos e1]; exact che_all h d (k + 1) _ (by omega) (.inr rfl)
theorem max_of {n : Nat} {f : Nat → Int} {p : Nat → Prop} (h : ∃ i, i < n ∧ p i) : ∃ i, i < n ∧ p i ∧ ∀ j, j < n → p j → f j ≤ f i := by
  induction n with
  | zero => obtain ⟨i, hi, _⟩ := h; omega
  | succ n ih =>
    by_cases hn : ∃ i, i < n ∧ p i
    · obtain ⟨i, h1, h2, h3⟩ := ih hn
      by_cases hp : p n ∧ f i < f n
      · refine ⟨n, by omega, hp.1, fun j hj hpj => ?_⟩
        by_cases e : j = n
        · rw [e]; exact Int.le_refl _
        · have := h3 j (by omega) hpj; omega
      · refine ⟨i, by omega, h2, fun j hj hpj => ?_⟩
        by_cases e : j = n
        · subst e; exact Int.not_lt.1 fun x => hp ⟨hpj, x⟩
        · exact h3 j (by omega) hpj
    · obtain ⟨i, h1, h2⟩ := h
      have : i = n := Classical.byContradiction fun e => hn ⟨i, by omega, h2⟩
      subst this
      refine ⟨i, h1, h2, fun j hj hpj => ?_⟩
      by_cases e : j = i
      · rw [e]; exact Int.le_refl _
      · exact (hn ⟨j, by omega, hpj⟩).elim
/-- the two points that are joined farthest from the first -/
theorem cherry_ex {n : Nat} {m : Nat → Nat → Int} (hm : Met n m) (ht : Tree n m) (h3 : 3 ≤ n) : ∃ i j, i < j ∧ j < n ∧ ∃ y, ∀ k, k < n → k ≠ i → k ≠ j → m i k - m j k = y := by
  let g : Nat → Nat → Int := fun i j => m 0 i + m 0 j - m i j
  -- for each i the best partner
  have hb : ∀ i, ∃ j, 1 ≤ i ∧ i < n → j < n ∧ (1 ≤ j ∧ j ≠ i) ∧ ∀ k, k < n → (1 ≤ k ∧ k ≠ i) → g i k ≤ g i j := fun i => by
    by_cases hi : 1 ≤ i ∧ i < n
    · obtain ⟨j, a, b, c⟩ := max_of (n := n) (f := g i) (p := fun j => 1 ≤ j ∧ j ≠ i) (by
        by_cases e : i = 1
        · exact ⟨2, by omega, by omega, by omega⟩
        · exact ⟨1, by omega, by omega, by omega⟩)
      exact ⟨j, fun _ => ⟨a, b, c⟩⟩
    · exact ⟨0, fun h => (hi h).elim⟩
  obtain ⟨p, hp⟩ := Classical.axiomOfChoice hb
  obtain ⟨i, i1, i2, i3⟩ := max_of (n := n) (f := fun i => g i (p i)) (p := fun i => 1 ≤ i) ⟨1, by omega, by omega⟩
  obtain ⟨j1, ⟨j2, j3⟩, j4⟩ := hp i ⟨i2, i1⟩
  obtain ⟨j, hj⟩ : ∃ j, p i = j := ⟨_, rfl⟩
  have i3 : ∀ a b, 1 ≤ a → a < n → 1 ≤ b → b < n → a ≠ b → g a b ≤ g i j := fun a b a1 a2 b1 b2 hab => by
    have h1 := (hp a ⟨a1, a2⟩).2.2 b b2 ⟨b1, fun e => hab e.symm⟩
    have h2 := i3 a a2 a1
    rw [← hj]
    omega
  rw [hj] at j1 j2 j3
  have key : ∀ k, k < n → k ≠ i → k ≠ j → m i k - m j k = m 0 i - m 0 j := fun k hk hki hkj => by
    have s1 := hm.sym 0 i (by omega) i1
    have s2 := hm.sym 0 j (by omega) j1
    by_cases e : k = 0
    · subst e
      omega
    · have c1 := i3 i k i2 i1 (by omega) hk (fun x => hki x.symm)
      have c2 := i3 j k j2 j1 (by omega) hk (fun x => hkj x.symm)
      have f := ht 0 i j k (by omega) i1 j1 hk
      unfold Four at f
      simp only [g] at c1 c2
      omega
  rcases Nat.lt_or_gt_of_ne j3 with h | h
  · refine ⟨j, i, h, i1, m 0 j - m 0 i, fun k hk h1 h2 => ?_⟩
    have := key k hk h2 h1
    omega
  · exact ⟨i, j, h, j1, _, fun k hk h1 h2 => key k hk h1 h2⟩
theorem che_ne {M : List (List Int)} (h : metB M = true) (ht : (badF M).isNone = true) (h3 : 3 ≤ M.length) : cheL M ≠ [] := by
  obtain ⟨i, j, h1, h2, y, h4⟩ := cherry_ex (met_iff.1 h).2 ((isNone_iff h).1 ht) h3
  have hc : cheP M i j = true := che_all h4 _ _ _ (by omega) (.inl rfl)
  have : [(i : Int), (j : Int)] ∈ cheL M := by
    unfold cheL
    rw [List.mem_flatMap]
    refine ⟨i, by rw [List.mem_range]; omega, List.mem_map.2 ⟨j, List.mem_filter.2 ⟨by rw [List.mem_range'_1]; omega, hc⟩, rfl⟩⟩
  intro e
  rw [e] at this
  simp at this

/-! ### Ends and nearest points -/
theorem near_all (i : Nat) : ∀ (ns : List Int) (k : Nat) (a b : Int), (nearL i k a b ns).2 ≤ b ∧ (∀ x, x < ns.length → k + x ≠ i → (nearL i k a b ns).2 ≤ ns.getD x 0) ∧
    ((nearL i k a b ns = (a, b) ∧ ∀ x, x < ns.length → k + x ≠ i → b ≤ ns.getD x 0) ∨ ∃ x, x < ns.length ∧ k + x ≠ i ∧ (nearL i k a b ns).1 = ((k + x : Nat) : Int) ∧ (nearL i k a b ns).2 = ns.getD x 0)
  | [], k, a, b => ⟨Int.le_refl _, fun x h => by simp at h, .inl ⟨rfl, fun x h => by simp at h⟩⟩
  | n :: ns, k, a, b => by
    have shift : ∀ (a' b' : Int), nearL i k a b (n :: ns) = nearL i (k + 1) a' b' ns → (b' ≤ b) → (k ≠ i → b' ≤ n) → ((a' = a ∧ b' = b ∧ (k ≠ i → b ≤ n)) ∨ (a' = (k : Int) ∧ b' = n ∧ k ≠ i)) →
        (nearL i k a b (n :: ns)).2 ≤ b ∧ (∀ x, x < (n :: ns).length → k + x ≠ i → (nearL i k a b (n :: ns)).2 ≤ (n :: ns).getD x 0) ∧
        ((nearL i k a b (n :: ns) = (a, b) ∧ ∀ x, x < (n :: ns).length → k + x ≠ i → b ≤ (n :: ns).getD x 0) ∨ ∃ x, x < (n :: ns).length ∧ k + x ≠ i ∧ (nearL i k a b (n :: ns)).1 = ((k + x : Nat) : Int) ∧ (nearL i k a b (n :: ns)).2 = (n :: ns).getD x 0) := by
      intro a' b' he hb hn hor
      obtain ⟨h1, h2, h3⟩ := near_all i ns (k + 1) a' b'
      rw [he]
      refine ⟨by omega, fun x hx hne => ?_, ?_⟩
      · cases x with
        | zero => have := hn (by omega); simp; omega
        | succ x => have := h2 x (by simp at hx; omega) (by omega); simpa using this
      · rcases h3 with ⟨h3, h4⟩ | ⟨x, hx, hne, e1, e2⟩
        · rcases hor with ⟨rfl, rfl, hbn⟩ | ⟨rfl, rfl, hki⟩
          · refine .inl ⟨h3, fun x hx hne => ?_⟩
            cases x with
            | zero => exact hbn (by omega)
            | succ x => have := h4 x (by simp at hx; omega) (by omega); simpa using this
          · refine .inr ⟨0, by simp, by omega, ?_, ?_⟩
            · rw [h3]; simp
            · rw [h3]; simp
        · refine .inr ⟨x + 1, by simp; omega, by omega, ?_, ?_⟩
          · rw [e1]; congr 1; omega
          · rw [e2]; simp
    by_cases e : k = i
    · exact shift a b (nearL_own i k a b n ns e) (Int.le_refl _) (fun h => (h e).elim) (.inl ⟨rfl, rfl, fun h => (h e).elim⟩)
    · by_cases h : n < b
      · exact shift k n (nearL_less i k a b n ns e h) (by omega) (fun _ => Int.le_refl _) (.inr ⟨rfl, rfl, e⟩)
      · exact shift a b (nearL_more i k a b n ns e h) (Int.le_refl _) (fun _ => by omega) (.inl ⟨rfl, rfl, fun _ => by omega⟩)
/-- what the law asks of ends and nearest points -/
theorem near_law {M : List (List Int)} {i : Int} {x y : Int} (h : nearB M i = ((x, y), true)) : metB M = true ∧ ∃ j k : Nat, i = j ∧ x = k ∧ j < M.length ∧ k < M.length ∧ k ≠ j ∧ y = ent M j k ∧ 1 ≤ y ∧ y ≤ 10000 ∧ ∀ l, l < M.length → l ≠ j → y ≤ ent M j l := by
  unfold nearB at h
  cases t : metB M && inB i 0 (M.length - 1) with
  | false => rw [t] at h; simp at h
  | true =>
    rw [t, if_pos rfl] at h
    simp only [Bool.and_eq_true] at t
    obtain ⟨hM, hi⟩ := t
    have hi := inB_iff.1 hi
    obtain ⟨hs, hm⟩ := met_iff.1 hM
    obtain ⟨j, rfl⟩ : ∃ j : Nat, i = j := ⟨i.toNat, by omega⟩
    have hj : j < M.length := by omega
    simp only [Int.toNat_natCast] at h
    have hlen := sqB_len hs hj
    obtain ⟨_, h2, h3⟩ := near_all j (M.getD j []) 0 0 1000000000
    have hr := congrArg Prod.fst h
    have hx : nearL j 0 0 1000000000 (M.getD j []) = (x, y) := hr
    rw [hx] at h2 h3
    rcases h3 with ⟨h3, h4⟩ | ⟨k, hk, hne, e1, e2⟩
    · exfalso
      obtain ⟨l, hl, hlj⟩ : ∃ l, l < M.length ∧ l ≠ j := by
        by_cases e : j = 0
        · exact ⟨1, by have := hm.n2; omega, by omega⟩
        · exact ⟨0, by omega, fun x => e x.symm⟩
      have a := h4 l (by omega) (by omega)
      have b := (hm.far j l hj hl (fun e => hlj e.symm)).2
      unfold ent at b
      omega
    · have hkn : k < M.length := by omega
      have hkj : k ≠ j := by omega
      have far := hm.far j k hj hkn (fun e => hkj e.symm)
      have ey : y = ent M j k := e2
      refine ⟨hM, j, k, rfl, by simpa using e1, hj, hkn, hkj, ey, by omega, by omega, fun l hl hlj => h2 l (by omega) (by omega)⟩
theorem end_law {M : List (List Int)} {i : Int} {x : Int} (h : endB M i = (x, true)) : ∃ p y, nearB M i = ((p, y), true) ∧ 0 ≤ x ∧ x ≤ 2 * y := by
  unfold endB at h
  cases t : metB M && (decide (3 ≤ M.length) && inB i 0 ((M.length : Int) - 1)) with
  | false => rw [t] at h; simp at h
  | true =>
    rw [t, if_pos rfl] at h
    have hx : endS M i.toNat = x := congrArg Prod.fst h
    simp only [Bool.and_eq_true, decide_eq_true_eq] at t
    obtain ⟨hM, h3, hi⟩ := t
    have hn : ∃ r, nearB M i = (r, true) := by
      unfold nearB
      rw [hM, hi]; exact ⟨_, rfl⟩
    obtain ⟨⟨p, y⟩, hn⟩ := hn
    obtain ⟨_, j, k, rfl, rfl, hj, hk, hkj, ey, y1, y2, _⟩ := near_law hn
    obtain ⟨_, hm⟩ := met_iff.1 hM
    simp only [Int.toNat_natCast] at hx
    refine ⟨_, y, hn, ?_, ?_⟩
    · rw [← hx]
      refine endS_le.2 ⟨by omega, fun a ha b hb h1 h2 h4 => ?_⟩
      unfold endV
      have := hm.tri a j b ha hj hb
      have s := hm.sym a j ha hj
      omega
    · have hle := (endS_le (M := M) (i := j) (b := endS M j)).1 (Int.le_refl _)
      obtain ⟨l, hl, hlj, hlk⟩ : ∃ l, l < M.length ∧ l ≠ j ∧ l ≠ k := by
        by_cases c0 : j ≠ 0 ∧ k ≠ 0
        · exact ⟨0, by omega, fun e => c0.1 e.symm, fun e => c0.2 e.symm⟩
        · by_cases c1 : j ≠ 1 ∧ k ≠ 1
          · exact ⟨1, by omega, fun e => c1.1 e.symm, fun e => c1.2 e.symm⟩
          · exact ⟨2, by omega, by omega, by omega⟩
      have := hle.2 k hk l hl hkj hlj (fun e => hlk e.symm)
      unfold endV at this
      have t := hm.tri j k l hj hk hl
      rw [hx] at this
      omega
theorem near_no_end {M : List (List Int)} {i : Int} (h : (nearB M i).2 = false) : endB M i = (0, false) := by
  unfold nearB at h
  unfold endB
  cases t : metB M && inB i 0 (M.length - 1) with
  | true => rw [t] at h; simp at h
  | false =>
    have : (metB M && (decide (3 ≤ M.length) && inB i 0 ((M.length : Int) - 1))) = false := by
      cases a : metB M <;> cases b : inB i 0 ((M.length : Int) - 1) <;> rw [a, b] at t <;> simp_all
    rw [this]; rfl
end Go.Proofs.Ytcgcgmlonhganaa
