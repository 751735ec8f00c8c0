/- Twice the length of an end: both programs' functions. -/
import Derived.Test.YtcgcgmlonhganaaIsUltra
import Derived.Test.YtcgcgmlonhganaaVertices
namespace Go.Proofs.Ytcgcgmlonhganaa
open Go.RowKit
open Go.Lib (hid)

def foldR (f : Nat → Int → Int) : Nat → Nat → Int → Int
  | 0, _, a => a
  | m + 1, i, a => foldR f m (i + 1) (f i a)
/-- f for all from i on, below n -/
def foldFrom (n i : Nat) (f : Nat → Int → Int) (a : Int) : Int := foldR f (n - i) i a
theorem foldFrom_ge {n i : Nat} (f : Nat → Int → Int) (a : Int) (h : n ≤ i) : foldFrom n i f a = a := by rw [foldFrom, show n - i = 0 by omega]; rfl
theorem foldFrom_lt {n i : Nat} (f : Nat → Int → Int) (a : Int) (h : i < n) : foldFrom n i f a = foldFrom n (i + 1) f (f i a) := by
  rw [foldFrom, foldFrom, show n - i = (n - (i + 1)) + 1 by omega]; rfl
theorem foldFrom_le {b : Int} {f : Nat → Int → Int} {c : Nat → Prop} (hf : ∀ i a, b ≤ f i a ↔ b ≤ a ∧ c i) : ∀ (m i : Nat) (N : Nat) (a : Int), i + m = N → (b ≤ foldFrom N i f a ↔ b ≤ a ∧ ∀ j, i ≤ j → j < N → c j) := by
  intro m
  induction m with
  | zero =>
    intro i N a h
    rw [foldFrom_ge f a (by omega)]
    exact ⟨fun h1 => ⟨h1, fun j h2 h3 => by omega⟩, fun h1 => h1.1⟩
  | succ m ih =>
    intro i N a h
    rw [foldFrom_lt f a (by omega), ih (i + 1) N _ (by omega), hf]
    constructor
    · rintro ⟨⟨h1, h2⟩, h3⟩
      refine ⟨h1, fun j hj hj' => ?_⟩
      by_cases e : j = i
      · subst e; exact h2
      · exact h3 j (by omega) hj'
    · rintro ⟨h1, h2⟩
      exact ⟨⟨h1, h2 i (Nat.le_refl _) (by omega)⟩, fun j hj hj' => h2 j (by omega) hj'⟩
theorem loopR_fold {f : Nat → Int → Bool × Int} {g : Nat → Int → Int} {n : Nat} : ∀ (m i : Nat) (s : Int), i + m = n → (∀ j s, i ≤ j → j < n → f j s = (true, g j s)) → loopR f m i s = (true, foldFrom n i g s) := by
  intro m
  induction m with
  | zero => intro i s hi _; rw [loopR_zero, foldFrom_ge _ _ (by omega)]
  | succ m ih =>
    intro i s hi hq
    have h1 := hq i s (Nat.le_refl _) (by omega)
    rw [loopR_yes (by rw [h1]), h1, foldFrom_lt _ _ (by omega)]
    exact ih (i + 1) _ (by omega) (fun j s h2 h3 => hq j s (by omega) h3)

/-- what two points add to the end of a third -/
def endV (M : List (List Int)) (i j k : Nat) : Int := ent M i j + ent M i k - ent M j k
def endK (M : List (List Int)) (i j k : Nat) (a : Int) : Int := if j = i ∨ k = i ∨ j = k then a else min a (endV M i j k)
def endJ (M : List (List Int)) (n i j : Nat) (a : Int) : Int := foldFrom n 0 (endK M i j) a
/-- twice the end, as the reference counts -/
def endS (M : List (List Int)) (i : Nat) : Int := foldFrom M.length 0 (endJ M M.length i) 40000
def endK2 (M : List (List Int)) (i j k : Nat) (a : Int) : Int := if j = i ∨ k = i then a else min a (endV M i j k)
def endJ2 (M : List (List Int)) (n i j : Nat) (a : Int) : Int := foldFrom n (j + 1) (endK2 M i j) a
/-- .. as the program counts -/
def endI (M : List (List Int)) (i : Nat) : Int := foldFrom M.length 0 (endJ2 M M.length i) 1000000000

theorem endS_le {M : List (List Int)} {i : Nat} {b : Int} : b ≤ endS M i ↔ b ≤ 40000 ∧ ∀ j, j < M.length → ∀ k, k < M.length → j ≠ i → k ≠ i → j ≠ k → b ≤ endV M i j k := by
  have h1 : ∀ j k a, b ≤ endK M i j k a ↔ b ≤ a ∧ (j ≠ i → k ≠ i → j ≠ k → b ≤ endV M i j k) := by
    intro j k a
    unfold endK
    split
    · rename_i h
      exact ⟨fun h1 => ⟨h1, fun a b c => by omega⟩, fun h1 => h1.1⟩
    · rename_i h
      constructor
      · intro h1; exact ⟨by omega, fun _ _ _ => by omega⟩
      · rintro ⟨h1, h2⟩; have := h2 (by omega) (by omega) (by omega); omega
  have h2 : ∀ j a, b ≤ endJ M M.length i j a ↔ b ≤ a ∧ ∀ k, k < M.length → (j ≠ i → k ≠ i → j ≠ k → b ≤ endV M i j k) := by
    intro j a
    rw [endJ, foldFrom_le (fun k a => h1 j k a) M.length 0 M.length a (by omega)]
    exact ⟨fun h => ⟨h.1, fun k hk => h.2 k (Nat.zero_le _) hk⟩, fun h => ⟨h.1, fun k _ hk => h.2 k hk⟩⟩
  rw [endS, foldFrom_le h2 M.length 0 M.length _ (by omega)]
  exact ⟨fun h => ⟨h.1, fun j hj => h.2 j (Nat.zero_le _) hj⟩, fun h => ⟨h.1, fun j _ hj => h.2 j hj⟩⟩
theorem endI_le {M : List (List Int)} {i : Nat} {b : Int} : b ≤ endI M i ↔ b ≤ 1000000000 ∧ ∀ j, j < M.length → ∀ k, j < k → k < M.length → j ≠ i → k ≠ i → b ≤ endV M i j k := by
  have h1 : ∀ j k a, b ≤ endK2 M i j k a ↔ b ≤ a ∧ (j ≠ i → k ≠ i → b ≤ endV M i j k) := by
    intro j k a
    unfold endK2
    split
    · rename_i h
      exact ⟨fun h1 => ⟨h1, fun a b => by omega⟩, fun h1 => h1.1⟩
    · rename_i h
      constructor
      · intro h1; exact ⟨by omega, fun _ _ => by omega⟩
      · rintro ⟨h1, h2⟩; have := h2 (by omega) (by omega); omega
  have h2 : ∀ j a, j < M.length → (b ≤ endJ2 M M.length i j a ↔ b ≤ a ∧ ∀ k, j < k → k < M.length → (j ≠ i → k ≠ i → b ≤ endV M i j k)) := by
    intro j a hj
    rw [endJ2, foldFrom_le (fun k a => h1 j k a) (M.length - (j + 1)) (j + 1) M.length a (by omega)]
    exact ⟨fun h => ⟨h.1, fun k hk hk' => h.2 k hk hk'⟩, fun h => ⟨h.1, fun k hk hk' => h.2 k hk hk'⟩⟩
  have h3 : ∀ (m j : Nat) (a : Int), j + m = M.length → (b ≤ foldFrom M.length j (endJ2 M M.length i) a ↔ b ≤ a ∧ ∀ j', j ≤ j' → j' < M.length → ∀ k, j' < k → k < M.length → (j' ≠ i → k ≠ i → b ≤ endV M i j' k)) := by
    intro m
    induction m with
    | zero =>
      intro j a h
      rw [foldFrom_ge _ a (by omega)]
      exact ⟨fun h1 => ⟨h1, fun j h2 h3 => by omega⟩, fun h1 => h1.1⟩
    | succ m ih =>
      intro j a h
      rw [foldFrom_lt _ a (by omega), ih (j + 1) _ (by omega), h2 j a (by omega)]
      constructor
      · rintro ⟨⟨h1, h2⟩, h3⟩
        refine ⟨h1, fun j' hj hj' => ?_⟩
        by_cases e : j' = j
        · subst e; exact h2
        · exact h3 j' (by omega) hj'
      · rintro ⟨h1, h2⟩
        exact ⟨⟨h1, h2 j (Nat.le_refl _) (by omega)⟩, fun j' hj hj' => h2 j' (by omega) hj'⟩
  rw [endI, h3 M.length 0 _ (by omega)]
  exact ⟨fun h => ⟨h.1, fun j hj => h.2 j (Nat.zero_le _) hj⟩, fun h => ⟨h.1, fun j _ hj => h.2 j hj⟩⟩
theorem endV_comm {M : List (List Int)} (hm : metB M = true) {i j k : Nat} (hj : j < M.length) (hk : k < M.length) : endV M i j k = endV M i k j := by
  have := symB_comm (metB_parts hm).2.2.2.1 hj hk
  unfold endV; omega
theorem end_same {M : List (List Int)} (hm : metB M = true) (hn : 3 ≤ M.length) {i : Nat} (hi : i < M.length) : endI M i = endS M i := by
  have hp := metB_parts hm
  have key : ∀ b, b ≤ endI M i ↔ b ≤ endS M i := by
    intro b
    rw [endI_le, endS_le]
    constructor
    · rintro ⟨h1, h2⟩
      have hall : ∀ j, j < M.length → ∀ k, k < M.length → j ≠ i → k ≠ i → j ≠ k → b ≤ endV M i j k := by
        intro j hj k hk h3 h4 h5
        by_cases e : j < k
        · exact h2 j hj k e hk h3 h4
        · rw [endV_comm hm hj hk]; exact h2 k hk j (by omega) hj h4 h3
      refine ⟨?_, hall⟩
      obtain ⟨j, k, hj, hk, h3, h4, h5⟩ : ∃ j k, j < M.length ∧ k < M.length ∧ j ≠ i ∧ k ≠ i ∧ j ≠ k := by
        by_cases e0 : i = 0
        · exact ⟨1, 2, by omega, by omega, by omega, by omega, by omega⟩
        · by_cases e1 : i = 1
          · exact ⟨0, 2, by omega, by omega, by omega, by omega, by omega⟩
          · exact ⟨0, 1, by omega, by omega, by omega, by omega, by omega⟩
      have h6 := hall j hj k hk h3 h4 h5
      have b1 := symB_bound hp.2.2.2.1 hi hj
      have b2 := symB_bound hp.2.2.2.1 hi hk
      have b3 := symB_bound hp.2.2.2.1 hj hk
      unfold endV at h6
      omega
    · rintro ⟨h1, h2⟩
      exact ⟨by omega, fun j hj k hjk hk h3 h4 => h2 j hj k hk h3 h4 (by omega)⟩
  have h1 := (key (endI M i)).1 (Int.le_refl _)
  have h2 := (key (endS M i)).2 (Int.le_refl _)
  omega

def stepE (M : List (List Int)) (i : Nat) (s : Int) (xs : List Int) : Int := endK2 M i (xs.getD 0 0).toNat (xs.getD 1 0).toNat s
theorem nextR_end2 (M : List (List Int)) (i : Nat) (s : Int) : nextR (fun (_ : Int) _ => true) (stepE M i) M.length 2 M.length 0 [] s = (true, foldFrom M.length 0 (endJ2 M M.length i) s) := by
  rw [nextR_loop _ _ (by simp) (by omega)]
  refine loopR_fold _ _ _ (by omega) (fun j s _ hj => ?_)
  rw [nextR_loop _ _ (by simp) (by omega)]
  refine (loopR_fold (g := endK2 M i j) _ _ _ (by omega) (fun k s hk0 hk => ?_)).trans rfl
  rw [nextR_yes _ _ (by simp)]
  simp [stepE]

/-- the visitor's box, block wp.heap.size, holds a number; the rest below it is as it was -/
def VNum (wp : World) (s : Int) (w : World) (D : Nat → Prop) : Prop :=
  Below wp.heap.size wp w ∧ Boxed w wp.heap.size 3 (.int .i64 s) ∧ (∀ b, D b ↔ b = wp.heap.size) ∧ -100000 ≤ s ∧ s ≤ 1000000000
theorem VNum.frame {wp : World} {s : Int} {w w' : World} {D : Nat → Prop} (h : VNum wp s w D) (hk : KeepOn (fun b => b < wp.heap.size + 1 ∨ D b) w w') : VNum wp s w' D := by
  obtain ⟨h1, h2, h3, h4, h5⟩ := h
  exact ⟨h1.trans (hk.below (fun b hb => .inl (by omega)) (by have := h2.lt; omega)), (hk.block _ h2.lt (.inl (by omega))).trans h2, h3, h4, h5⟩
theorem preC_two {n : Nat} {xs : List Int} (h : preC n 2 xs) : ∃ i j : Nat, xs = [(i : Int), (j : Int)] ∧ i < j ∧ j < n := by
  obtain ⟨h1, h2, h3⟩ := h
  match xs, h1 with
  | [a, b], _ =>
    simp at h2 h3
    exact ⟨a.toNat, b.toNat, by rw [Int.toNat_of_nonneg h2.1.1, Int.toNat_of_nonneg h2.2.1], by omega, by omega⟩

set_option maxRecDepth 100000 in
set_option maxHeartbeats 4000000 in
theorem iEndF_c (M : List (List Int)) (mv : Value) (bm bi i : Nat) (wp w : World) (D : Nat → Prop) (s : Int) (hm : metB M = true) (h : RMat wp mv M) (hbm : wp.cell? ⟨bm, 0, none⟩ = some mv) (hbi : wp.cell? ⟨bi, 0, none⟩ = some (.int .i64 i)) (hi : i < M.length) (hV : VNum wp s w D) (v : Value) (j k : Nat)
    (hl : RInts w v [(j : Int), (k : Int)]) (hj : j < M.length) (hk : k < M.length) :
    Calls Try.prog 83 (#[v] ++ #[.pointer (some ⟨bi, 0, none⟩), .pointer (some ⟨wp.heap.size, 0, none⟩), .pointer (some ⟨bm, 0, none⟩)]) w (RetV (VNum wp) D w true (endK2 M i j k s)) := by
  show Calls Try.prog 83 #[v, .pointer (some ⟨bi, 0, none⟩), .pointer (some ⟨wp.heap.size, 0, none⟩), .pointer (some ⟨bm, 0, none⟩)] w _
  have HV := hid hV
  obtain ⟨hb, hbx, hDD, hs0, hs1⟩ := hV
  have hp := metB_parts hm
  obtain ⟨g, o, cap, G, O, C, rfl, q1, q2, hsq⟩ := met_open h hm
  have e0 := (hb.cell (p := ⟨bm, 0, none⟩) (cell_lt hbm)).trans hbm
  have e1 := (hb.cell (p := ⟨bi, 0, none⟩) (cell_lt hbi)).trans hbi
  have e2 := hbx.cell
  have f2 := hbx.frozen
  have hs := hsq.keep hb
  obtain ⟨ad, lcap, rfl, l1, l2, hc⟩ := hl
  obtain ⟨gl, ol, rfl, d0⟩ := hc 0 (by simp)
  obtain ⟨g1, o1, he, d1⟩ := hc 1 (by simp)
  simp only [Option.some.injEq, Addr.mk.injEq, and_true] at he
  obtain ⟨rfl, rfl⟩ := he
  clear hc
  have d0 : w.cell? ⟨gl, ol, none⟩ = some (.int .i64 (j : Int)) := d0
  have d1 : w.cell? ⟨gl, ol + 1, none⟩ = some (.int .i64 (k : Int)) := d1
  unfold maxLen at l2
  simp only [List.length_cons, List.length_nil, Nat.reduceAdd] at l1 ⊢
  have ri := hs.row i hi
  have rj := hs.row j hj
  have b1 := symB_bound hp.2.2.2.1 hi hj
  have b2 := symB_bound hp.2.2.2.1 hi hk
  have b3 := symB_bound hp.2.2.2.1 hj hk
  have c1 := hs.at_ i j hi hj
  have c2 := hs.at_ i k hi hk
  have c3 := hs.at_ j k hj hk
  obtain ⟨x, hx⟩ : ∃ x, ent M i j = x := ⟨_, rfl⟩
  obtain ⟨y, hy⟩ : ∃ y, ent M i k = y := ⟨_, rfl⟩
  obtain ⟨z, hz⟩ : ∃ z, ent M j k = z := ⟨_, rfl⟩
  rw [hx] at c1 b1
  rw [hy] at c2 b2
  rw [hz] at c3 b3
  have HEV : Hid (endV M i j k = x + y - z) := by show _ = _; rw [endV, hx, hy, hz]
  have hi1 : (i : Int) < (M.length : Int) := by omega
  have hj1 : (j : Int) < (M.length : Int) := by omega
  have hk1 : (k : Int) < (M.length : Int) := by omega
  have HDD := hid hDD
  have HB := hid hb
  have HBX := hid hbx
  have HIJ := hid (And.intro hs0 hs1)
  clear hx hy hz hs hsq hb hbm hbi h hm hp hDD hbx
  by_cases hji : j = i
  · have HE : Hid (endK2 M i j k s = s) := by show _ = _; rw [endK2, if_pos (.inl hji)]
    subst hji
    go_enter Try.func83, Try.ntmps83
    go_wp2
    go_quiet (fail)
    go_wp2
    go_ret
    exact ⟨D, rfl, by rw [HE.out]; exact HV.out.frame ((KeepOn.refl _ _).drewN _), fun c hc => ⟨by rw [(HDD.out c).1 hc]; exact HBX.out.lt, .inl hc⟩, (KeepOn.refl _ _).drewN _⟩
  · have t1 := bne_nat_true hji
    by_cases hki : k = i
    · have HE : Hid (endK2 M i j k s = s) := by show _ = _; rw [endK2, if_pos (.inr hki)]
      subst hki
      clear hji
      go_enter Try.func83, Try.ntmps83
      go_wp2
      go_quiet (fail)
      go_wp2
      go_ret
      exact ⟨D, rfl, by rw [HE.out]; exact HV.out.frame ((KeepOn.refl _ _).drewN _), fun c hc => ⟨by rw [(HDD.out c).1 hc]; exact HBX.out.lt, .inl hc⟩, (KeepOn.refl _ _).drewN _⟩
    · have t2 := bne_nat_true hki
      have HE : Hid (endK2 M i j k s = min s (x + y - z)) := by show _ = _; rw [endK2, if_neg (by omega), HEV.out]
      clear hji hki
      have f3 : IntKind.i64.wrap (x + y) = x + y := IntWalk.i64_in _ (by omega)
      have f4 : IntKind.i64.wrap (x + y - z) = x + y - z := IntWalk.i64_in _ (by omega)
      go_enter Try.func83, Try.ntmps83
      go_wp2
      go_quiet (fail)
      go_wp2
      obtain ⟨wq, hwq⟩ : ∃ wq : World, wq = (w.drewN nq).drew := ⟨_, rfl⟩
      have e0 : wq.cell? ⟨bm, 0, none⟩ = some (.slice (some ⟨g, o, none⟩) M.length cap) := by rw [hwq]; exact e0
      have e1 : wq.cell? ⟨bi, 0, none⟩ = some (.int .i64 i) := by rw [hwq]; exact e1
      have e2 : wq.cell? ⟨wp.heap.size, 0, none⟩ = some (.int .i64 s) := by rw [hwq]; exact e2
      have f2 : wq.frozen? ⟨wp.heap.size, 0, none⟩ = false := by rw [hwq]; exact f2
      have ri : wq.cell? ⟨g, o + i, none⟩ = some (.slice (some ⟨G i, O i, none⟩) M.length (C i)) := by rw [hwq]; exact ri
      have rj : wq.cell? ⟨g, o + j, none⟩ = some (.slice (some ⟨G j, O j, none⟩) M.length (C j)) := by rw [hwq]; exact rj
      have c1 : wq.cell? ⟨G i, O i + j, none⟩ = some (.int .i64 x) := by rw [hwq]; exact c1
      have c2 : wq.cell? ⟨G i, O i + k, none⟩ = some (.int .i64 y) := by rw [hwq]; exact c2
      have c3 : wq.cell? ⟨G j, O j + k, none⟩ = some (.int .i64 z) := by rw [hwq]; exact c3
      have hkq : KeepOn (fun c => ¬ D c) w wq := by rw [hwq]; exact ((KeepOn.refl _ _).drewN nq).drewN 1
      have HO : Aside (∀ m, m = min s (x + y - z) → VNum wp (min s (x + y - z)) (wq.setCell ⟨wp.heap.size, 0, none⟩ (.int .i64 m)) D ∧ KeepOn (fun c => ¬ D c) w (wq.setCell ⟨wp.heap.size, 0, none⟩ (.int .i64 m)) ∧ (wq.setCell ⟨wp.heap.size, 0, none⟩ (.int .i64 m)).heap.size = w.heap.size) := by
        intro m hmm
        have hbxq : Boxed wq wp.heap.size 3 (.int .i64 s) := by rw [hwq]; exact HBX.out
        have hbq : Below wp.heap.size wp wq := by rw [hwq]; exact below_dn2 (below_dn2 HB.out nq) 1
        refine ⟨⟨hbq.setCell (Nat.le_refl _) _, by rw [← hmm]; exact hbxq.set _, HDD.out, by omega, by omega⟩, hkq.trans (KeepOn.set _ _ _ (fun hn => hn ((HDD.out _).2 rfl))), ?_⟩
        rw [hwq]; simp [World.setCell]
      have HWQ := hid hwq
      clear hwq hkq
      refine wp_region_still_tail 25 (by kernel_rfl) (by kernel_rfl) ?_
      change wpStill _ _ (w.drewN nq).drew _ _ _
      rw [← HWQ.out]
      simp only [List.take_succ_cons, List.take_zero, List.drop_succ_cons, List.drop_zero]
      repeat still_step
      all_goals
        refine wpStill_nil ?_
        change wpList _ _ _ _ _ (w.drewN nq).drew
        rw [← HWQ.out]
        go_wp2
        all_goals
          go_ret
          exact ⟨D, rfl, by rw [HE.out]; exact (HO.out _ (by omega)).1, fun c hc => ⟨by rw [(HO.out _ (by omega)).2.2, (HDD.out c).1 hc]; exact HBX.out.lt, .inl hc⟩, (HO.out _ (by omega)).2.1⟩

theorem iEnd_vis (M : List (List Int)) (mv : Value) (bm bi i : Nat) (wp : World) (hm : metB M = true) (h : RMat wp mv M) (hbm : wp.cell? ⟨bm, 0, none⟩ = some mv) (hbi : wp.cell? ⟨bi, 0, none⟩ = some (.int .i64 i)) (hi : i < M.length) :
    Vis Int (wp.heap.size + 1) 83 #[.pointer (some ⟨bi, 0, none⟩), .pointer (some ⟨wp.heap.size, 0, none⟩), .pointer (some ⟨bm, 0, none⟩)] (fun _ _ => true) (stepE M i) (VNum wp) (preC M.length 2) where
  enter := Try.call83
  frame := fun s w w' D hv hk => hv.frame hk
  call := fun s w D v xs hv hl hp hw => by
    obtain ⟨j, k, rfl, h1, h2⟩ := preC_two hp
    have := iEndF_c M mv bm bi i wp w D s hm h hbm hbi hi hv v j k hl (by omega) h2
    simpa [stepE] using this

def endB (M : List (List Int)) (i : Int) : Int × Bool := if metB M && (decide (3 ≤ M.length) && inB i 0 ((M.length : Int) - 1)) then (endS M i.toNat, true) else (0, false)
theorem endB_yes {M : List (List Int)} {i : Int} (h : metB M = true) (h1 : 3 ≤ M.length) (h2 : inB i 0 ((M.length : Int) - 1) = true) : endB M i = (endS M i.toNat, true) := by rw [endB, h, decide_eq_true h1, h2]; rfl
theorem endB_no1 {M : List (List Int)} {i : Int} (h : metB M = false) : endB M i = (0, false) := by rw [endB, h]; rfl
theorem endB_no2 {M : List (List Int)} {i : Int} (h : ¬ 3 ≤ M.length) : endB M i = (0, false) := by rw [endB, decide_eq_false h]; simp
theorem endB_no3 {M : List (List Int)} {i : Int} (h : inB i 0 ((M.length : Int) - 1) = false) : endB M i = (0, false) := by rw [endB, h]; simp

set_option maxRecDepth 100000 in
set_option maxHeartbeats 2000000 in
theorem iTwiceEnd_u (v : Value) (M : List (List Int)) (i : Int) (w : World) (h : RMat w v M) :
    Calls Try.prog 40 #[v, .int .i64 i] w fun e w' => e = .returned (.tuple #[.int .i64 (endB M i).1, .bool (endB M i).2]) ∧ Below w.heap.size w w' := by
  have HR := hid h
  obtain ⟨a, cap, rfl, q1, q2, hc⟩ := h
  clear hc
  unfold maxLen at q2
  have hba : Below w.heap.size w (w.alloc (.cells #[.slice a M.length cap] 22)) := (Below.refl _ _).alloc (Nat.le_refl _) _
  have hb0 : Below w.heap.size w ((w.alloc (.cells #[.slice a M.length cap] 22)).alloc (.cells #[.int .i64 i] 3)) := hba.alloc hba.size _
  have hc0 : ((w.alloc (.cells #[.slice a M.length cap] 22)).alloc (.cells #[.int .i64 i] 3)).cell? ⟨w.heap.size, 0, none⟩ = some (.slice a M.length cap) := by
    have h1 := cell_new w (.slice a M.length cap) 22
    have h2 : Below (w.alloc (.cells #[.slice a M.length cap] 22)).heap.size (w.alloc (.cells #[.slice a M.length cap] 22)) ((w.alloc (.cells #[.slice a M.length cap] 22)).alloc (.cells #[.int .i64 i] 3)) := (Below.refl _ _).alloc (Nat.le_refl _) _
    exact (h2.cell (p := ⟨w.heap.size, 0, none⟩) (cell_lt h1)).trans h1
  have hc1 : ((w.alloc (.cells #[.slice a M.length cap] 22)).alloc (.cells #[.int .i64 i] 3)).cell? ⟨w.heap.size + 1, 0, none⟩ = some (.int .i64 i) := by
    simp
  have HC0 := hid hc0
  have HC1 := hid hc1
  have HB0 := hid hb0
  have H0 := hid (HR.out.keep hb0)
  clear hba hc0 hc1 hb0
  rcases Bool.eq_false_or_eq_true (metB M) with t | t
  · have hp := metB_parts t
    have hn7 := hp.2.1
    have HT := hid t
    go_enter Try.func40, Try.ntmps40
    go_wp2_with fail
    refine (isMetric_c _ M _ H0.out).mono ?_
    rintro e w1 ⟨rfl, hb1⟩
    rw [t]
    have e0 := (hb1.cell (p := ⟨w.heap.size, 0, none⟩) (cell_lt HC0.out)).trans HC0.out
    have e1 := (hb1.cell (p := ⟨w.heap.size + 1, 0, none⟩) (cell_lt HC1.out)).trans HC1.out
    have H1 := hid (H0.out.keep hb1)
    have HB1 := hid (HB0.out.trans (hb1.mono HB0.out.size))
    have HE0 := hid e0
    have HE1 := hid e1
    clear hb1 hp
    by_cases hn3 : 3 ≤ M.length
    · have hn3z : ¬ (M.length : Int) < 3 := by omega
      have hab : Below w1.heap.size w1 (w1.alloc (.cells #[.int .i64 i] 3)) := (Below.refl _ _).alloc (Nat.le_refl _) _
      have hli := rints_new w1 [i] (by simp)
      have HLI : Hid (RInts (w1.alloc (.cells #[.int .i64 i] 3)) (.slice (some ⟨w1.heap.size, 0, none⟩) 1 1) [i]) := by show RInts _ _ _; simpa using hli
      have HAB := hid hab
      have HMA := hid (H1.out.keep hab)
      clear hab hli
      go_wp2_with fail
      refine (areVertices_c _ _ M [i] _ HMA.out HLI.out).mono ?_
      rintro e w2 ⟨rfl, hb2⟩
      have hall : allB [i] 0 ((M.length : Int) - 1) = inB i 0 ((M.length : Int) - 1) := by rw [allB_cons, allB_nil, Bool.and_true]
      rw [hall]
      have hb12 := HAB.out.trans (hb2.mono HAB.out.size)
      have HB2 := hid (HB1.out.trans (hb12.mono HB1.out.size))
      have HE2 := hid ((hb12.cell (p := ⟨w.heap.size, 0, none⟩) (cell_lt HE0.out)).trans HE0.out)
      have HE3 := hid ((hb12.cell (p := ⟨w.heap.size + 1, 0, none⟩) (cell_lt HE1.out)).trans HE1.out)
      have H2 := hid (H1.out.keep hb12)
      clear hb2 hb12 e0 e1 hall
      rcases Bool.eq_false_or_eq_true (inB i 0 ((M.length : Int) - 1)) with t2 | t2
      · have HM := hid (endB_yes t hn3 t2)
        have hir := inB_iff.1 t2
        rw [t2]
        obtain ⟨n, rfl⟩ : ∃ n : Nat, i = (n : Int) := ⟨i.toNat, by omega⟩
        rw [Int.toNat_natCast] at HM
        have hni : n < M.length := by omega
        have hs1 : (w2.alloc (.cells #[.int .i64 1000000000] 3)).heap.size = w2.heap.size + 1 := by simp
        have hv0 := iEnd_vis M (.slice a M.length cap) w.heap.size (w.heap.size + 1) n w2 HT.out H2.out HE2.out HE3.out hni
        rw [← hs1] at hv0
        have HV0 := hid hv0
        have HS1 := hid hs1
        have HVI : Hid (VNum w2 1000000000 (w2.alloc (.cells #[.int .i64 1000000000] 3)) (fun b => b = w2.heap.size)) :=
          ⟨(Below.refl _ _).alloc (Nat.le_refl _) _, Boxed.new w2 _ _, fun b => Iff.rfl, by omega, by omega⟩
        have HN := hid (nextR_end2 M n 1000000000)
        have HSM := hid (end_same HT.out hn3 hni)
        have hab2 : Below w2.heap.size w2 (w2.alloc (.cells #[.int .i64 1000000000] 3)) := (Below.refl _ _).alloc (Nat.le_refl _) _
        have e4 := (hab2.cell (p := ⟨w.heap.size, 0, none⟩) (cell_lt HE2.out)).trans HE2.out
        clear hv0 hs1 hab2
        go_wp2_with fail
        have hcall := choices_c M.length 2 (by omega) (by omega) 1000000000 (fun b => b = w2.heap.size) (w2.alloc (.cells #[.int .i64 1000000000] 3)) HV0.out (fun xs h1 h2 h3 => ⟨h1, h2, h3⟩) HVI.out (fun b hb => by rw [HS1.out, hb]; omega)
        rw [HN.out] at hcall
        refine hcall.mono ?_
        clear hcall e4
        rintro e w3 ⟨D1, rfl, ⟨k1, k2, k3, k4, k5⟩, hD1, hk1⟩
        have e5 := k2.cell
        have HB3 := hid (HB2.out.trans (k1.mono HB2.out.size))
        have HQ : Hid (foldFrom M.length 0 (endJ2 M M.length n) 1000000000 = endS M n) := HSM.out
        clear k1 k2 k3 k4 k5 hD1 hk1
        go_wp2
        go_ret2
        exact ⟨by rw [HM.out, ← HQ.out]; rfl, HB3.out⟩
      · rw [t2]
        have HM := hid (endB_no3 t2)
        go_wp2
        go_ret2
        exact ⟨by rw [HM.out]; rfl, HB2.out⟩
    · have HM := hid (endB_no2 (i := i) hn3)
      have hn3z : (M.length : Int) < 3 := by omega
      go_wp2
      go_ret2
      exact ⟨by rw [HM.out]; rfl, HB1.out⟩
  · have HM := hid (endB_no1 (i := i) t)
    go_enter Try.func40, Try.ntmps40
    go_wp2_with fail
    refine (isMetric_c _ M _ H0.out).mono ?_
    rintro e w1 ⟨rfl, hb1⟩
    rw [t]
    have HB1 := hid (HB0.out.trans (hb1.mono HB0.out.size))
    clear hb1
    go_wp2
    go_ret2
    exact ⟨by rw [HM.out]; rfl, HB1.out⟩

set_option maxRecDepth 100000 in
set_option maxHeartbeats 4000000 in
theorem sTwiceEnd_u (v : Value) (M : List (List Int)) (i : Int) (w : World) (h : RMat w v M) :
    Calls Try.prog 41 #[v, .int .i64 i] w fun e w' => e = .returned (.tuple #[.int .i64 (endB M i).1, .bool (endB M i).2]) ∧ Below w.heap.size w w' := by
  have HR := hid h
  rcases Bool.eq_false_or_eq_true (metB M) with t | t
  · have hp := metB_parts t
    have hn7 := hp.2.1
    have HSY := hid hp.2.2.2.1
    obtain ⟨g, o, cap, G, O, C, rfl, q1, q2, hsq⟩ := met_open h t
    have HSQ := hid hsq
    clear hp hsq
    have f0 : IntKind.i64.wrap ((M.length : Int) - 1) = (M.length : Int) - 1 := IntWalk.i64_in _ (by omega)
    by_cases hn3 : 3 ≤ M.length
    · have hn3z : ¬ (M.length : Int) < 3 := by omega
      rcases Bool.eq_false_or_eq_true (inB i 0 ((M.length : Int) - 1)) with t2 | t2
      · have HM := hid (endB_yes t hn3 t2)
        have hir := inB_iff.1 t2
        obtain ⟨n, rfl⟩ : ∃ n : Nat, i = (n : Int) := ⟨i.toNat, by omega⟩
        rw [Int.toNat_natCast] at HM
        have hni : n < M.length := by omega
        go_enter Try.func41, Try.ntmps41
        go_wp2_with fail
        refine (meGood_b _ M _ HR.out).mono ?_
        rintro e w1 ⟨rfl, hb1⟩
        rw [t]
        have HB1 := hid hb1
        clear hb1
        go_wp2_with (go_at_call 79; refine (l1In_c _ _ _ _).mono ?_; rintro r w' ⟨rfl, rfl⟩)
        go_loopg [6, 27] M.length (fun gk av jv wr => ∃ j : Nat, ∃ x : Int, j ≤ M.length ∧ gk = M.length - j ∧ jv = .int .i64 j ∧ av = .int .i64 x ∧ endS M n = foldFrom M.length j (endJ M M.length n) x ∧ -100000 ≤ x ∧ x ≤ 100000 ∧ Below w.heap.size w wr)
        case atStart => exact ⟨0, 40000, Nat.zero_le _, rfl, rfl, rfl, rfl, by omega, by omega, HB1.out⟩
        case round =>
          obtain ⟨j, x, hj, rfl, rfl, rfl, hr, hx0, hx1, hb⟩ := hrel
          have HR1 := hid hr
          have HBJ := hid hb
          clear hr hb f0
          by_cases hltj : j < M.length
          · have hltz : (j : Int) < (M.length : Int) := by omega
            go_wp2
            go_loopg [6, 32] M.length (fun gk av kv wr => ∃ k : Nat, ∃ y : Int, k ≤ M.length ∧ gk = M.length - k ∧ kv = .int .i64 k ∧ av = .int .i64 y ∧ endS M n = foldFrom M.length (j + 1) (endJ M M.length n) (foldFrom M.length k (endK M n j) y) ∧ -100000 ≤ y ∧ y ≤ 100000 ∧ Below w.heap.size w wr)
            case atStart => exact ⟨0, x, Nat.zero_le _, rfl, rfl, rfl, by rw [HR1.out, foldFrom_lt _ _ hltj]; rfl, hx0, hx1, HBJ.out⟩
            case round =>
              obtain ⟨k, y, hk, rfl, rfl, rfl, hr, hy0, hy1, hb⟩ := hrel
              have HR2 := hid hr
              have HBK := hid hb
              clear hr
              by_cases hltk : k < M.length
              · have hltzk : (k : Int) < (M.length : Int) := by omega
                have hs := HSQ.out.keep hb
                have ri := hs.row n hni
                have rj := hs.row j hltj
                have b1 := symB_bound HSY.out hni hltj
                have b2 := symB_bound HSY.out hni hltk
                have b3 := symB_bound HSY.out hltj hltk
                have c1 := hs.at_ n j hni hltj
                have c2 := hs.at_ n k hni hltk
                have c3 := hs.at_ j k hltj hltk
                obtain ⟨x1, h1⟩ : ∃ x, ent M n j = x := ⟨_, rfl⟩
                obtain ⟨x2, h2⟩ : ∃ x, ent M n k = x := ⟨_, rfl⟩
                obtain ⟨x3, h3⟩ : ∃ x, ent M j k = x := ⟨_, rfl⟩
                rw [h1] at c1 b1
                rw [h2] at c2 b2
                rw [h3] at c3 b3
                have HEV : Hid (endV M n j k = x1 + x2 - x3) := by show _ = _; rw [endV, h1, h2, h3]
                clear h1 h2 h3 hs hb
                have hniz : (n : Int) < (M.length : Int) := by omega
                by_cases hc : j = n ∨ k = n ∨ j = k
                · have HST : Hid (endS M n = foldFrom M.length (j + 1) (endJ M M.length n) (foldFrom M.length (k + 1) (endK M n j) y)) := by
                    show _ = _; rw [HR2.out, foldFrom_lt _ _ hltk]; congr 1; congr 1; rw [endK, if_pos hc]
                  clear c1 c2 c3 ri rj
                  by_cases h1 : j = n
                  · have t1 := bne_nat_false h1
                    clear hc h1
                    go_wp2
                    go_roundg (M.length - (k + 1))
                    case rel => exact ⟨k + 1, y, by omega, rfl, by go_num, rfl, HST.out, hy0, hy1, HBK.out⟩
                    case measure => omega
                  · have t1 := bne_nat_true h1
                    by_cases h2 : k = n
                    · have t2 := bne_nat_false h2
                      clear hc h1 h2
                      go_wp2
                      go_roundg (M.length - (k + 1))
                      case rel => exact ⟨k + 1, y, by omega, rfl, by go_num, rfl, HST.out, hy0, hy1, HBK.out⟩
                      case measure => omega
                    · have t2 := bne_nat_true h2
                      have t3 := bne_nat_false (show j = k by omega)
                      clear hc h1 h2
                      go_wp2
                      go_roundg (M.length - (k + 1))
                      case rel => exact ⟨k + 1, y, by omega, rfl, by go_num, rfl, HST.out, hy0, hy1, HBK.out⟩
                      case measure => omega
                · have HST : Hid (endS M n = foldFrom M.length (j + 1) (endJ M M.length n) (foldFrom M.length (k + 1) (endK M n j) (min y (x1 + x2 - x3)))) := by
                    show _ = _; rw [HR2.out, foldFrom_lt _ _ hltk]; congr 1; congr 1; rw [endK, if_neg hc, HEV.out]
                  have t1 := bne_nat_true (show ¬ j = n by omega)
                  have t2 := bne_nat_true (show ¬ k = n by omega)
                  have t3 := bne_nat_true (show ¬ j = k by omega)
                  have f1 : IntKind.i64.wrap (x1 + x2) = x1 + x2 := IntWalk.i64_in _ (by omega)
                  have f2 : IntKind.i64.wrap (x1 + x2 - x3) = x1 + x2 - x3 := IntWalk.i64_in _ (by omega)
                  clear hc
                  go_wp2
                  go_quiet ((go_at_call 64; exact Calls.quiet_of_same (l1Least_q _ _ _)))
                  go_wp2
                  go_roundg (M.length - (k + 1))
                  case rel => exact ⟨k + 1, _, by omega, rfl, by go_num, rfl, HST.out, by omega, by omega, below_dn2 HBK.out _⟩
                  case measure => omega
              · have HST : Hid (endS M n = foldFrom M.length (j + 1) (endJ M M.length n) y) := by show _ = _; rw [HR2.out, foldFrom_ge (endK M n j) y (by omega)]
                clear hb
                go_wp2
                go_roundg (M.length - (j + 1))
                case rel => exact ⟨j + 1, y, by omega, rfl, by go_num, rfl, HST.out, hy0, hy1, HBK.out⟩
                case measure => omega
          · have HST : Hid (endS M n = x) := by show _ = _; rw [HR1.out, foldFrom_ge _ _ (by omega)]
            go_wp2
            go_ret2
            exact ⟨by rw [HM.out, HST.out]; rfl, HBJ.out⟩
      · have HM := hid (endB_no3 t2)
        go_enter Try.func41, Try.ntmps41
        go_wp2_with fail
        refine (meGood_b _ M _ HR.out).mono ?_
        rintro e w1 ⟨rfl, hb1⟩
        rw [t]
        go_wp2_with (go_at_call 79; refine (l1In_c _ _ _ _).mono ?_; rintro r w' ⟨rfl, rfl⟩)
        go_ret2
        exact ⟨by rw [HM.out]; rfl, hb1⟩
    · have HM := hid (endB_no2 (i := i) hn3)
      have hn3z : (M.length : Int) < 3 := by omega
      go_enter Try.func41, Try.ntmps41
      go_wp2_with fail
      refine (meGood_b _ M _ HR.out).mono ?_
      rintro e w1 ⟨rfl, hb1⟩
      rw [t]
      go_wp2
      go_ret2
      exact ⟨by rw [HM.out]; rfl, hb1⟩
  · have HM := hid (endB_no1 (i := i) t)
    obtain ⟨a, cap, rfl, _, _, hc⟩ := h
    clear hc
    go_enter Try.func41, Try.ntmps41
    go_wp2_with fail
    refine (meGood_b _ M _ HR.out).mono ?_
    rintro e w1 ⟨rfl, hb1⟩
    rw [t]
    go_wp2
    go_ret2
    exact ⟨by rw [HM.out]; rfl, hb1⟩

end Go.Proofs.Ytcgcgmlonhganaa
