/- Contracts of the laws' own helpers on slices of slices of ints. -/
import Derived.Test.YtcgcgmlonhganaaMake
namespace Go.Proofs.Ytcgcgmlonhganaa
open Go.RowKit
open Go.Lib (hid)

/-! ### szIntSS -/
def szRows : List (List Int) → Int → Int
  | [], left => left
  | r :: rs, left => if szI r.length left < 0 then -1 else szRows rs (szI r.length left)
theorem szRows_cons_neg (r : List Int) (rs : List (List Int)) (left : Int) (h : szI r.length left < 0) : szRows (r :: rs) left = -1 := by rw [szRows, if_pos h]
theorem szRows_cons_pos (r : List Int) (rs : List (List Int)) (left : Int) (h : ¬ szI r.length left < 0) : szRows (r :: rs) left = szRows rs (szI r.length left) := by rw [szRows, if_neg h]
def szM (M : List (List Int)) (left : Int) : Int := if left - M.length < 0 then -1 else szRows M (left - M.length)
theorem szI_le (n left : Int) (hn : 0 ≤ n) (h : 0 ≤ left) : szI n left ≤ left ∧ -1 ≤ szI n left := by unfold szI; split <;> omega
theorem szRows_ge {M : List (List Int)} {left : Int} (h : 0 ≤ szRows M left) : szRows M left ≤ left ∧ ∀ r ∈ M, (r.length : Int) ≤ left := by
  induction M generalizing left with
  | nil => exact ⟨Int.le_refl _, by simp⟩
  | cons r rs ih =>
    by_cases hn : szI r.length left < 0
    · rw [szRows_cons_neg r rs left hn] at h; omega
    · rw [szRows_cons_pos r rs left hn] at h ⊢
      have hs : szI r.length left = left - r.length := by unfold szI at hn ⊢; split <;> simp_all
      have h1 := ih h
      refine ⟨by omega, fun x hx => ?_⟩
      cases List.mem_cons.1 hx with
      | inl e => subst e; omega
      | inr e => have := h1.2 x e; omega
theorem szM_small {M : List (List Int)} {left : Int} (h : ¬ szM M left < 0) : (M.length : Int) ≤ left ∧ ∀ r ∈ M, (r.length : Int) ≤ left := by
  unfold szM at h
  split at h
  · omega
  · have h1 := szRows_ge (M := M) (left := left - M.length) (by omega)
    exact ⟨by omega, fun r hr => by have := h1.2 r hr; omega⟩

theorem szM_range {M : List (List Int)} {left : Int} (h : 0 ≤ left) : szM M left ≤ left ∧ -1 ≤ szM M left := by
  by_cases hn : szM M left < 0
  · unfold szM at hn ⊢
    split at hn
    · rw [if_pos ‹_›]; omega
    · rw [if_neg ‹_›]
      have : ∀ (M : List (List Int)) (l : Int), 0 ≤ l → -1 ≤ szRows M l := by
        intro M; induction M with
        | nil => intro l hl; show -1 ≤ l; omega
        | cons r rs ih =>
          intro l hl
          by_cases hn : szI r.length l < 0
          · rw [szRows_cons_neg r rs l hn]; omega
          · rw [szRows_cons_pos r rs l hn]; exact ih _ (by omega)
      have := this M (left - M.length) (by omega)
      omega
  · unfold szM at hn ⊢
    split at hn
    · omega
    · rw [if_neg ‹_›]
      have h1 := szRows_ge (M := M) (left := left - M.length) (by omega)
      omega

set_option maxHeartbeats 400000 in
theorem szIntSS_c (v : Value) (M : List (List Int)) (left : Int) (w : World) (h : RMat w v M) (h0 : 0 ≤ left) (hl : left ≤ 1048576) :
    Calls Try.prog 7 #[v, .int .i64 left] w fun e w' => e = .returned (.int .i64 (szM M left)) ∧ w = w' := by
  have hL := h.len
  obtain ⟨a, cap, rfl, h1, h2, hc⟩ := h
  unfold maxLen at h2
  by_cases hneg : left - M.length < 0
  · clear hc
    go_enter Try.func7, Try.ntmps7
    go_wp2
    go_ret
    exact ⟨ret_int (by rw [szM, if_pos hneg]), rfl⟩
  · go_enter Try.func7, Try.ntmps7
    go_wp2
    go_loop [1, 5] (fun l i => ∃ k : Nat, ∃ x : Int, k ≤ M.length ∧ 0 ≤ x ∧ x ≤ 1048576 ∧ i = .int .i64 k ∧ l = .int .i64 x ∧ szM M left = szRows (M.drop k) x) (fun _ i => M.length - (intOf i).toNat)
    case atStart => exact ⟨0, _, Nat.zero_le _, by omega, by omega, rfl, rfl, by rw [szM, if_neg (by omega)]; rfl⟩
    case round =>
      obtain ⟨k, x, hk, hx0, hx1, rfl, rfl, hr⟩ := hrel
      have HR := hid hr; clear hr
      by_cases hlt : k < M.length
      · obtain ⟨g, o, r, y, rfl, hk, hy, HD, _⟩ := mat_at hc hlt
        clear hc
        have hs := szI_le y.length x (by omega) hx0
        by_cases hneg' : szI y.length x < 0
        all_goals go_wp2_with (go_at_call 45; refine (szIntS_c _ y _ _ hy hx0 hx1).mono ?_; rintro e w' ⟨rfl, rfl⟩)
        · go_ret
          exact ⟨ret_int (by rw [HR.out, HD.out, szRows_cons_neg _ _ _ (by omega)]), rfl⟩
        · go_round
          case rel => exact ⟨k + 1, _, by omega, by omega, by omega, by go_num, rfl, by rw [HR.out, HD.out, szRows_cons_pos _ _ _ (by omega)]⟩
          case measure => simp [intOf]; omega
      · clear hc
        go_wp2
        go_ret
        exact ⟨ret_int (by rw [HR.out, List.drop_eq_nil_of_le (by omega)]; rfl), rfl⟩

/-! ### toIntSS -/
/-- k rows of the new slice of slices are made -/
def Made (w : World) (B n : Nat) (M : List (List Int)) (k : Nat) (wr : World) : Prop :=
  ∃ vs : List Value, vs.length = n ∧ wr.ownsRow B 24 1 (.slice (some ⟨B, 0, none⟩) n n) n vs ∧ (∀ i, i < k → FInts wr (B + 1) wr.heap.size (vs.getD i .nilFunc) (M.getD i [])) ∧
    (∀ i j, i < j → j < k → ∀ g, (vs.getD i .nilFunc).ownBlock = some g → (vs.getD j .nilFunc).ownBlock ≠ some g) ∧ Below B w wr ∧ B + 1 ≤ wr.heap.size

theorem made_start (w : World) (n : Nat) (hn : n ≤ 1048576) (M : List (List Int)) : Made w w.heap.size n M 0 (w.alloc (.cells (madeCells #[.slice none 0 0] n) 24)) := by
  have h := World.ownsRow_lit (base := w.heap.size) (e := 24) (size := 1) w (madeCells #[.slice none 0 0] n) n (Nat.le_refl _) (by unfold maxLen; omega) (by rw [size_madeCells]; omega)
  exact ⟨_, by simp [size_madeCells], h, fun i hi => by omega, fun i j _ hj => by omega, (Below.refl _ _).alloc (Nat.le_refl _) _, by simp⟩

theorem made_cell {w wr w1 : World} {B n k : Nat} {M : List (List Int)} (h : Made w B n M k wr) (hk : k < n) (hb : Below wr.heap.size wr w1) :
    (∃ u, w1.cell? ⟨B, k, none⟩ = some u) ∧ w1.frozen? ⟨B, k, none⟩ = false := by
  obtain ⟨vs, hl, hown, _, _, hB, hs⟩ := h
  have hown' := own_same hown (w' := w1) (fun g hg => by simp [Value.ownBlock] at hg; subst hg; exact hb.block _ (by omega))
  have h1 := hown'.cellAt k (by omega)
  refine ⟨?_, hown'.frozenAt k⟩
  rw [h1]
  exact ⟨_, List.getElem?_eq_getElem (by omega)⟩

theorem made_step {w wr w1 : World} {B n k : Nat} {M : List (List Int)} {u : Value} (h : Made w B n M k wr) (hk : k < n) (hb : Below wr.heap.size wr w1) (hu : FInts w1 wr.heap.size w1.heap.size u (M.getD k [])) :
    Made w B n M (k + 1) (w1.setCell ⟨B, k, none⟩ u) := by
  obtain ⟨vs, hl, hown, hrows, hap, hB, hs⟩ := h
  have hsz := hb.size
  have hown' := own_same hown (w' := w1) (fun g hg => by simp [Value.ownBlock] at hg; subst hg; exact hb.block _ (by omega))
  have hst := hown'.stored k u
  have hsame : Same (B + 1) w1.heap.size w1 (w1.setCell ⟨B, k, none⟩ u) := fun b h1 _ _ => heap_setCell_other w1 ⟨B, k, none⟩ b u (by show b ≠ B; omega)
  have hsz' : (w1.setCell ⟨B, k, none⟩ u).heap.size = w1.heap.size := by simp [World.setCell]
  have old : ∀ i, i < k → (vs.set k u).getD i .nilFunc = vs.getD i .nilFunc := fun i hi => by simp [List.getD, show ¬ k = i by omega]
  have new : (vs.set k u).getD k .nilFunc = u := by simp [List.getD, hl, hk]
  refine ⟨vs.set k u, by simpa using hl, hst.1, fun i hi => ?_, fun i j hij hj g hg => ?_, (hB.trans (hb.mono (by omega))).setCell (Nat.le_refl _) _, by rw [hsz']; omega⟩
  · rw [hsz']
    by_cases e : i = k
    · subst e
      rw [new]
      exact ((hu.mono (by omega) (Nat.le_refl _)).same hsame)
    · rw [old i (by omega)]
      exact (((hrows i (by omega)).keep hb).mono (Nat.le_refl _) hsz).same hsame
  · by_cases e : j = k
    · subst e
      rw [new]
      rw [old i hij] at hg
      intro hu'
      have h1 := (hu.1.lt g hu').1
      have h2 := (hrows i hij).2 g hg
      omega
    · rw [old j (by omega)]
      rw [old i (by omega)] at hg
      exact hap i j hij (by omega) g hg

theorem made_done {w wr : World} {n : Nat} {M : List (List Int)} (hn : n = M.length) (h : Made w w.heap.size n M n wr) : FMat wr w.heap.size wr.heap.size (.slice (some ⟨w.heap.size, 0, none⟩) n n) M ∧ Below w.heap.size w wr := by
  subst hn
  obtain ⟨vs, hl, hown, hrows, hap, hB, hs⟩ := h
  exact ⟨⟨vs, hown, fun g hg => by simp [Value.ownBlock] at hg; omega, hl, fun i hi => (hrows i hi).mono (by omega) (Nat.le_refl _), hap⟩, hB⟩

set_option maxHeartbeats 400000 in
theorem toIntSS_c (v : Value) (M : List (List Int)) (w : World) (h : RMat w v M) (hl : (M.length : Int) ≤ 1048576 ∧ ∀ r ∈ M, (r.length : Int) ≤ 1048576) :
    Calls Try.prog 9 #[v] w (RetMat w M) := by
  obtain ⟨a, cap, rfl, h1, h2, hc⟩ := h
  obtain ⟨hl1, hl2⟩ := hl
  unfold maxLen at h2
  have hmk := run_make_row' (P := Try.prog) 22 24 (.slice none 0 0) 24 Try.underlying22 Try.infoInts rfl .i64 .i64 M.length (by omega) (by omega)
  have HL := hid hl2; clear hl2
  go_enter Try.func9, Try.ntmps9
  go_wp2
  clear hmk
  go_loopg [4] M.length (fun gk i wr => ∃ k : Nat, k ≤ M.length ∧ gk = M.length - k ∧ i = .int .i64 k ∧ Made w w.heap.size M.length M k wr)
  case atStart => exact ⟨0, Nat.zero_le _, rfl, rfl, made_start w _ (by omega) M⟩
  case round =>
    obtain ⟨k, hk, rfl, rfl, hm⟩ := hrel
    by_cases hlt : k < M.length
    · obtain ⟨g, o, r, y, rfl, hk, hy, HD, HX⟩ := mat_at hc hlt
      have HC := hid hc; clear hc
      have hbw : Below w.heap.size w wr := hm.choose_spec.2.2.2.2.1
      have hk' : wr.cell? ⟨g, o + k, none⟩ = some r := by rw [hbw.cell (p := ⟨g, o + k, none⟩) (cell_lt hk)]; exact hk
      have hy' := hy.keep hbw
      have hyl : y.length ≤ 1048576 := by
        have := HL.out y (by rw [← HX.out]; simp [List.getD, List.getElem?_eq_getElem hlt])
        omega
      clear hk hy
      go_wp2_with fail
      refine (toIntS_c _ y _ hy' hyl).mono ?_
      rintro e w1 ⟨u, rfl, hu, hb⟩
      obtain ⟨au, cu, rfl⟩ := hu.form
      have hu' : FInts w1 wr.heap.size w1.heap.size (.slice au y.length cu) (M.getD k []) := by rw [HX.out]; exact hu
      obtain ⟨⟨x, hcx⟩, hfx⟩ := made_cell hm hlt hb
      have hst := made_step hm hlt hb hu'
      clear hm hk'
      go_wp2
      go_roundg (M.length - (k + 1))
      case rel => exact ⟨k + 1, by omega, rfl, by go_num, hst⟩
      case measure => omega
    · obtain rfl : k = M.length := by omega
      clear hc
      go_wp2
      go_ret
      have := made_done rfl hm
      exact ⟨_, rfl, this.1, this.2⟩

/-! ### eqIntSS -/
def eqM : List (List Int) → List (List Int) → Bool
  | [], _ => true
  | _ :: _, [] => true
  | x :: xs, y :: ys => decide (x = y) && eqM xs ys
theorem eqM_cons (x y : List Int) (xs ys : List (List Int)) : eqM (x :: xs) (y :: ys) = (decide (x = y) && eqM xs ys) := rfl
theorem eqM_nil (ys : List (List Int)) : eqM [] ys = true := by cases ys <;> rfl
theorem eqM_same (a b : List (List Int)) (h : a.length = b.length) : eqM a b = decide (a = b) := by
  induction a generalizing b with
  | nil => cases b with
    | nil => rfl
    | cons y ys => simp at h
  | cons x xs ih => cases b with
    | nil => simp at h
    | cons y ys =>
      rw [eqM_cons, ih ys (by simpa using h)]
      by_cases hx : x = y <;> by_cases hy : xs = ys <;> simp [hx, hy]

set_option maxHeartbeats 400000 in
theorem eqIntSS_c (v u : Value) (l m : List (List Int)) (w : World) (h : RMat w v l) (h' : RMat w u m) :
    Calls Try.prog 12 #[v, u] w fun e w' => e = .returned (.bool (decide (l = m))) ∧ ∃ n, w' = w.drewN n := by
  obtain ⟨a, cap, rfl, h1, h2, hc⟩ := h
  obtain ⟨a', cap', rfl, h1', h2', hc'⟩ := h'
  unfold maxLen at h2 h2'
  by_cases hlen : l.length = m.length
  · have HL := hid hlen
    go_enter Try.func12, Try.ntmps12
    go_wp2
    go_loopw [5] (fun i wr => ∃ k n : Nat, k ≤ l.length ∧ wr = w.drewN n ∧ i = .int .i64 k ∧ eqM l m = eqM (l.drop k) (m.drop k)) (fun i _ => l.length - (intOf i).toNat)
    case atStart => exact ⟨0, 0, Nat.zero_le _, rfl, rfl, rfl⟩
    case round =>
      obtain ⟨k, n, hk, hq, rfl, hr⟩ := hrel
      have HR := hid hr; clear hr
      have HQ := hid hq; clear hq
      by_cases hlt : k < l.length
      · obtain ⟨g, o, r, x, rfl, hk1, hx, HD, HX⟩ := mat_at hc hlt
        obtain ⟨g', o', r', y, rfl, hk2, hy, HD', HY⟩ := mat_at hc' (show k < m.length by omega)
        have c1 := cell_q HQ.out hk1
        have c2 := cell_q HQ.out hk2
        have hx' : RInts wr r x := by rw [HQ.out]; exact hx
        have hy' : RInts wr r' y := by rw [HQ.out]; exact hy
        clear hc hc' hk1 hk2 hx hy
        rcases Bool.eq_false_or_eq_true (decide (x = y)) with ht | ht
        all_goals
          go_wp2
          go_quiet ((go_at_call 11; exact Calls.quiet_of (eqIntS_c _ _ x y _ hx'.drewN hy'.drewN)))
          go_wp2
        · go_roundw
          case rel => exact ⟨k + 1, _, by omega, drew_q HQ.out _, by go_num, by rw [HR.out, HD.out, HD'.out, eqM_cons, ht, Bool.true_and]⟩
          case measure => simp [intOf]; omega
        · go_ret
          exact ⟨ret_bool (by rw [← eqM_same l m HL.out, HR.out, HD.out, HD'.out, eqM_cons, ht, Bool.false_and]), _, drew_q HQ.out _⟩
      · clear hc hc'
        go_wp2
        go_ret
        exact ⟨ret_bool (by rw [← eqM_same l m HL.out, HR.out, List.drop_eq_nil_of_le (by omega), eqM_nil]), _, HQ.out⟩
  · have hne : l ≠ m := fun e => hlen (by rw [e])
    have HN := hid hne
    clear hne hc hc'
    go_enter Try.func12, Try.ntmps12
    go_wp2
    go_ret
    exact ⟨ret_bool (by simp [HN.out]), 0, rfl⟩

end Go.Proofs.Ytcgcgmlonhganaa
