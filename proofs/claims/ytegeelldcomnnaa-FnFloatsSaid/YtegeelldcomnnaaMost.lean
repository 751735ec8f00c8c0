/- The most tasks at once: both programs' functions. -/
import Derived.Test.YtegeelldcomnnaaAreStarts
import Derived.Test.YtegeelldcomnnaaSorted
namespace Go.Proofs.Ytegeelldcomnnaa
open Go.RowKit
open Go.Lib (hid)

/-- how many tasks are done at x, from task i on -/
def cntL (S : List Int) (x : Int) : Nat → List Tsk → Int → Int
  | _, [], n => n
  | i, t :: ts, n => cntL S x (i + 1) ts (if inB x (S.getD i 0) (S.getD i 0 + t.time - 1) then n + 1 else n)
theorem cntL_nil (S : List Int) (x : Int) (i : Nat) (n : Int) : cntL S x i [] n = n := rfl
theorem cntL_yes {S : List Int} {x : Int} {i : Nat} {t : Tsk} {ts : List Tsk} {n : Int} (h : inB x (S.getD i 0) (S.getD i 0 + t.time - 1) = true) : cntL S x i (t :: ts) n = cntL S x (i + 1) ts (n + 1) := by rw [cntL, h]; rfl
theorem cntL_no {S : List Int} {x : Int} {i : Nat} {t : Tsk} {ts : List Tsk} {n : Int} (h : inB x (S.getD i 0) (S.getD i 0 + t.time - 1) = false) : cntL S x i (t :: ts) n = cntL S x (i + 1) ts n := by rw [cntL, h]; rfl
theorem cntL_bound (S : List Int) (x : Int) : ∀ (ts : List Tsk) (i : Nat) (n : Int), n ≤ cntL S x i ts n ∧ cntL S x i ts n ≤ n + ts.length := by
  intro ts
  induction ts with
  | nil => intro i n; rw [cntL_nil]; simp
  | cons t ts ih =>
    intro i n
    rcases Bool.eq_false_or_eq_true (inB x (S.getD i 0) (S.getD i 0 + t.time - 1)) with h | h
    · rw [cntL_yes h]; have := ih (i + 1) (n + 1); simp; omega
    · rw [cntL_no h]; have := ih (i + 1) n; simp; omega
def cntF (L : List Tsk) (S : List Int) (x : Int) : Int := cntL S x 0 L 0
theorem cntF_bound (L : List Tsk) (S : List Int) (x : Int) : 0 ≤ cntF L S x ∧ cntF L S x ≤ L.length := by have := cntL_bound S x L 0 0; unfold cntF; omega

/-- the best time and its number: as the reference looks -/
def mS (c : Int → Int) : List Int → Int → Int → Int × Int
  | [], b, m => (b, m)
  | x :: xs, b, m => if m < c x ∨ (c x = m ∧ x < b) then mS c xs x (c x) else mS c xs b m
theorem mS_nil (c : Int → Int) (b m : Int) : mS c [] b m = (b, m) := rfl
theorem mS_yes {c : Int → Int} {x b m : Int} {xs : List Int} (h : m < c x ∨ (c x = m ∧ x < b)) : mS c (x :: xs) b m = mS c xs x (c x) := by rw [mS, if_pos h]
theorem mS_no {c : Int → Int} {x b m : Int} {xs : List Int} (h : ¬ (m < c x ∨ (c x = m ∧ x < b))) : mS c (x :: xs) b m = mS c xs b m := by rw [mS, if_neg h]
/-- .. and as the program looks -/
def mI (c : Int → Int) : List Int → Int → Int → Int × Int
  | [], b, m => (b, m)
  | x :: xs, b, m => if m < c x then mI c xs x (c x) else mI c xs b m
theorem mI_nil (c : Int → Int) (b m : Int) : mI c [] b m = (b, m) := rfl
theorem mI_yes {c : Int → Int} {x b m : Int} {xs : List Int} (h : m < c x) : mI c (x :: xs) b m = mI c xs x (c x) := by rw [mI, if_pos h]
theorem mI_no {c : Int → Int} {x b m : Int} {xs : List Int} (h : ¬ m < c x) : mI c (x :: xs) b m = mI c xs b m := by rw [mI, if_neg h]

/-- b is the least of those whose number is greatest, m; or all numbers are 0 -/
def Best (c : Int → Int) (l : List Int) (b m : Int) : Prop :=
  (m = 0 ∧ b = 0 ∧ ∀ x ∈ l, c x = 0) ∨ (0 < m ∧ b ∈ l ∧ c b = m ∧ ∀ x ∈ l, c x ≤ m ∧ (c x = m → b ≤ x))
theorem best_mS {c : Int → Int} (hc : ∀ x, 0 ≤ c x) : ∀ (xs pre : List Int) (b m : Int), Best c pre b m → (∀ x ∈ xs, 0 ≤ x) → Best c (pre ++ xs) (mS c xs b m).1 (mS c xs b m).2 := by
  intro xs
  induction xs with
  | nil => intro pre b m h _; rw [List.append_nil]; exact h
  | cons x xs ih =>
    intro pre b m h hx
    have hx0 := hx x List.mem_cons_self
    have hcx := hc x
    rw [show pre ++ x :: xs = (pre ++ [x]) ++ xs by simp]
    by_cases t : m < c x ∨ (c x = m ∧ x < b)
    · rw [mS_yes t]
      refine ih _ _ _ (.inr ?_) (fun y hy => hx y (List.mem_cons_of_mem _ hy))
      rcases h with ⟨h1, h2, h3⟩ | ⟨h1, h2, h3, h4⟩
      · refine ⟨by omega, by simp, rfl, fun y hy => ?_⟩
        rcases List.mem_append.1 hy with h | h
        · have := h3 y h; omega
        · simp at h; subst h; omega
      · refine ⟨by omega, by simp, rfl, fun y hy => ?_⟩
        rcases List.mem_append.1 hy with h | h
        · have := h4 y h; omega
        · simp at h; subst h; omega
    · rw [mS_no t]
      refine ih _ _ _ ?_ (fun y hy => hx y (List.mem_cons_of_mem _ hy))
      rcases h with ⟨h1, h2, h3⟩ | ⟨h1, h2, h3, h4⟩
      · refine .inl ⟨h1, h2, fun y hy => ?_⟩
        rcases List.mem_append.1 hy with h | h
        · exact h3 y h
        · simp at h; subst h; omega
      · refine .inr ⟨h1, List.mem_append_left _ h2, h3, fun y hy => ?_⟩
        rcases List.mem_append.1 hy with h | h
        · exact h4 y h
        · simp at h; subst h; omega
theorem best_mI {c : Int → Int} (hc : ∀ x, 0 ≤ c x) : ∀ (xs pre : List Int) (b m : Int), Best c pre b m → (pre ++ xs).Pairwise (· ≤ ·) → Best c (pre ++ xs) (mI c xs b m).1 (mI c xs b m).2 := by
  intro xs
  induction xs with
  | nil => intro pre b m h _; rw [List.append_nil]; exact h
  | cons x xs ih =>
    intro pre b m h hp
    have hcx := hc x
    rw [show pre ++ x :: xs = (pre ++ [x]) ++ xs by simp] at hp ⊢
    have hle : ∀ y ∈ pre, y ≤ x := by
      have h1 := (List.pairwise_append.1 hp).1
      exact fun y hy => (List.pairwise_append.1 h1).2.2 y hy x (by simp)
    by_cases t : m < c x
    · rw [mI_yes t]
      refine ih _ _ _ (.inr ?_) hp
      rcases h with ⟨h1, h2, h3⟩ | ⟨h1, h2, h3, h4⟩
      · refine ⟨by omega, by simp, rfl, fun y hy => ?_⟩
        rcases List.mem_append.1 hy with h | h
        · have := h3 y h; omega
        · simp at h; subst h; omega
      · refine ⟨by omega, by simp, rfl, fun y hy => ?_⟩
        rcases List.mem_append.1 hy with h | h
        · have := h4 y h; omega
        · simp at h; subst h; omega
    · rw [mI_no t]
      refine ih _ _ _ ?_ hp
      rcases h with ⟨h1, h2, h3⟩ | ⟨h1, h2, h3, h4⟩
      · refine .inl ⟨h1, h2, fun y hy => ?_⟩
        rcases List.mem_append.1 hy with h | h
        · exact h3 y h
        · simp at h; subst h; omega
      · refine .inr ⟨h1, List.mem_append_left _ h2, h3, fun y hy => ?_⟩
        rcases List.mem_append.1 hy with h | h
        · exact h4 y h
        · simp at h; subst h; have := hle b h2; omega
theorem best_one {c : Int → Int} {l l' : List Int} {b m b' m' : Int} (h : Best c l b m) (h' : Best c l' b' m') (hl : ∀ x, x ∈ l ↔ x ∈ l') : b = b' ∧ m = m' := by
  rcases h with ⟨h1, h2, h3⟩ | ⟨h1, h2, h3, h4⟩
  · rcases h' with ⟨k1, k2, k3⟩ | ⟨k1, k2, k3, k4⟩
    · omega
    · have := h3 b' ((hl _).2 k2); omega
  · rcases h' with ⟨k1, k2, k3⟩ | ⟨k1, k2, k3, k4⟩
    · have := k3 b ((hl _).1 h2); omega
    · have e1 := k4 b ((hl _).1 h2)
      have e2 := h4 b' ((hl _).2 k2)
      have e3 : m = m' := by omega
      have e4 := e1.2 (by omega)
      have e5 := e2.2 (by omega)
      omega
theorem mI_srt {c : Int → Int} (hc : ∀ x, 0 ≤ c x) {S : List Int} (hS : ∀ x ∈ S, 0 ≤ x) : mI c (srt S) 0 0 = mS c S 0 0 := by
  have h0 : Best c [] 0 0 := .inl ⟨rfl, rfl, by simp⟩
  have h1 := best_mS hc S [] 0 0 h0 hS
  have h2 := best_mI hc (srt S) [] 0 0 h0 (by simpa using srt_sorted S)
  simp only [List.nil_append] at h1 h2
  have := best_one h2 h1 (fun x => (srt_perm S).mem_iff)
  exact Prod.ext this.1 this.2

def mostF (L : List Tsk) (S : List Int) : Int × Int := mS (cntF L S) S 0 0
def mostB (L : List Tsk) (S : List Int) : Int × Int × Bool := if timesB L S && (startsB L S && decide (0 < (mostF L S).2)) then ((mostF L S).1, (mostF L S).2, true) else (0, 0, false)
theorem mostB_no1 {L : List Tsk} {S : List Int} (h : timesB L S = false) : mostB L S = (0, 0, false) := by rw [mostB, h]; rfl
theorem mostB_no2 {L : List Tsk} {S : List Int} (h : startsB L S = false) : mostB L S = (0, 0, false) := by rw [mostB, h]; simp
theorem mostB_no3 {L : List Tsk} {S : List Int} (h : ¬ 0 < (mostF L S).2) : mostB L S = (0, 0, false) := by rw [mostB, decide_eq_false h]; simp
theorem mostB_yes {L : List Tsk} {S : List Int} (h : timesB L S = true) (h1 : startsB L S = true) (h2 : 0 < (mostF L S).2) : mostB L S = ((mostF L S).1, (mostF L S).2, true) := by rw [mostB, h, h1, decide_eq_true h2]; rfl
theorem mostF_best {L : List Tsk} {S : List Int} (hS : ∀ x ∈ S, 0 ≤ x) : Best (cntF L S) S (mostF L S).1 (mostF L S).2 := by
  have h1 := best_mS (fun x => (cntF_bound L S x).1) S [] 0 0 (.inl ⟨rfl, rfl, by simp⟩) hS
  simpa [mostF] using h1
theorem mostF_zero {L : List Tsk} {S : List Int} (hS : ∀ x ∈ S, 0 ≤ x) (h : ¬ 0 < (mostF L S).2) : mostF L S = (0, 0) := by
  rcases mostF_best hS with ⟨h1, h2, _⟩ | ⟨h1, _⟩
  · exact Prod.ext h2 h1
  · omega

set_option maxRecDepth 100000 in
set_option maxHeartbeats 2000000 in
theorem atOnce_c (v u : Value) (L : List Tsk) (S : List Int) (x : Int) (w : World) (h : RTasks w v L) (h' : RInts w u S) (hL : GoodT L) (hlen : S.length = L.length) (hS : allB S 0 100000 = true) :
    Calls Try.prog 144 #[v, u, .int .i64 x] w fun e w' => e = .returned (.int .i64 (cntF L S x)) ∧ Below w.heap.size w w' := by
  have HR := hid h
  have HU := hid h'
  have HG := hid hL
  have HLEN := hid hlen
  have HS := hid (fun i hi => allB_at (i := i) hS hi)
  have hl12 := hL.1
  clear hS hL hlen
  obtain ⟨a, cap, rfl, h1, h2, hc⟩ := h
  obtain ⟨b, capb, rfl, h1', h2', hc'⟩ := h'
  clear hc hc'
  unfold maxLen at h2 h2'
  go_enter Try.func144, Try.ntmps144
  go_wp2
  go_loopg [7, 12] L.length (fun gk nv i wr => ∃ k : Nat, ∃ n : Int, k ≤ L.length ∧ gk = L.length - k ∧ i = .int .i64 k ∧ nv = .int .i64 n ∧ cntF L S x = cntL S x k (L.drop k) n ∧ 0 ≤ n ∧ n ≤ (k : Int) ∧ Below w.heap.size w wr)
  case atStart => exact ⟨0, 0, Nat.zero_le _, rfl, rfl, rfl, rfl, by omega, by omega, Below.refl _ _⟩
  case round =>
    obtain ⟨k, n, hk, rfl, rfl, rfl, hr, hn0, hn1, hb⟩ := hrel
    have HRR := hid hr; clear hr
    have HB := hid hb
    by_cases hlt : k < L.length
    · obtain ⟨a', cap', hv, _, _, hc⟩ := HR.out.keep hb
      simp only [Value.slice.injEq, true_and] at hv
      obtain ⟨rfl, rfl⟩ := hv
      obtain ⟨b', capb', hv, _, _, hc'⟩ := HU.out.keep hb
      simp only [Value.slice.injEq, true_and] at hv
      obtain ⟨rfl, rfl⟩ := hv
      obtain ⟨g, o, r, y, tm, rfl, c1, c2, hy, HD, HG2⟩ := tasks_at hc hlt
      obtain ⟨gb, ob, s, rfl, c3, _, HX⟩ := ints_at hc' (show k < S.length by have := HLEN.out; omega)
      have hx := HS.out k (by have := HLEN.out; omega)
      have htm := (HG.out.2 k hlt).2
      rw [HX.out] at hx
      rw [HG2.out] at htm
      have htm : 0 ≤ tm ∧ tm ≤ 2000 := htm
      obtain ⟨ay, cy, rfl, hy1, hy2, hyc⟩ := hy
      clear hc hc' hb hyc
      have ha : Below wr.heap.size wr (wr.alloc (.cells #[.slice ay y.length cy, .int .i64 tm] 67)) := (Below.refl _ _).alloc (Nat.le_refl _) _
      have HB1 := hid (HB.out.trans (ha.mono HB.out.size))
      have e3 := (ha.cell (p := ⟨gb, ob + k, none⟩) (cell_lt c3)).trans c3
      clear ha
      have hltz : (k : Int) < (L.length : Int) := by omega
      have hltz' : (k : Int) < (S.length : Int) := by have := HLEN.out; omega
      have f1 : IntKind.i64.wrap (s + tm) = s + tm := IntWalk.i64_in _ (by omega)
      have f2 : IntKind.i64.wrap (s + tm - 1) = s + tm - 1 := IntWalk.i64_in _ (by omega)
      rcases Bool.eq_false_or_eq_true (inB x s (s + tm - 1)) with t | t
      · have HST : Hid (cntF L S x = cntL S x (k + 1) (L.drop (k + 1)) (n + 1)) := by show _ = _; rw [HRR.out, HD.out, cntL_yes (by rw [HX.out]; exact t)]
        have hq : ∀ w', Calls Try.prog 98 #[.int .i64 x, .int .i64 s, .int .i64 (s + tm - 1)] w' fun e w'' => e = .returned (.bool true) ∧ w'' = w' := fun w' => (within_c _ _ _ w').mono fun _ _ h => ⟨by rw [h.1, t], h.2.symm⟩
        clear t
        go_wp2
        go_quiet ((go_at_call 98; exact Calls.quiet_of_same (hq _)))
        go_wp2
        go_roundg (L.length - (k + 1))
        case rel => exact ⟨k + 1, _, by omega, rfl, by go_num, rfl, HST.out, by omega, by omega, below_dn HB1.out _⟩
        case measure => omega
      · have HST : Hid (cntF L S x = cntL S x (k + 1) (L.drop (k + 1)) n) := by show _ = _; rw [HRR.out, HD.out, cntL_no (by rw [HX.out]; exact t)]
        have hq : ∀ w', Calls Try.prog 98 #[.int .i64 x, .int .i64 s, .int .i64 (s + tm - 1)] w' fun e w'' => e = .returned (.bool false) ∧ w'' = w' := fun w' => (within_c _ _ _ w').mono fun _ _ h => ⟨by rw [h.1, t], h.2.symm⟩
        clear t
        go_wp2
        go_quiet ((go_at_call 98; exact Calls.quiet_of_same (hq _)))
        go_wp2
        go_roundg (L.length - (k + 1))
        case rel => exact ⟨k + 1, _, by omega, rfl, by go_num, rfl, HST.out, by omega, by omega, below_dn HB1.out _⟩
        case measure => omega
    · have HG : Hid (cntF L S x = n) := by show _ = _; rw [HRR.out, List.drop_eq_nil_of_le (by omega), cntL_nil]
      clear hb
      go_wp2
      go_ret
      exact ⟨ret_int HG.out.symm, HB.out⟩

theorem allB_mem {l : List Int} {lo hi : Int} (h : allB l lo hi = true) : ∀ x ∈ l, lo ≤ x ∧ x ≤ hi := by
  intro x hx
  unfold allB at h
  rw [List.all_eq_true] at h
  exact inB_iff.1 (h x hx)

set_option maxRecDepth 100000 in
set_option maxHeartbeats 2000000 in
theorem iMostAtOnce_u (v : Value) (L : List Tsk) (u : Value) (S : List Int) (w : World) (h : RTasks w v L) (h' : RInts w u S) :
    Calls Try.prog 70 #[v, u] w fun e w' => e = .returned (.tuple #[.int .i64 (mostB L S).1, .int .i64 (mostB L S).2.1, .bool (mostB L S).2.2]) ∧ Below w.heap.size w w' := by
  rcases Bool.eq_false_or_eq_true (timesB L S) with t | t
  · have HT := hid (timesB_yes t)
    have HG := hid (good_of_tasksB HT.out.1)
    have HTT := hid t
    go_enter Try.func70, Try.ntmps70
    go_wp2_with fail
    refine (areTaskTimes_c _ _ L S _ h h').mono ?_
    rintro e w1 ⟨rfl, hb1⟩
    rw [t]
    have h1 := h.keep hb1
    have h1' := h'.keep hb1
    have HB1 := hid hb1; clear hb1
    go_wp2_with fail
    refine (areStarts_c _ _ L S _ h1 h1' HG.out HT.out.2.1 HT.out.2.2).mono ?_
    rintro e w2 ⟨rfl, hb2⟩
    have H2 := hid (h1.keep hb2)
    have H2' := hid (h1'.keep hb2)
    have HB2 := hid (HB1.out.trans (hb2.mono HB1.out.size)); clear hb2 h1 h1' h h'
    rcases Bool.eq_false_or_eq_true (startsB L S) with t2 | t2
    · rw [t2]
      have HSN := hid (fun x hx => (allB_mem HT.out.2.2 x hx).1)
      have HMI := hid (mI_srt (fun x => (cntF_bound L S x).1) HSN.out)
      have hsl : S.length ≤ 12 := by have := HT.out.2.1; have := HG.out.1; omega
      have HSL := hid (srt_len S)
      go_wp2_with fail
      refine (slicesValues_c _ S _ H2'.out).mono ?_
      rintro e w' ⟨rfl, rfl⟩
      go_wp2_with fail
      refine (slicesSorted_c _ S _ H2'.out (by omega)).mono ?_
      rintro e w3 ⟨r, rfl, hF, hb3⟩
      have H3 := hid (H2.out.keep hb3)
      have H3' := hid (H2'.out.keep hb3)
      have HB3 := hid (HB2.out.trans (hb3.mono HB2.out.size))
      have hR := hF.r
      obtain ⟨R, hRR⟩ : ∃ R, srt S = R := ⟨_, rfl⟩
      have hrl : R.length ≤ 12 := by rw [← hRR, HSL.out]; exact hsl
      have HMF : Hid (mostF L S = mI (cntF L S) R 0 0) := by show _ = _; rw [mostF, ← HMI.out, hRR]
      rw [hRR] at hR
      have HR := hid hR
      clear hb3 hF hRR
      obtain ⟨b, capb, rfl, q1, q2, hcr⟩ := hR
      unfold maxLen at q2
      clear hcr HMI
      go_wp2
      go_loopg [7, 8, 26] R.length (fun gk bv mv i wr => ∃ k : Nat, ∃ b m : Int, k ≤ R.length ∧ gk = R.length - k ∧ i = .int .i64 k ∧ bv = .int .i64 b ∧ mv = .int .i64 m ∧ mostF L S = mI (cntF L S) (R.drop k) b m ∧ Below w3.heap.size w3 wr)
      case atStart => exact ⟨0, 0, 0, Nat.zero_le _, rfl, rfl, rfl, rfl, HMF.out, Below.refl _ _⟩
      case round =>
        obtain ⟨k, bb, m, hk, rfl, rfl, rfl, rfl, hr, hb⟩ := hrel
        have HRR := hid hr; clear hr
        have HB := hid hb
        by_cases hlt : k < R.length
        · obtain ⟨a', cap', hv, _, _, hc⟩ := HR.out.keep hb
          simp only [Value.slice.injEq, true_and] at hv
          obtain ⟨rfl, rfl⟩ := hv
          obtain ⟨g, o, x, rfl, c1, HD, HX⟩ := ints_at hc hlt
          clear hc hb
          have hltz : (k : Int) < (R.length : Int) := by omega
          go_wp2_with fail
          refine (atOnce_c _ _ L S x _ (H3.out.keep HB.out) (H3'.out.keep HB.out) HG.out HT.out.2.1 HT.out.2.2).mono ?_
          rintro e w4 ⟨rfl, hb4⟩
          have HB4 := hid (HB.out.trans (hb4.mono HB.out.size))
          clear hb4 c1
          obtain ⟨q, hq⟩ : ∃ q, cntF L S x = q := ⟨_, rfl⟩
          rw [hq]
          have HQ := hid hq
          clear hq
          by_cases t3 : m < q
          · have HST : Hid (mostF L S = mI (cntF L S) (R.drop (k + 1)) x q) := by show _ = _; rw [HRR.out, HD.out, mI_yes (by rw [HQ.out]; exact t3), HQ.out]
            go_wp2
            go_roundg (R.length - (k + 1))
            case rel => exact ⟨k + 1, _, _, by omega, rfl, by go_num, rfl, rfl, HST.out, HB4.out⟩
            case measure => omega
          · have HST : Hid (mostF L S = mI (cntF L S) (R.drop (k + 1)) bb m) := by show _ = _; rw [HRR.out, HD.out, mI_no (by rw [HQ.out]; exact t3)]
            go_wp2
            go_roundg (R.length - (k + 1))
            case rel => exact ⟨k + 1, _, _, by omega, rfl, by go_num, rfl, rfl, HST.out, HB4.out⟩
            case measure => omega
        · have HST : Hid (mostF L S = (bb, m)) := by show _ = _; rw [HRR.out, List.drop_eq_nil_of_le (by omega), mI_nil]
          have HBE := hid (HB3.out.trans (hb.mono HB3.out.size))
          have HSN := HSN
          clear hb
          by_cases t3 : 0 < m
          · have HM := hid (mostB_yes HTT.out t2 (by rw [HST.out]; exact t3))
            go_wp2
            go_ret3
            exact ⟨by rw [HM.out, HST.out]; rfl, HBE.out⟩
          · have HM := hid (mostB_no3 (L := L) (S := S) (by rw [HST.out]; exact t3))
            have hz := mostF_zero HSN.out (L := L) (by rw [HST.out]; exact t3)
            rw [HST.out] at hz
            obtain ⟨rfl, rfl⟩ : bb = 0 ∧ m = 0 := by simpa using hz
            clear hz
            go_wp2
            go_ret3
            exact ⟨by rw [HM.out]; rfl, HBE.out⟩
    · rw [t2]
      have HM := hid (mostB_no2 t2)
      go_wp2
      go_ret3
      exact ⟨by rw [HM.out]; rfl, HB2.out⟩
  · have HM := hid (mostB_no1 t)
    go_enter Try.func70, Try.ntmps70
    go_wp2_with fail
    refine (areTaskTimes_c _ _ L S _ h h').mono ?_
    rintro e w1 ⟨rfl, hb1⟩
    rw [t]
    go_wp2
    go_ret3
    exact ⟨by rw [HM.out]; rfl, hb1⟩

set_option maxRecDepth 100000 in
set_option maxHeartbeats 4000000 in
theorem sMostAtOnce_u (v : Value) (L : List Tsk) (u : Value) (S : List Int) (w : World) (h : RTasks w v L) (h' : RInts w u S) :
    Calls Try.prog 71 #[v, u] w fun e w' => e = .returned (.tuple #[.int .i64 (mostB L S).1, .int .i64 (mostB L S).2.1, .bool (mostB L S).2.2]) ∧ Below w.heap.size w w' := by
  rcases Bool.eq_false_or_eq_true (timesB L S) with t | t
  · have HT := hid (timesB_yes t)
    have HG := hid (good_of_tasksB HT.out.1)
    have HTT := hid t
    have hl12 := HG.out.1
    have HR := hid h
    have HU := hid h'
    have HLEN := hid HT.out.2.1
    have HS := hid (fun i hi => allB_at (i := i) HT.out.2.2 hi)
    have hsl12 : S.length ≤ 12 := by have := HLEN.out; omega
    obtain ⟨a, cap, rfl, h1, h2, hc⟩ := h
    obtain ⟨b, capb, rfl, h1', h2', hc'⟩ := h'
    clear hc hc'
    unfold maxLen at h2 h2'
    go_enter Try.func71, Try.ntmps71
    go_wp2_with fail
    refine (pjTimes_c _ _ L S _ HR.out HU.out).mono ?_
    rintro e w1 ⟨rfl, hb1⟩
    rw [t]
    have H1 := hid (HR.out.keep hb1)
    have H1' := hid (HU.out.keep hb1)
    have HB1 := hid hb1; clear hb1 HR HU
    go_wp2_with fail
    refine (pjStarts_c _ _ L S _ H1.out H1'.out HG.out HLEN.out HT.out.2.2).mono ?_
    rintro e w2 ⟨rfl, hb2⟩
    have HR := hid (H1.out.keep hb2)
    have HU := hid (H1'.out.keep hb2)
    have HB2 := hid (HB1.out.trans (hb2.mono HB1.out.size)); clear hb2 H1 H1'
    rcases Bool.eq_false_or_eq_true (startsB L S) with t2 | t2
    · rw [t2]
      have HSN := hid (fun x hx => (allB_mem HT.out.2.2 x hx).1)
      go_wp2
      go_loopg [7, 8, 26] S.length (fun gk bv mv i wr => ∃ k : Nat, ∃ b m : Int, k ≤ S.length ∧ gk = S.length - k ∧ i = .int .i64 k ∧ bv = .int .i64 b ∧ mv = .int .i64 m ∧ mostF L S = mS (cntF L S) (S.drop k) b m ∧ Below w2.heap.size w2 wr)
      case atStart => exact ⟨0, 0, 0, Nat.zero_le _, rfl, rfl, rfl, rfl, rfl, Below.refl _ _⟩
      case round =>
        obtain ⟨k, bb, m, hk, rfl, rfl, rfl, rfl, hr, hb⟩ := hrel
        obtain ⟨wo, rfl⟩ : ∃ wo : World, wo = wr := ⟨_, rfl⟩
        have HRO := hid hr; clear hr
        have HBO := hid hb
        by_cases hlt : k < S.length
        · obtain ⟨b', capb', hv, _, _, hc'⟩ := HU.out.keep hb
          simp only [Value.slice.injEq, true_and] at hv
          obtain ⟨rfl, rfl⟩ := hv
          obtain ⟨gb, ob, x, rfl, c3, HDO, HXO⟩ := ints_at hc' hlt
          clear hc' hb
          have hltz : (k : Int) < (S.length : Int) := by omega
          go_wp2
          go_loopg [11, 32] L.length (fun gk nv i wr => ∃ j : Nat, ∃ n : Int, j ≤ L.length ∧ gk = L.length - j ∧ i = .int .i64 j ∧ nv = .int .i64 n ∧ cntF L S x = cntL S x j (L.drop j) n ∧ 0 ≤ n ∧ n ≤ (j : Int) ∧ Below w2.heap.size w2 wr)
          case atStart => exact ⟨0, 0, Nat.zero_le _, rfl, rfl, rfl, rfl, by omega, by omega, HBO.out⟩
          case round =>
            obtain ⟨j, n, hj, rfl, rfl, rfl, hr, hn0, hn1, hb⟩ := hrel
            have HRR := hid hr; clear hr c3
            have HB := hid hb
            by_cases hltj : j < L.length
            · obtain ⟨a', cap', hv, _, _, hc⟩ := HR.out.keep hb
              simp only [Value.slice.injEq, true_and] at hv
              obtain ⟨rfl, rfl⟩ := hv
              obtain ⟨b', capb', hv, _, _, hc'⟩ := HU.out.keep hb
              simp only [Value.slice.injEq, true_and] at hv
              obtain ⟨rfl, rfl⟩ := hv
              obtain ⟨g, o, r, y, tm, rfl, c1, c2, hy, HD, HG2⟩ := tasks_at hc hltj
              obtain ⟨gb', ob', s, he, c3, _, HX⟩ := ints_at hc' (show j < S.length by have := HLEN.out; omega)
              simp only [Option.some.injEq, Addr.mk.injEq, and_true] at he
              obtain ⟨rfl, rfl⟩ := he
              have hx := HS.out j (by have := HLEN.out; omega)
              have htm := (HG.out.2 j hltj).2
              rw [HX.out] at hx
              rw [HG2.out] at htm
              have htm : 0 ≤ tm ∧ tm ≤ 2000 := htm
              obtain ⟨ay, cy, rfl, hy1, hy2, hyc⟩ := hy
              clear hc hc' hb hyc
              have ha : Below wr.heap.size wr (wr.alloc (.cells #[.slice ay y.length cy, .int .i64 tm] 67)) := (Below.refl _ _).alloc (Nat.le_refl _) _
              have HB1 := hid (HB.out.trans (ha.mono HB.out.size))
              have e3 := (ha.cell (p := ⟨gb, ob + j, none⟩) (cell_lt c3)).trans c3
              clear ha
              have hltz1 : (j : Int) < (L.length : Int) := by omega
              have hltz' : (j : Int) < (S.length : Int) := by have := HLEN.out; omega
              have f1 : IntKind.i64.wrap (s + tm) = s + tm := IntWalk.i64_in _ (by omega)
              have f2 : IntKind.i64.wrap (s + tm - 1) = s + tm - 1 := IntWalk.i64_in _ (by omega)
              rcases Bool.eq_false_or_eq_true (inB x s (s + tm - 1)) with t | t
              · have HST : Hid (cntF L S x = cntL S x (j + 1) (L.drop (j + 1)) (n + 1)) := by show _ = _; rw [HRR.out, HD.out, cntL_yes (by rw [HX.out]; exact t)]
                have hq : ∀ w', Calls Try.prog 103 #[.int .i64 x, .int .i64 s, .int .i64 (s + tm - 1)] w' fun e w'' => e = .returned (.bool true) ∧ w'' = w' := fun w' => (l1In_c _ _ _ w').mono fun _ _ h => ⟨by rw [h.1, t], h.2.symm⟩
                clear t
                go_wp2
                go_quiet ((go_at_call 103; exact Calls.quiet_of_same (hq _)))
                go_wp2
                go_roundg (L.length - (j + 1))
                case rel => exact ⟨j + 1, _, by omega, rfl, by go_num, rfl, HST.out, by omega, by omega, below_dn HB1.out _⟩
                case measure => omega
              · have HST : Hid (cntF L S x = cntL S x (j + 1) (L.drop (j + 1)) n) := by show _ = _; rw [HRR.out, HD.out, cntL_no (by rw [HX.out]; exact t)]
                have hq : ∀ w', Calls Try.prog 103 #[.int .i64 x, .int .i64 s, .int .i64 (s + tm - 1)] w' fun e w'' => e = .returned (.bool false) ∧ w'' = w' := fun w' => (l1In_c _ _ _ w').mono fun _ _ h => ⟨by rw [h.1, t], h.2.symm⟩
                clear t
                go_wp2
                go_quiet ((go_at_call 103; exact Calls.quiet_of_same (hq _)))
                go_wp2
                go_roundg (L.length - (j + 1))
                case rel => exact ⟨j + 1, _, by omega, rfl, by go_num, rfl, HST.out, by omega, by omega, below_dn HB1.out _⟩
                case measure => omega
            · have HQ : Hid (cntF L S x = n) := by show _ = _; rw [HRR.out, List.drop_eq_nil_of_le (by omega), cntL_nil]
              clear hb
              by_cases t3 : m < n
              · have HST : Hid (mostF L S = mS (cntF L S) (S.drop (k + 1)) x n) := by show _ = _; rw [HRO.out, HDO.out, mS_yes (.inl (by rw [HQ.out]; exact t3)), HQ.out]
                go_wp2
                go_roundg (S.length - (k + 1))
                case rel => exact ⟨k + 1, _, _, by omega, rfl, by go_num, rfl, rfl, HST.out, HB.out⟩
                case measure => omega
              · by_cases t4 : n = m
                · subst t4
                  by_cases t5 : x < bb
                  · have HST : Hid (mostF L S = mS (cntF L S) (S.drop (k + 1)) x n) := by show _ = _; rw [HRO.out, HDO.out, mS_yes (.inr ⟨HQ.out, t5⟩), HQ.out]
                    go_wp2
                    go_roundg (S.length - (k + 1))
                    case rel => exact ⟨k + 1, _, _, by omega, rfl, by go_num, rfl, rfl, HST.out, HB.out⟩
                    case measure => omega
                  · have HST : Hid (mostF L S = mS (cntF L S) (S.drop (k + 1)) bb n) := by show _ = _; rw [HRO.out, HDO.out, mS_no (by rw [HQ.out]; omega)]
                    go_wp2
                    go_roundg (S.length - (k + 1))
                    case rel => exact ⟨k + 1, _, _, by omega, rfl, by go_num, rfl, rfl, HST.out, HB.out⟩
                    case measure => omega
                · have HST : Hid (mostF L S = mS (cntF L S) (S.drop (k + 1)) bb m) := by show _ = _; rw [HRO.out, HDO.out, mS_no (by rw [HQ.out]; omega)]
                  have hne : (n == m) = false := by simpa using t4
                  clear t4
                  go_wp2
                  go_roundg (S.length - (k + 1))
                  case rel => exact ⟨k + 1, _, _, by omega, rfl, by go_num, rfl, rfl, HST.out, HB.out⟩
                  case measure => omega
        · have HST : Hid (mostF L S = (bb, m)) := by show _ = _; rw [HRO.out, List.drop_eq_nil_of_le (by omega), mS_nil]
          have HBE := hid (HB2.out.trans (hb.mono HB2.out.size))
          clear hb
          have hbest := mostF_best (L := L) HSN.out
          rw [HST.out] at hbest
          have hm0 : 0 ≤ m := by rcases hbest with ⟨h1, _⟩ | ⟨h1, _⟩ <;> (simp at h1; omega)
          clear hbest
          by_cases t3 : 0 < m
          · have HM := hid (mostB_yes HTT.out t2 (by rw [HST.out]; exact t3))
            have hne : (m == 0) = false := by simp; omega
            go_wp2
            go_ret3
            exact ⟨by rw [HM.out, HST.out]; rfl, HBE.out⟩
          · have HM := hid (mostB_no3 (L := L) (S := S) (by rw [HST.out]; exact t3))
            obtain rfl : m = 0 := by omega
            go_wp2
            go_ret3
            exact ⟨by rw [HM.out]; rfl, HBE.out⟩
    · rw [t2]
      have HM := hid (mostB_no2 t2)
      go_wp2
      go_ret3
      exact ⟨by rw [HM.out]; rfl, HB2.out⟩
  · have HM := hid (mostB_no1 t)
    go_enter Try.func71, Try.ntmps71
    go_wp2_with fail
    refine (pjTimes_c _ _ L S _ h h').mono ?_
    rintro e w1 ⟨rfl, hb1⟩
    rw [t]
    go_wp2
    go_ret3
    exact ⟨by rw [HM.out]; rfl, hb1⟩

end Go.Proofs.Ytegeelldcomnnaa
