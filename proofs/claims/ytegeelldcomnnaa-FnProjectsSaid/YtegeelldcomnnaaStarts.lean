/- Starts and ends of tasks: the plain laws, and both programs' functions for the least starts and the end. -/
import Derived.Test.YtegeelldcomnnaaAreTasks
import Derived.Test.YtegeelldcomnnaaAppend
import Derived.BigRegion
import Derived.Deep.Matrix
namespace Go.Proofs.Ytegeelldcomnnaa
open Go.RowKit
open Go.Lib (hid)

/-- tasks that need earlier ones alone, with times that are not great -/
def GoodT (L : List Tsk) : Prop := L.length ≤ 12 ∧ ∀ k, k < L.length → (∀ x ∈ (L.getD k noTsk).needs, 0 ≤ x ∧ x < (k : Int)) ∧ 0 ≤ (L.getD k noTsk).time ∧ (L.getD k noTsk).time ≤ 2000
theorem risB_mem {lo hi : Int} : ∀ {p : Option Int} {l : List Int}, risB lo hi p l = true → ∀ x ∈ l, lo ≤ x ∧ x ≤ hi := by
  intro p l
  induction l generalizing p with
  | nil => intro _ x hx; cases hx
  | cons y ys ih =>
    intro h x hx
    rw [risB_cons, Bool.and_eq_true, Bool.and_eq_true] at h
    cases List.mem_cons.1 hx with
    | inl e => subst e; exact inB_iff.1 h.1
    | inr e => exact ih h.2.2 x e
theorem gT_at : ∀ {i : Nat} {L : List Tsk}, gT i L = true → ∀ k, k < L.length → (∀ x ∈ (L.getD k noTsk).needs, 0 ≤ x ∧ x < ((i + k : Nat) : Int)) ∧ 0 ≤ (L.getD k noTsk).time ∧ (L.getD k noTsk).time ≤ 1000 := by
  intro i L
  induction L generalizing i with
  | nil => intro _ k hk; simp at hk
  | cons t ts ih =>
    intro h k hk
    rw [gT_cons, Bool.and_eq_true, Bool.and_eq_true] at h
    cases k with
    | zero =>
      have h1 := inB_iff.1 h.1
      exact ⟨fun x hx => by have := risB_mem h.2.1 x hx; omega, h1⟩
    | succ k =>
      have h1 := ih h.2.2 k (by simpa using hk)
      refine ⟨fun x hx => ?_, h1.2⟩
      have := h1.1 x hx
      omega
theorem tasksB_at {L : List Tsk} (h : tasksB L = true) : L.length ≤ 12 ∧ ∀ k, k < L.length → (∀ x ∈ (L.getD k noTsk).needs, 0 ≤ x ∧ x < (k : Int)) ∧ 0 ≤ (L.getD k noTsk).time ∧ (L.getD k noTsk).time ≤ 1000 := by
  rw [tasksB, Bool.and_eq_true] at h
  refine ⟨of_decide_eq_true h.1, fun k hk => ?_⟩
  have := gT_at h.2 k hk
  rwa [Nat.zero_add] at this
theorem good_of_tasksB {L : List Tsk} (h : tasksB L = true) : GoodT L :=
  ⟨(tasksB_at h).1, fun k hk => by have := (tasksB_at h).2 k hk; exact ⟨this.1, this.2.1, by omega⟩⟩

/-- the greatest end of the tasks that one needs -/
def startOf (S : List Int) (L : List Tsk) : List Int → Int → Int
  | [], s => s
  | k :: ks, s => startOf S L ks (max s (S.getD k.toNat 0 + (L.getD k.toNat noTsk).time))
theorem startOf_nil (S : List Int) (L : List Tsk) (s : Int) : startOf S L [] s = s := rfl
theorem startOf_cons (S : List Int) (L : List Tsk) (k : Int) (ks : List Int) (s : Int) : startOf S L (k :: ks) s = startOf S L ks (max s (S.getD k.toNat 0 + (L.getD k.toNat noTsk).time)) := rfl
def earlyL (L : List Tsk) : List Int → List Tsk → List Int
  | acc, [] => acc
  | acc, t :: ts => earlyL L (acc ++ [startOf acc L t.needs 0]) ts
theorem earlyL_nil (L : List Tsk) (acc : List Int) : earlyL L acc [] = acc := rfl
theorem earlyL_cons (L : List Tsk) (acc : List Int) (t : Tsk) (ts : List Tsk) : earlyL L acc (t :: ts) = earlyL L (acc ++ [startOf acc L t.needs 0]) ts := rfl
def endL (S : List Int) : Nat → List Tsk → Int → Int
  | _, [], e => e
  | i, t :: ts, e => endL S (i + 1) ts (max e (S.getD i 0 + t.time))
theorem endL_nil (S : List Int) (i : Nat) (e : Int) : endL S i [] e = e := rfl
theorem endL_cons (S : List Int) (i : Nat) (t : Tsk) (ts : List Tsk) (e : Int) : endL S i (t :: ts) e = endL S (i + 1) ts (max e (S.getD i 0 + t.time)) := rfl
/-- the least starts -/
def earlyF (L : List Tsk) : List Int := earlyL L [] L
/-- the end with starts -/
def endF (L : List Tsk) (S : List Int) : Int := endL S 0 L 0

/-- bounds of starts -/
def StartsOk (S : List Int) : Prop := ∀ j, j < S.length → 0 ≤ S.getD j 0 ∧ S.getD j 0 ≤ 2000 * (j : Int)
theorem startOf_bound {S : List Int} {L : List Tsk} {n : Nat} (hS : StartsOk S) (hn : n ≤ S.length) (hL : GoodT L) (hnL : n ≤ L.length) : ∀ (ks : List Int) (s : Int), (∀ x ∈ ks, 0 ≤ x ∧ x < (n : Int)) → 0 ≤ s → s ≤ 2000 * (n : Int) →
    0 ≤ startOf S L ks s ∧ startOf S L ks s ≤ 2000 * (n : Int) := by
  intro ks
  induction ks with
  | nil => intro s _ h1 h2; exact ⟨h1, h2⟩
  | cons k ks ih =>
    intro s hk h1 h2
    rw [startOf_cons]
    have hk0 := hk k List.mem_cons_self
    have hs := hS k.toNat (by omega)
    have ht := (hL.2 k.toNat (by omega)).2
    refine ih _ (fun x hx => hk x (List.mem_cons_of_mem _ hx)) (by omega) ?_
    omega
theorem startsOk_push {S : List Int} {s : Int} (hS : StartsOk S) (h1 : 0 ≤ s) (h2 : s ≤ 2000 * (S.length : Int)) : StartsOk (S ++ [s]) := by
  intro j hj
  rw [List.length_append] at hj
  by_cases h : j < S.length
  · have := hS j h
    simpa [List.getD, List.getElem?_append_left h] using this
  · have : j = S.length := by simp at hj; omega
    subst this
    simpa [List.getD] using ⟨h1, h2⟩
theorem earlyL_ok {L : List Tsk} (hL : GoodT L) : ∀ (d k : Nat) (acc : List Int), d = L.length - k → k ≤ L.length → acc.length = k → StartsOk acc → (earlyL L acc (L.drop k)).length = L.length ∧ StartsOk (earlyL L acc (L.drop k)) := by
  intro d
  induction d with
  | zero => intro k acc hd hk hl hS; rw [List.drop_eq_nil_of_le (by omega), earlyL_nil]; exact ⟨by omega, hS⟩
  | succ d ih =>
    intro k acc hd hk hl hS
    rw [drop_cons L noTsk k (by omega), earlyL_cons]
    have hb := startOf_bound (n := k) hS (by omega) hL hk (L.getD k noTsk).needs 0 (hL.2 k (by omega)).1 (by omega) (by omega)
    exact ih (k + 1) _ (by omega) (by omega) (by simp [hl]) (startsOk_push hS hb.1 (by rw [hl]; exact hb.2))
theorem earlyF_ok {L : List Tsk} (hL : GoodT L) : (earlyF L).length = L.length ∧ StartsOk (earlyF L) := by
  have := earlyL_ok hL L.length 0 [] (by omega) (by omega) rfl (fun j hj => by simp at hj)
  rwa [List.drop_zero] at this

theorem tasks_needs {L : List Tsk} (hL : GoodT L) {k : Nat} {y : List Int} {tm : Int} (hk : k < L.length) (h : L.getD k noTsk = ⟨y, tm⟩) : (∀ x ∈ y, 0 ≤ x ∧ x < (k : Int)) ∧ 0 ≤ tm ∧ tm ≤ 2000 := by
  have := hL.2 k hk; rw [h] at this; exact this

/-- the cells of tasks at every index -/
theorem rtasks_open {w : World} {v : Value} {L : List Tsk} (h : RTasks w v L) : ∃ g o cap, ∃ r : Nat → Value, L.length ≤ cap ∧ cap ≤ maxLen ∧ (0 < L.length → v = .slice (some ⟨g, o, none⟩) L.length cap) ∧
    ∀ i, i < L.length → w.cell? ⟨g, o + i * 2, none⟩ = some (r i) ∧ w.cell? ⟨g, o + i * 2 + 1, none⟩ = some (.int .i64 (L.getD i noTsk).time) ∧ RInts w (r i) (L.getD i noTsk).needs := by
  obtain ⟨a, cap, rfl, h1, h2, hc⟩ := h
  by_cases h0 : 0 < L.length
  · obtain ⟨g, o, _, rfl, _⟩ := hc 0 h0
    have each : ∀ i, i < L.length → ∃ q : Value, w.cell? ⟨g, o + i * 2, none⟩ = some q ∧ w.cell? ⟨g, o + i * 2 + 1, none⟩ = some (.int .i64 (L.getD i noTsk).time) ∧ RInts w q (L.getD i noTsk).needs := by
      intro i hi
      obtain ⟨g', o', q, he, h3, h4, h5⟩ := hc i hi
      simp only [Option.some.injEq, Addr.mk.injEq, and_true] at he
      obtain ⟨rfl, rfl⟩ := he
      exact ⟨q, h3, h4, h5⟩
    obtain ⟨q, hq⟩ := Go.Deep.choose_lt each
    exact ⟨g, o, cap, q, h1, h2, fun _ => rfl, hq⟩
  · exact ⟨0, 0, cap, fun _ => .nilFunc, h1, h2, fun h => absurd h h0, fun i hi => by omega⟩

theorem below_dn {B : Nat} {W w : World} (hb : Below B W w) (k : Nat) : Below B W (w.drewN k) := ⟨hb.os, hb.tape, hb.output, hb.size, hb.block⟩
theorem l1Most_s (a b : Int) (w : World) : Calls Try.prog 87 #[.int .i64 a, .int .i64 b] w fun e w' => e = .returned (.int .i64 (max a b)) ∧ w' = w := (l1Most_c a b w).mono fun _ _ h => ⟨h.1, h.2.symm⟩
theorem l1Least_s (a b : Int) (w : World) : Calls Try.prog 86 #[.int .i64 a, .int .i64 b] w fun e w' => e = .returned (.int .i64 (min a b)) ∧ w' = w := (l1Least_c a b w).mono fun _ _ h => ⟨h.1, h.2.symm⟩

set_option maxRecDepth 100000 in
set_option maxHeartbeats 2000000 in
theorem pjEnd_c (v u : Value) (L : List Tsk) (S : List Int) (w : World) (h : RTasks w v L) (h' : RInts w u S) (hlen : S.length = L.length)
    (hS : ∀ j, j < S.length → -200000 ≤ S.getD j 0 ∧ S.getD j 0 ≤ 200000) (hT : ∀ k, k < L.length → 0 ≤ (L.getD k noTsk).time ∧ (L.getD k noTsk).time ≤ 2000) :
    Calls Try.prog 123 #[v, u] w fun e w' => e = .returned (.int .i64 (endF L S)) ∧ Below w.heap.size w w' := by
  have HR := hid h
  have HU := hid h'
  have HS := hid hS; clear hS
  have HLEN := hid hlen; clear hlen
  have HT := hid hT; clear hT
  obtain ⟨a, cap, rfl, h1, h2, hc⟩ := h
  obtain ⟨b, capb, rfl, h1', h2', hc'⟩ := h'
  clear hc hc'
  unfold maxLen at h2 h2'
  go_enter Try.func123, Try.ntmps123
  go_wp2
  go_loopg [5, 10] L.length (fun gk ev i wr => ∃ k : Nat, ∃ e : Int, k ≤ L.length ∧ gk = L.length - k ∧ i = .int .i64 k ∧ ev = .int .i64 e ∧ endF L S = endL S k (L.drop k) e ∧ 0 ≤ e ∧ e ≤ 202000 ∧ Below w.heap.size w wr)
  case atStart => exact ⟨0, 0, Nat.zero_le _, rfl, rfl, rfl, rfl, by omega, by omega, Below.refl _ _⟩
  case round =>
    obtain ⟨k, e, hk, rfl, rfl, rfl, hr, he0, he1, hb⟩ := hrel
    have HRR := hid hr; clear hr
    have HB := hid hb
    by_cases hlt : k < L.length
    · obtain ⟨a', cap', hv, _, _, hc⟩ := HR.out.keep hb
      simp only [Value.slice.injEq, true_and] at hv
      obtain ⟨rfl, rfl⟩ := hv
      obtain ⟨b', capb', hv, _, _, hc'⟩ := HU.out.keep hb
      simp only [Value.slice.injEq, true_and] at hv
      obtain ⟨rfl, rfl⟩ := hv
      obtain ⟨g, o, r, y, tm, rfl, c1, c2, hy, HD, HG⟩ := tasks_at hc hlt
      obtain ⟨gb, ob, x, rfl, c3, _, HX⟩ := ints_at hc' (show k < S.length by have := HLEN.out; omega)
      have hx := HS.out k (by have := HLEN.out; omega)
      have htm := HT.out k hlt
      rw [HX.out] at hx
      rw [HG.out] at htm
      have htm : 0 ≤ tm ∧ tm ≤ 2000 := htm
      obtain ⟨ay, cy, rfl, hy1, hy2, hyc⟩ := hy
      clear hc hc' hb hyc
      have ha : Below wr.heap.size wr (wr.alloc (.cells #[.slice ay y.length cy, .int .i64 tm] 67)) := (Below.refl _ _).alloc (Nat.le_refl _) _
      have HB1 := hid (HB.out.trans (ha.mono HB.out.size))
      have e3 := (ha.cell (p := ⟨gb, ob + k, none⟩) (cell_lt c3)).trans c3
      clear ha
      have hltz : (k : Int) < (L.length : Int) := by omega
      have hltz' : (k : Int) < (S.length : Int) := by have := HLEN.out; omega
      have f1 : IntKind.i64.wrap (x + tm) = x + tm := IntWalk.i64_in _ (by omega)
      have F1 := hid f1
      go_wp2
      go_quiet ((go_at_call 87; exact Calls.quiet_of_same (l1Most_s _ _ _)))
      go_wp2
      go_roundg (L.length - (k + 1))
      case rel => exact ⟨k + 1, _, by omega, rfl, by go_num, rfl, by rw [HRR.out, HD.out, endL_cons, HX.out], by omega, by omega, below_dn HB1.out _⟩
      case measure => omega
    · have HG : Hid (endF L S = e) := by show _ = _; rw [HRR.out, List.drop_eq_nil_of_le (by omega), endL_nil]
      clear hb
      go_wp2
      go_ret
      exact ⟨ret_int HG.out.symm, HB.out⟩

set_option maxRecDepth 100000 in
set_option maxHeartbeats 2000000 in
theorem endOf_c (v u : Value) (L : List Tsk) (S : List Int) (w : World) (h : RTasks w v L) (h' : RInts w u S) (hlen : S.length = L.length)
    (hS : ∀ j, j < S.length → -200000 ≤ S.getD j 0 ∧ S.getD j 0 ≤ 200000) (hT : ∀ k, k < L.length → 0 ≤ (L.getD k noTsk).time ∧ (L.getD k noTsk).time ≤ 2000) :
    Calls Try.prog 122 #[v, u] w fun e w' => e = .returned (.int .i64 (endF L S)) ∧ Below w.heap.size w w' := by
  have HR := hid h
  have HU := hid h'
  have HS := hid hS; clear hS
  have HLEN := hid hlen; clear hlen
  have HT := hid hT; clear hT
  obtain ⟨a, cap, rfl, h1, h2, hc⟩ := h
  obtain ⟨b, capb, rfl, h1', h2', hc'⟩ := h'
  clear hc hc'
  unfold maxLen at h2 h2'
  go_enter Try.func122, Try.ntmps122
  go_wp2
  go_loopg [5, 10] L.length (fun gk ev i wr => ∃ k : Nat, ∃ e : Int, k ≤ L.length ∧ gk = L.length - k ∧ i = .int .i64 k ∧ ev = .int .i64 e ∧ endF L S = endL S k (L.drop k) e ∧ 0 ≤ e ∧ e ≤ 202000 ∧ Below w.heap.size w wr)
  case atStart => exact ⟨0, 0, Nat.zero_le _, rfl, rfl, rfl, rfl, by omega, by omega, Below.refl _ _⟩
  case round =>
    obtain ⟨k, e, hk, rfl, rfl, rfl, hr, he0, he1, hb⟩ := hrel
    have HRR := hid hr; clear hr
    have HB := hid hb
    by_cases hlt : k < L.length
    · obtain ⟨a', cap', hv, _, _, hc⟩ := HR.out.keep hb
      simp only [Value.slice.injEq, true_and] at hv
      obtain ⟨rfl, rfl⟩ := hv
      obtain ⟨b', capb', hv, _, _, hc'⟩ := HU.out.keep hb
      simp only [Value.slice.injEq, true_and] at hv
      obtain ⟨rfl, rfl⟩ := hv
      obtain ⟨g, o, r, y, tm, rfl, c1, c2, hy, HD, HG⟩ := tasks_at hc hlt
      obtain ⟨gb, ob, x, rfl, c3, _, HX⟩ := ints_at hc' (show k < S.length by have := HLEN.out; omega)
      have hx := HS.out k (by have := HLEN.out; omega)
      have htm := HT.out k hlt
      rw [HX.out] at hx
      rw [HG.out] at htm
      have htm : 0 ≤ tm ∧ tm ≤ 2000 := htm
      obtain ⟨ay, cy, rfl, hy1, hy2, hyc⟩ := hy
      clear hc hc' hb hyc
      have ha : Below wr.heap.size wr (wr.alloc (.cells #[.slice ay y.length cy, .int .i64 tm] 67)) := (Below.refl _ _).alloc (Nat.le_refl _) _
      have HB1 := hid (HB.out.trans (ha.mono HB.out.size))
      have e3 := (ha.cell (p := ⟨gb, ob + k, none⟩) (cell_lt c3)).trans c3
      clear ha
      have hltz : (k : Int) < (L.length : Int) := by omega
      have hltz' : (k : Int) < (S.length : Int) := by have := HLEN.out; omega
      have f1 : IntKind.i64.wrap (x + tm) = x + tm := IntWalk.i64_in _ (by omega)
      have F1 := hid f1
      go_wp2
      go_quiet (fail)
      go_wp2
      all_goals
        go_roundg (L.length - (k + 1))
        case rel => exact ⟨k + 1, _, by omega, rfl, by go_num, rfl, by rw [HRR.out, HD.out, endL_cons, HX.out]; congr 1; show max e (x + tm) = _; have := F1.out; omega, by omega, by omega, below_dn HB1.out _⟩
        case measure => omega
    · have HG : Hid (endF L S = e) := by show _ = _; rw [HRR.out, List.drop_eq_nil_of_le (by omega), endL_nil]
      clear hb
      go_wp2
      go_ret
      exact ⟨ret_int HG.out.symm, HB.out⟩

end Go.Proofs.Ytegeelldcomnnaa
