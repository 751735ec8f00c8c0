/- Whether a list is a chain of tasks. -/
import Derived.Test.YtegeelldcomnnaaAreStarts
namespace Go.Proofs.Ytegeelldcomnnaa
open Go.RowKit
open Go.Lib (hid)

def needsAt (L : List Tsk) (x : Int) : List Int := (L.getD x.toNat noTsk).needs
/-- x needs the task ahead of it -/
def linkB (L : List Tsk) : Option Int → Int → Bool
  | none, _ => true
  | some q, x => hasB (needsAt L x) q
theorem linkB_none (L : List Tsk) (x : Int) : linkB L none x = true := rfl
theorem linkB_some (L : List Tsk) (q x : Int) : linkB L (some q) x = hasB (needsAt L x) q := rfl
def chR (L : List Tsk) : Option Int → List Int → Bool
  | _, [] => true
  | p, x :: xs => inB x 0 ((L.length : Int) - 1) && (linkB L p x && chR L (some x) xs)
theorem chR_nil (L : List Tsk) (p : Option Int) : chR L p [] = true := by cases p <;> rfl
theorem chR_cons (L : List Tsk) (p : Option Int) (x : Int) (xs : List Int) : chR L p (x :: xs) = (inB x 0 ((L.length : Int) - 1) && (linkB L p x && chR L (some x) xs)) := by cases p <;> rfl
def chainB (L : List Tsk) (C : List Int) : Bool := chR L none C && decide (0 < C.length)

set_option maxRecDepth 100000 in
set_option maxHeartbeats 2000000 in
theorem isChain_c (v u : Value) (L : List Tsk) (C : List Int) (w : World) (h : RTasks w v L) (h' : RInts w u C) (hl12 : L.length ≤ 12) :
    Calls Try.prog 131 #[v, u] w fun e w' => e = .returned (.bool (chainB L C)) ∧ Below w.heap.size w w' := by
  have HU := hid h'
  obtain ⟨g, o, cap, r, h1, h2, hv, hc⟩ := rtasks_open h
  obtain ⟨a', cap', hvv, h1', h2', _⟩ := h
  obtain ⟨b, capb, rfl, hb1, hb2, hc'⟩ := h'
  have HC := hid hc; clear hc
  subst hvv
  unfold maxLen at h2' hb2
  have f0 : IntKind.i64.wrap ((L.length : Int) - 1) = (L.length : Int) - 1 := IntWalk.i64_in _ (by omega)
  have HC' := hid hc'; clear hc'
  go_enter Try.func131, Try.ntmps131
  go_wp2
  go_loopg [9] C.length (fun gk i wr => ∃ k : Nat, k ≤ C.length ∧ gk = C.length - k ∧ i = .int .i64 k ∧ chR L none C = chR L (prevOf C k) (C.drop k) ∧ Below w.heap.size w wr)
  case atStart => exact ⟨0, Nat.zero_le _, rfl, rfl, rfl, Below.refl _ _⟩
  case round =>
    obtain ⟨k, hk, rfl, rfl, hr, hb⟩ := hrel
    have HR := hid hr; clear hr
    have HB := hid hb
    by_cases hlt : k < C.length
    · obtain ⟨gb, ob, x, rfl, e1, HD, HX⟩ := ints_at HC'.out hlt
      have e1 := (hb.cell (p := ⟨gb, ob + k, none⟩) (cell_lt e1)).trans e1
      rcases Bool.eq_false_or_eq_true (inB x 0 ((L.length : Int) - 1)) with t1 | t1
      · have hx := inB_iff.1 t1
        obtain ⟨n, rfl⟩ : ∃ n : Nat, x = (n : Int) := ⟨x.toNat, by omega⟩
        have hv := hv (by omega)
        simp only [Value.slice.injEq, true_and] at hv
        obtain ⟨rfl, rfl⟩ := hv
        by_cases hk0 : 0 < k
        · obtain ⟨j, rfl⟩ : ∃ j, k = j + 1 := ⟨k - 1, by omega⟩
          obtain ⟨gb', ob', y, he, e2, _, HY⟩ := ints_at HC'.out (show j < C.length by omega)
          simp only [Option.some.injEq, Addr.mk.injEq, and_true] at he
          obtain ⟨rfl, rfl⟩ := he
          have e2 := (hb.cell (p := ⟨gb, ob + j, none⟩) (cell_lt e2)).trans e2
          obtain ⟨c1, _, hy⟩ := HC.out n (by omega)
          have e3 := (hb.cell (p := ⟨g, o + n * 2, none⟩) (cell_lt c1)).trans c1
          have hy' := hy.keep hb
          have HP := hid (prevOf_succ C j)
          have HN : Hid ((L.getD n noTsk).needs = needsAt L (n : Int)) := by show _ = _; rw [needsAt, Int.toNat_natCast]
          rw [HN.out] at hy'
          obtain ⟨ny, hny⟩ : ∃ ny, needsAt L (n : Int) = ny := ⟨_, rfl⟩
          rw [hny] at hy'
          have HNY := hid hny
          clear hb c1 hy hny
          have hnz : (n : Int) < (L.length : Int) := by omega
          have hjz : (j : Int) < (C.length : Int) := by omega
          have hjz1 : ((j + 1 : Nat) : Int) < (C.length : Int) := by omega
          have f2 : IntKind.i64.wrap (((j + 1 : Nat) : Int) - 1) = (j : Int) := by rw [IntWalk.i64_in _ (by omega)]; omega
          rcases Bool.eq_false_or_eq_true (hasB ny y) with t2 | t2
          all_goals
            go_wp2
            go_quiet (first
              | (go_at_call 98; exact Calls.quiet_of_same ((within_c _ _ _ _).mono fun _ _ h => ⟨h.1, h.2.symm⟩))
              | (go_at_call 140; exact Calls.quiet_of_same ((contains_c _ ny _ _ hy'.drewN).mono fun _ _ h => ⟨h.1, h.2.symm⟩)))
            go_wp2
          · go_roundg (C.length - (j + 1 + 1))
            case rel => exact ⟨j + 1 + 1, by omega, rfl, by go_num, by rw [HR.out, HD.out, chR_cons, t1, HP.out, HY.out, linkB_some, HNY.out, t2, prevOf_succ C (j + 1), HX.out]; rfl, below_dn HB.out _⟩
            case measure => omega
          · go_ret
            exact ⟨ret_bool (by rw [chainB, HR.out, HD.out, chR_cons, HP.out, HY.out, linkB_some, HNY.out, t2]; simp), below_dn HB.out _⟩
        · have HP := hid (prevOf_none C k hk0)
          obtain rfl : k = 0 := by omega
          rw [Nat.add_zero] at e1
          clear hb
          go_wp2
          go_quiet ((go_at_call 98; exact Calls.quiet_of_same ((within_c _ _ _ _).mono fun _ _ h => ⟨h.1, h.2.symm⟩)))
          go_wp2
          go_roundg (C.length - (0 + 1))
          case rel => exact ⟨0 + 1, by omega, rfl, by go_num, by rw [HR.out, HD.out, chR_cons, t1, HP.out, linkB_none, prevOf_succ C 0, HX.out]; rfl, below_dn HB.out _⟩
          case measure => omega
      · clear hb
        go_wp2
        go_quiet ((go_at_call 98; exact Calls.quiet_of_same ((within_c _ _ _ _).mono fun _ _ h => ⟨h.1, h.2.symm⟩)))
        go_wp2
        go_ret
        exact ⟨ret_bool (by rw [chainB, HR.out, HD.out, chR_cons, t1]; rfl), below_dn HB.out _⟩
    · have HG : Hid (chR L none C = true) := by show _ = _; rw [HR.out, List.drop_eq_nil_of_le (by omega), chR_nil]
      clear hb
      go_wp2
      go_ret
      exact ⟨ret_bool (by rw [chainB, HG.out, Bool.true_and]; first | done | simp), HB.out⟩

end Go.Proofs.Ytegeelldcomnnaa
