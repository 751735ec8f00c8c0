/- Whether a chain proves the end of starts: both programs' functions. -/
import Derived.Test.YtegeelldcomnnaaChain
namespace Go.Proofs.Ytegeelldcomnnaa
open Go.RowKit
open Go.Lib (hid)

/-- the times of tasks, added up -/
def sumC (L : List Tsk) : List Int → Int → Int
  | [], s => s
  | x :: xs, s => sumC L xs (s + (L.getD x.toNat noTsk).time)
theorem sumC_nil (L : List Tsk) (s : Int) : sumC L [] s = s := rfl
theorem sumC_cons (L : List Tsk) (x : Int) (xs : List Int) (s : Int) : sumC L (x :: xs) s = sumC L xs (s + (L.getD x.toNat noTsk).time) := rfl
def provOk (L : List Tsk) (S C : List Int) : Bool := timesB L S && (startsB L S && chainB L C)
def provB (L : List Tsk) (S C : List Int) : Bool × Bool := if provOk L S C then (sumC L C 0 == endF L S, true) else (false, false)
theorem provB_yes {L : List Tsk} {S C : List Int} (h : provOk L S C = true) : provB L S C = (sumC L C 0 == endF L S, true) := by rw [provB, h]; rfl
theorem provB_no {L : List Tsk} {S C : List Int} (h : provOk L S C = false) : provB L S C = (false, false) := by rw [provB, h]; rfl
theorem chR_all {L : List Tsk} : ∀ {p : Option Int} {C : List Int}, chR L p C = true → allB C 0 ((L.length : Int) - 1) = true := by
  intro p C
  induction C generalizing p with
  | nil => intro _; rfl
  | cons x xs ih =>
    intro h
    rw [chR_cons, Bool.and_eq_true, Bool.and_eq_true] at h
    rw [allB_cons, h.1, ih h.2.2]; rfl
theorem hasB_mem {l : List Int} {n : Int} (h : hasB l n = true) : n ∈ l := by
  induction l with
  | nil => cases h
  | cons x xs ih =>
    rw [hasB_cons, Bool.or_eq_true] at h
    rcases h with h | h
    · rw [eq_of_beq h]; exact List.mem_cons_self
    · exact List.mem_cons_of_mem _ (ih h)
/-- a chain of k tasks ends at task k - 1 or later -/
def Pre (L : List Tsk) (C : List Int) (k : Nat) : Prop := ∀ q, prevOf C k = some q → (k : Int) ≤ q + 1 ∧ q < L.length
theorem pre_zero (L : List Tsk) (C : List Int) : Pre L C 0 := by intro q hq; simp [prevOf] at hq
theorem pre_step {L : List Tsk} {C : List Int} {k : Nat} (hL : GoodT L) (h : Pre L C k) {x : Int} (hx0 : 0 ≤ x) (hx : x < L.length) (hlink : linkB L (prevOf C k) x = true) (hX : C.getD k 0 = x) : Pre L C (k + 1) ∧ k < 12 := by
  have h12 := hL.1
  by_cases hk : 0 < k
  · have hp : prevOf C k = some (C.getD (k - 1) 0) := by unfold prevOf; rw [if_neg (by omega)]
    have := h _ hp
    rw [hp, linkB_some] at hlink
    have hm := (hL.2 x.toNat (by omega)).1 _ (hasB_mem hlink)
    refine ⟨fun q hq => ?_, by omega⟩
    rw [prevOf_succ, hX] at hq
    cases hq
    omega
  · refine ⟨fun q hq => ?_, by omega⟩
    rw [prevOf_succ, hX] at hq
    cases hq
    omega

set_option maxRecDepth 100000 in
set_option maxHeartbeats 4000000 in
theorem iIsProvedEnd_u (v : Value) (L : List Tsk) (u : Value) (S : List Int) (t : Value) (C : List Int) (w : World) (h : RTasks w v L) (h' : RInts w u S) (h'' : RInts w t C) :
    Calls Try.prog 54 #[v, u, t] w fun e w' => e = .returned (.tuple #[.bool (provB L S C).1, .bool (provB L S C).2]) ∧ Below w.heap.size w w' := by
  rcases Bool.eq_false_or_eq_true (timesB L S) with t1 | t1
  · have HT := hid (timesB_yes t1)
    have HG := hid (good_of_tasksB HT.out.1)
    rcases Bool.eq_false_or_eq_true (startsB L S) with t2 | t2
    · rcases Bool.eq_false_or_eq_true (chainB L C) with t3 | t3
      · have hok : provOk L S C = true := by rw [provOk, t1, t2, t3]; rfl
        have HB := hid (provB_yes hok); clear hok
        have HCH : Hid (chR L none C = true) := by show _ = _; rw [chainB, Bool.and_eq_true] at t3; exact t3.1
        go_enter Try.func54, Try.ntmps54
        go_wp2_with fail
        refine (areTaskTimes_c _ _ L S _ h h').mono ?_
        rintro e w1 ⟨rfl, hb1⟩
        rw [t1]
        have h1 := h.keep hb1
        have h1' := h'.keep hb1
        have h1'' := h''.keep hb1
        have HB1 := hid hb1; clear hb1 h h' h''
        go_wp2_with fail
        refine (areStarts_c _ _ L S _ h1 h1' HG.out HT.out.2.1 HT.out.2.2).mono ?_
        rintro e w2 ⟨rfl, hb2⟩
        rw [t2]
        have h2 := h1.keep hb2
        have h2' := h1'.keep hb2
        have h2'' := h1''.keep hb2
        have HB2 := hid (HB1.out.trans (hb2.mono HB1.out.size)); clear hb2 h1 h1' h1''
        go_wp2_with fail
        refine (isChain_c _ _ L C _ h2 h2'' HG.out.1).mono ?_
        rintro e w3 ⟨rfl, hb3⟩
        rw [t3]
        have h3 := h2.keep hb3
        have h3' := hid (h2'.keep hb3)
        have h3'' := h2''.keep hb3
        have HB3 := hid (HB2.out.trans (hb3.mono HB2.out.size)); clear hb3 h2 h2' h2''
        have HR := hid h3
        obtain ⟨g, o, cap, r, h1, h2, hv, hc⟩ := rtasks_open h3
        obtain ⟨a', cap', hvv, hl1, hl2, _⟩ := h3
        obtain ⟨b, capb, rfl, hb1, hb2, hc'⟩ := h3''
        have HC := hid hc; clear hc
        subst hvv
        unfold maxLen at hl2 hb2
        have HC' := hid hc'; clear hc'
        have hl12 := HG.out.1
        go_wp2
        go_loopg [8, 29] C.length (fun gk sv i wr => ∃ k : Nat, ∃ s : Int, k ≤ C.length ∧ gk = C.length - k ∧ i = .int .i64 k ∧ sv = .int .i64 s ∧ chR L (prevOf C k) (C.drop k) = true ∧ sumC L C 0 = sumC L (C.drop k) s ∧ Pre L C k ∧ 0 ≤ s ∧ s ≤ 2000 * (k : Int) ∧ Below w3.heap.size w3 wr)
        case atStart => exact ⟨0, 0, Nat.zero_le _, rfl, rfl, rfl, HCH.out, rfl, pre_zero _ _, by omega, by omega, Below.refl _ _⟩
        case round =>
          obtain ⟨k, s, hk, rfl, rfl, rfl, hch, hsum, hpre, hs0, hs1, hb⟩ := hrel
          have HS := hid hsum; clear hsum
          have HPR := hid hpre; clear hpre
          have HBB := hid hb
          by_cases hlt : k < C.length
          · obtain ⟨gb, ob, x, rfl, e1, HD, HX⟩ := ints_at HC'.out hlt
            have e1 := (hb.cell (p := ⟨gb, ob + k, none⟩) (cell_lt e1)).trans e1
            rw [HD.out, chR_cons, Bool.and_eq_true, Bool.and_eq_true] at hch
            have hx := inB_iff.1 hch.1
            have hps := pre_step HG.out HPR.out hx.1 (by omega) hch.2.1 HX.out
            have HCH2 : Hid (chR L (prevOf C (k + 1)) (C.drop (k + 1)) = true) := by show _ = _; rw [prevOf_succ, HX.out]; exact hch.2.2
            clear hch
            obtain ⟨n, rfl⟩ : ∃ n : Nat, x = (n : Int) := ⟨x.toNat, by omega⟩
            have hv := hv (by omega)
            simp only [Value.slice.injEq, true_and] at hv
            obtain ⟨rfl, rfl⟩ := hv
            obtain ⟨_, c2, _⟩ := HC.out n (by omega)
            have ht0 := (HG.out.2 n (by omega)).2
            obtain ⟨tn, htn⟩ : ∃ tn, (L.getD n noTsk).time = tn := ⟨_, rfl⟩
            rw [htn] at c2 ht0
            have HTN := hid htn
            have e3 := (hb.cell (p := ⟨g, o + n * 2 + 1, none⟩) (cell_lt c2)).trans c2
            have HP2 := hid hps.1
            have hk12 := hps.2
            clear hb c2 htn hps
            have hnz : (n : Int) < (L.length : Int) := by omega
            have hkz : (k : Int) < (C.length : Int) := by omega
            have f1 : IntKind.i64.wrap (s + tn) = s + tn := IntWalk.i64_in _ (by omega)
            go_wp2
            go_roundg (C.length - (k + 1))
            case rel => exact ⟨k + 1, s + tn, by omega, rfl, by go_num, rfl, HCH2.out, by rw [HS.out, HD.out, sumC_cons, Int.toNat_natCast, HTN.out], HP2.out, by omega, by omega, HBB.out⟩
            case measure => omega
          · have HGG : Hid (sumC L C 0 = s) := by show _ = _; rw [HS.out, List.drop_eq_nil_of_le (by omega), sumC_nil]
            have h4 := HR.out.keep hb
            have h4' := h3'.out.keep hb
            have HB4 := hid (HB3.out.trans (hb.mono HB3.out.size))
            clear hb hch
            have HAS := hid (fun i (hi : i < S.length) => allB_at (i := i) HT.out.2.2 hi)
            go_wp2_with fail
            refine (endOf_c _ _ L S _ h4 h4' HT.out.2.1 (fun j hj => by have := HAS.out j hj; omega) (good_times HG.out)).mono ?_
            rintro e w5 ⟨rfl, hb5⟩
            have HB5 := hid (HB4.out.trans (hb5.mono HB4.out.size)); clear hb5 h4 h4'
            go_wp2
            go_ret2
            exact ⟨by rw [HB.out, HGG.out]; rfl, HB5.out⟩
      · have hok : provOk L S C = false := by rw [provOk, t1, t2, t3]; rfl
        have HB := hid (provB_no hok); clear hok
        go_enter Try.func54, Try.ntmps54
        go_wp2_with fail
        refine (areTaskTimes_c _ _ L S _ h h').mono ?_
        rintro e w1 ⟨rfl, hb1⟩
        rw [t1]
        have h1 := h.keep hb1
        have h1' := h'.keep hb1
        have h1'' := h''.keep hb1
        have HB1 := hid hb1; clear hb1 h h' h''
        go_wp2_with fail
        refine (areStarts_c _ _ L S _ h1 h1' HG.out HT.out.2.1 HT.out.2.2).mono ?_
        rintro e w2 ⟨rfl, hb2⟩
        rw [t2]
        have h2 := h1.keep hb2
        have h2'' := h1''.keep hb2
        have HB2 := hid (HB1.out.trans (hb2.mono HB1.out.size)); clear hb2 h1 h1' h1''
        go_wp2_with fail
        refine (isChain_c _ _ L C _ h2 h2'' HG.out.1).mono ?_
        rintro e w3 ⟨rfl, hb3⟩
        rw [t3]
        have HB3 := hid (HB2.out.trans (hb3.mono HB2.out.size)); clear hb3 h2 h2''
        go_wp2
        go_ret2
        exact ⟨by rw [HB.out]; rfl, HB3.out⟩
    · have hok : provOk L S C = false := by rw [provOk, t1, t2]; rfl
      have HB := hid (provB_no hok); clear hok
      go_enter Try.func54, Try.ntmps54
      go_wp2_with fail
      refine (areTaskTimes_c _ _ L S _ h h').mono ?_
      rintro e w1 ⟨rfl, hb1⟩
      rw [t1]
      have h1 := h.keep hb1
      have h1' := h'.keep hb1
      have HB1 := hid hb1; clear hb1 h h' h''
      go_wp2_with fail
      refine (areStarts_c _ _ L S _ h1 h1' HG.out HT.out.2.1 HT.out.2.2).mono ?_
      rintro e w2 ⟨rfl, hb2⟩
      rw [t2]
      have HB2 := hid (HB1.out.trans (hb2.mono HB1.out.size)); clear hb2 h1 h1'
      go_wp2
      go_ret2
      exact ⟨by rw [HB.out]; rfl, HB2.out⟩
  · have hok : provOk L S C = false := by rw [provOk, t1]; rfl
    have HB := hid (provB_no hok); clear hok
    go_enter Try.func54, Try.ntmps54
    go_wp2_with fail
    refine (areTaskTimes_c _ _ L S _ h h').mono ?_
    rintro e w1 ⟨rfl, hb1⟩
    rw [t1]
    go_wp2
    go_ret2
    exact ⟨by rw [HB.out]; rfl, hb1⟩

end Go.Proofs.Ytegeelldcomnnaa
