/- Whether a chain proves the end of starts: the reference's function. -/
import Derived.Test.YtegeelldcomnnaaProved
namespace Go.Proofs.Ytegeelldcomnnaa
open Go.RowKit
open Go.Lib (hid)

theorem provOk_of {L : List Tsk} {S C : List Int} {r : Bool} (t1 : timesB L S = true) (t2 : startsB L S = true) (h0 : 0 < C.length) (hr : chR L none C = r) : provOk L S C = r := by
  rw [provOk, t1, t2, chainB, hr, decide_eq_true h0]; simp

set_option maxRecDepth 100000 in
set_option maxHeartbeats 4000000 in
theorem sIsProvedEnd_u (v : Value) (L : List Tsk) (u : Value) (S : List Int) (t : Value) (C : List Int) (w : World) (h : RTasks w v L) (h' : RInts w u S) (h'' : RInts w t C) :
    Calls Try.prog 62 #[v, u, t] w fun e w' => e = .returned (.tuple #[.bool (provB L S C).1, .bool (provB L S C).2]) ∧ Below w.heap.size w w' := by
  rcases Bool.eq_false_or_eq_true (timesB L S) with t1 | t1
  · have HT := hid (timesB_yes t1)
    have HG := hid (good_of_tasksB HT.out.1)
    rcases Bool.eq_false_or_eq_true (startsB L S) with t2 | t2
    · have hl12 := HG.out.1
      have f0 : IntKind.i64.wrap ((L.length : Int) - 1) = (L.length : Int) - 1 := IntWalk.i64_in _ (by omega)
      obtain ⟨a', cap', hvv, hl1, hl2, _⟩ := id h
      obtain ⟨b, capb, hvt, hb1, hb2, _⟩ := id h''
      have HV := hid hvv; have HVT := hid hvt
      unfold maxLen at hl2 hb2
      by_cases hc0 : 0 < C.length
      · have hc0' : ((C.length : Int) == 0) = false := beq_eq_false_iff_ne.2 (by omega)
        rcases Bool.eq_false_or_eq_true (allB C 0 ((L.length : Int) - 1)) with t3 | t3
        · subst hvv hvt
          clear HV HVT
          go_enter Try.func62, Try.ntmps62
          go_wp2_with fail
          refine (pjTimes_c _ _ L S _ h h').mono ?_
          rintro e w1 ⟨rfl, hb1'⟩
          rw [t1]
          have h1 := h.keep hb1'
          have h1' := h'.keep hb1'
          have h1'' := h''.keep hb1'
          have HB1 := hid hb1'; clear hb1' h h' h''
          go_wp2_with fail
          refine (pjStarts_c _ _ L S _ h1 h1' HG.out HT.out.2.1 HT.out.2.2).mono ?_
          rintro e w2 ⟨rfl, hb2'⟩
          rw [t2]
          have h2 := h1.keep hb2'
          have h2' := h1'.keep hb2'
          have h2'' := h1''.keep hb2'
          have HB2 := hid (HB1.out.trans (hb2'.mono HB1.out.size)); clear hb2' h1 h1' h1''
          go_wp2_with (go_at_call 100; refine (l1All_c _ C _ _ _ h2'').mono ?_; rintro e w' ⟨rfl, rfl⟩)
          have h3' := hid h2'
          have HR := hid h2
          obtain ⟨g, o, cap, r, _, _, hv, hc⟩ := rtasks_open h2
          obtain ⟨b2, capb2, hvt, _, _, hc'⟩ := h2''
          simp only [Value.slice.injEq, true_and] at hvt
          obtain ⟨rfl, rfl⟩ := hvt
          have HC := hid hc; clear hc
          have HC' := hid hc'; clear hc' h2 h2'
          have HALL := hid (fun i (hi : i < C.length) => allB_at (i := i) t3 hi)
          go_loopg [8, 36] C.length (fun gk sv i wr => ∃ k : Nat, ∃ s : Int, k ≤ C.length ∧ gk = C.length - k ∧ i = .int .i64 k ∧ sv = .int .i64 s ∧ chR L none C = chR L (prevOf C k) (C.drop k) ∧ sumC L C 0 = sumC L (C.drop k) s ∧ Pre L C k ∧ 0 ≤ s ∧ s ≤ 2000 * (k : Int) ∧ Below w2.heap.size w2 wr)
          case atStart => exact ⟨0, 0, Nat.zero_le _, rfl, rfl, rfl, rfl, rfl, pre_zero _ _, by omega, by omega, Below.refl _ _⟩
          case round =>
            obtain ⟨k, s, hk, rfl, rfl, rfl, hch, hsum, hpre, hs0, hs1, hb⟩ := hrel
            have HCH := hid hch; clear hch
            have HS := hid hsum; clear hsum
            have HPR := hid hpre; clear hpre
            have HBB := hid hb
            by_cases hlt : k < C.length
            · obtain ⟨gb, ob, x, rfl, e1, HD, HX⟩ := ints_at HC'.out hlt
              have e1 := (hb.cell (p := ⟨gb, ob + k, none⟩) (cell_lt e1)).trans e1
              have hx := HALL.out k hlt
              rw [HX.out] at hx
              have tx := inB_iff.2 hx
              obtain ⟨n, rfl⟩ : ∃ n : Nat, x = (n : Int) := ⟨x.toNat, by omega⟩
              have hv := hv (by omega)
              simp only [Value.slice.injEq, true_and] at hv
              obtain ⟨rfl, rfl⟩ := hv
              obtain ⟨c1, c2, hy⟩ := HC.out n (by omega)
              have ht0 := (HG.out.2 n (by omega)).2
              obtain ⟨tn, htn⟩ : ∃ tn, (L.getD n noTsk).time = tn := ⟨_, rfl⟩
              rw [htn] at c2 ht0
              have HTN := hid htn
              have e2 := (hb.cell (p := ⟨g, o + n * 2, none⟩) (cell_lt c1)).trans c1
              have e3 := (hb.cell (p := ⟨g, o + n * 2 + 1, none⟩) (cell_lt c2)).trans c2
              have hy' := hy.keep hb
              have HN : Hid ((L.getD n noTsk).needs = needsAt L (n : Int)) := by show _ = _; rw [needsAt, Int.toNat_natCast]
              rw [HN.out] at hy'
              obtain ⟨ny, hny⟩ : ∃ ny, needsAt L (n : Int) = ny := ⟨_, rfl⟩
              rw [hny] at hy'
              have HNY := hid hny
              have hnz : (n : Int) < (L.length : Int) := by omega
              have hkz : (k : Int) < (C.length : Int) := by omega
              have HSTEP : Hid (linkB L (prevOf C k) (n : Int) = true → Pre L C (k + 1) ∧ k < 12) := fun hh => pre_step HG.out HPR.out hx.1 (by omega) hh HX.out
              by_cases hk0 : 0 < k
              · obtain ⟨j, rfl⟩ : ∃ j, k = j + 1 := ⟨k - 1, by omega⟩
                obtain ⟨gb', ob', y, he, e4, _, HY⟩ := ints_at HC'.out (show j < C.length by omega)
                simp only [Option.some.injEq, Addr.mk.injEq, and_true] at he
                obtain ⟨rfl, rfl⟩ := he
                have e4 := (hb.cell (p := ⟨gb, ob + j, none⟩) (cell_lt e4)).trans e4
                have HP := hid (prevOf_succ C j)
                clear hb c1 c2 hy hny htn hx
                have hjz : (j : Int) < (C.length : Int) := by omega
                have hjz1 : ((j + 1 : Nat) : Int) < (C.length : Int) := by omega
                have f2 : IntKind.i64.wrap (((j + 1 : Nat) : Int) - 1) = (j : Int) := by rw [IntWalk.i64_in _ (by omega)]; omega
                rcases Bool.eq_false_or_eq_true (hasB ny y) with t4 | t4
                · have HLK : Hid (linkB L (prevOf C (j + 1)) (n : Int) = true) := by show _ = _; rw [HP.out, HY.out, linkB_some, HNY.out]; exact t4
                  have hst := HSTEP.out HLK.out
                  have HP2 := hid hst.1
                  have hk12 := hst.2
                  clear hst
                  have f1 : IntKind.i64.wrap (s + tn) = s + tn := IntWalk.i64_in _ (by omega)
                  go_wp2
                  go_quiet ((go_at_call 115; exact Calls.quiet_of_same ((l1Has_c _ ny _ _ hy'.drewN).mono fun _ _ h => ⟨h.1, h.2.symm⟩)))
                  go_wp2
                  go_roundg (C.length - (j + 1 + 1))
                  case rel => exact ⟨j + 1 + 1, s + tn, by omega, rfl, by go_num, rfl, by rw [HCH.out, HD.out, chR_cons, tx, HLK.out, prevOf_succ C (j + 1), HX.out]; rfl, by rw [HS.out, HD.out, sumC_cons, Int.toNat_natCast, HTN.out], HP2.out, by omega, by omega, below_dn HBB.out _⟩
                  case measure => omega
                · have HNO : Hid (chR L none C = false) := by show _ = _; rw [HCH.out, HD.out, chR_cons, HP.out, HY.out, linkB_some, HNY.out, t4]; simp
                  have HB := hid (provB_no (provOk_of t1 t2 hc0 HNO.out))
                  go_wp2
                  go_quiet ((go_at_call 115; exact Calls.quiet_of_same ((l1Has_c _ ny _ _ hy'.drewN).mono fun _ _ h => ⟨h.1, h.2.symm⟩)))
                  go_wp2
                  go_ret2
                  exact ⟨by rw [HB.out]; rfl, below_dn (HB2.out.trans (HBB.out.mono HB2.out.size)) _⟩
              · obtain rfl : k = 0 := by omega
                rw [Nat.add_zero] at e1
                have HLK : Hid (linkB L (prevOf C 0) (n : Int) = true) := by show _ = _; rw [prevOf_none C 0 hk0, linkB_none]
                have HP2 := hid (HSTEP.out HLK.out).1
                clear hb c1 c2 hy hny htn hx
                have f1 : IntKind.i64.wrap (s + tn) = s + tn := IntWalk.i64_in _ (by omega)
                go_wp2
                go_quiet (fail)
                go_wp2
                go_roundg (C.length - (0 + 1))
                case rel => exact ⟨0 + 1, s + tn, by omega, rfl, by go_num, rfl, by rw [HCH.out, HD.out, chR_cons, tx, HLK.out, prevOf_succ C 0, HX.out]; rfl, by rw [HS.out, HD.out, sumC_cons, Int.toNat_natCast, HTN.out], HP2.out, by omega, by omega, below_dn HBB.out _⟩
                case measure => omega
            · have HGG : Hid (sumC L C 0 = s) := by show _ = _; rw [HS.out, List.drop_eq_nil_of_le (by omega), sumC_nil]
              have HYES : Hid (chR L none C = true) := by show _ = _; rw [HCH.out, List.drop_eq_nil_of_le (by omega), chR_nil]
              have HB := hid (provB_yes (provOk_of t1 t2 hc0 HYES.out))
              have h4 := HR.out.keep hb
              have h4' := h3'.out.keep hb
              have HB4 := hid (HB2.out.trans (hb.mono HB2.out.size))
              clear hb
              have HAS := hid (fun i (hi : i < S.length) => allB_at (i := i) HT.out.2.2 hi)
              go_wp2_with fail
              refine (pjEnd_c _ _ L S _ h4 h4' HT.out.2.1 (fun j hj => by have := HAS.out j hj; omega) (good_times HG.out)).mono ?_
              rintro e w5 ⟨rfl, hb5⟩
              have HB5 := hid (HB4.out.trans (hb5.mono HB4.out.size)); clear hb5 h4 h4'
              go_wp2
              go_ret2
              exact ⟨by rw [HB.out, HGG.out]; rfl, HB5.out⟩
        · have HNO : Hid (chR L none C = false) := by
            show _ = _
            rcases Bool.eq_false_or_eq_true (chR L none C) with hh | hh
            · have := chR_all hh; rw [t3] at this; cases this
            · exact hh
          have HB := hid (provB_no (provOk_of t1 t2 hc0 HNO.out))
          subst hvv hvt
          clear HV HVT
          go_enter Try.func62, Try.ntmps62
          go_wp2_with fail
          refine (pjTimes_c _ _ L S _ h h').mono ?_
          rintro e w1 ⟨rfl, hb1'⟩
          rw [t1]
          have h1 := h.keep hb1'
          have h1' := h'.keep hb1'
          have h1'' := h''.keep hb1'
          have HB1 := hid hb1'; clear hb1' h h' h''
          go_wp2_with fail
          refine (pjStarts_c _ _ L S _ h1 h1' HG.out HT.out.2.1 HT.out.2.2).mono ?_
          rintro e w2 ⟨rfl, hb2'⟩
          rw [t2]
          have h2'' := h1''.keep hb2'
          have HB2 := hid (HB1.out.trans (hb2'.mono HB1.out.size)); clear hb2' h1 h1' h1''
          go_wp2_with (go_at_call 100; refine (l1All_c _ C _ _ _ h2'').mono ?_; rintro e w' ⟨rfl, rfl⟩)
          go_ret2
          exact ⟨by rw [HB.out]; rfl, HB2.out⟩
      · have hc0' : ((C.length : Int) == 0) = true := beq_iff_eq.2 (by omega)
        have HB : Hid (provB L S C = (false, false)) := provB_no (by rw [provOk, chainB, decide_eq_false hc0]; simp)
        subst hvv hvt
        clear HV HVT
        go_enter Try.func62, Try.ntmps62
        go_wp2_with fail
        refine (pjTimes_c _ _ L S _ h h').mono ?_
        rintro e w1 ⟨rfl, hb1'⟩
        rw [t1]
        have h1 := h.keep hb1'
        have h1' := h'.keep hb1'
        have HB1 := hid hb1'; clear hb1' h h' h''
        go_wp2_with fail
        refine (pjStarts_c _ _ L S _ h1 h1' HG.out HT.out.2.1 HT.out.2.2).mono ?_
        rintro e w2 ⟨rfl, hb2'⟩
        rw [t2]
        have HB2 := hid (HB1.out.trans (hb2'.mono HB1.out.size)); clear hb2' h1 h1'
        go_wp2
        go_ret2
        exact ⟨by rw [HB.out]; rfl, HB2.out⟩
    · have HB := hid (provB_no (show provOk L S C = false by rw [provOk, t1, t2]; rfl))
      go_enter Try.func62, Try.ntmps62
      go_wp2_with fail
      refine (pjTimes_c _ _ L S _ h h').mono ?_
      rintro e w1 ⟨rfl, hb1⟩
      rw [t1]
      have h1 := h.keep hb1
      have h1' := h'.keep hb1
      have HB1 := hid hb1; clear hb1 h h' h''
      go_wp2_with fail
      refine (pjStarts_c _ _ L S _ h1 h1' HG.out HT.out.2.1 HT.out.2.2).mono ?_
      rintro e w2 ⟨rfl, hb2⟩
      rw [t2]
      have HB2 := hid (HB1.out.trans (hb2.mono HB1.out.size)); clear hb2 h1 h1'
      go_wp2
      go_ret2
      exact ⟨by rw [HB.out]; rfl, HB2.out⟩
  · have HB := hid (provB_no (show provOk L S C = false by rw [provOk, t1]; rfl))
    go_enter Try.func62, Try.ntmps62
    go_wp2_with fail
    refine (pjTimes_c _ _ L S _ h h').mono ?_
    rintro e w1 ⟨rfl, hb1⟩
    rw [t1]
    go_wp2
    go_ret2
    exact ⟨by rw [HB.out]; rfl, hb1⟩

end Go.Proofs.Ytegeelldcomnnaa
