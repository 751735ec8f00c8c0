/- The free floats: both programs' functions. -/
import Derived.Test.YtegeelldcomnnaaCritical
import Derived.Deep.RegionHeld3
namespace Go.Proofs.Ytegeelldcomnnaa
open Go.RowKit
open Go.Lib (hid)

/-- the least of m and what lies between a task's end and the starts of those that need it, from task k on -/
def frL (S : List Int) (i : Nat) (t : Int) : Nat → List Tsk → Int → Int
  | _, [], m => m
  | k, u :: us, m => frL S i t (k + 1) us (if hasB u.needs (i : Int) then min m (S.getD k 0 - S.getD i 0 - t) else m)
theorem frL_nil (S : List Int) (i : Nat) (t : Int) (k : Nat) (m : Int) : frL S i t k [] m = m := rfl
theorem frL_yes {S : List Int} {i : Nat} {t : Int} {k : Nat} {u : Tsk} {us : List Tsk} {m : Int} (h : hasB u.needs (i : Int) = true) : frL S i t k (u :: us) m = frL S i t (k + 1) us (min m (S.getD k 0 - S.getD i 0 - t)) := by rw [frL, h]; rfl
theorem frL_no {S : List Int} {i : Nat} {t : Int} {k : Nat} {u : Tsk} {us : List Tsk} {m : Int} (h : hasB u.needs (i : Int) = false) : frL S i t k (u :: us) m = frL S i t (k + 1) us m := by rw [frL, h]; rfl
def freeAt (L : List Tsk) (i : Nat) : Int := frL (earlyF L) i (L.getD i noTsk).time (i + 1) (L.drop (i + 1)) (endF L (earlyF L) - (earlyF L).getD i 0 - (L.getD i noTsk).time)
def freeF (L : List Tsk) : List Int := (List.range L.length).map (freeAt L)
theorem freeF_len (L : List Tsk) : (freeF L).length = L.length := by simp [freeF]
theorem freeF_take {L : List Tsk} {k : Nat} {x : Int} (hk : k < L.length) (hx : freeAt L k = x) : (freeF L).take (k + 1) = (freeF L).take k ++ [x] := by
  have hl : k < (freeF L).length := by rw [freeF_len]; exact hk
  rw [List.take_succ_eq_append_getElem hl]
  congr 2
  rw [← hx]
  simp [freeF]
theorem freeF_full {L : List Tsk} {k : Nat} (hk : L.length ≤ k) : (freeF L).take k = freeF L := List.take_of_length_le (by rw [freeF_len]; exact hk)
theorem hasB_memF {l : List Int} {n : Int} (h : hasB l n = true) : n ∈ l := by
  unfold hasB at h
  rw [List.any_eq_true] at h
  obtain ⟨x, hx, e⟩ := h
  rw [beq_iff_eq] at e; subst e; exact hx
theorem needs_no {L : List Tsk} (hL : GoodT L) {i k : Nat} (hk : k ≤ i) (hkl : k < L.length) : hasB (L.getD k noTsk).needs (i : Int) = false := by
  rcases Bool.eq_false_or_eq_true (hasB (L.getD k noTsk).needs (i : Int)) with t | t
  · have := (hL.2 k hkl).1 _ (hasB_memF t); omega
  · exact t
theorem frL_skip {L : List Tsk} (hL : GoodT L) {S : List Int} {i : Nat} {t m : Int} (hi : i < L.length) : ∀ k, k ≤ i + 1 → frL S i t 0 L m = frL S i t k (L.drop k) m := by
  intro k
  induction k with
  | zero => intro _; rw [List.drop_zero]
  | succ k ih =>
    intro hk
    rw [ih (by omega), drop_cons L noTsk k (by omega), frL_no (needs_no hL (by omega) (by omega))]
theorem freeAt_all {L : List Tsk} (hL : GoodT L) {i : Nat} (hi : i < L.length) : freeAt L i = frL (earlyF L) i (L.getD i noTsk).time 0 L (endF L (earlyF L) - (earlyF L).getD i 0 - (L.getD i noTsk).time) :=
  (frL_skip hL hi (i + 1) (Nat.le_refl _)).symm

theorem cell_new2 (w : World) (r x : Value) (t : TypeId) : (w.alloc (.cells #[r, x] t)).cell? ⟨w.heap.size, 1, none⟩ = some x := by
  rw [cell_of_row _ _ _ #[r, x] t (0, 0) (heap_alloc_new w _)]; rfl
theorem free_round {w wr : World} {L : List Tsk} {k : Nat} {o : Value} {x : Int} {B C : Nat} (hk : k < L.length) (hL : L.length ≤ 12) (hx : freeAt L k = x) (hF : FInts wr B C o ((freeF L).take k)) (hb : Below B w wr) (hB : B ≤ wr.heap.size) :
    ∃ xs, FInts (wr.alloc (.cells #[.int .i64 x] 3)) B C o xs ∧ RInts (wr.alloc (.cells #[.int .i64 x] 3)) (.slice (some ⟨wr.heap.size, 0, none⟩) 1 1) [x] ∧ xs.length + 1 ≤ 1099511627776 ∧ B ≤ (wr.alloc (.cells #[.int .i64 x] 3)).heap.size ∧
      ∀ w' v', FInts w' B w'.heap.size v' (xs ++ [x]) → (wr.alloc (.cells #[.int .i64 x] 3)).grownBy w' o.ownBlock → FInts w' B w'.heap.size v' ((freeF L).take (k + 1)) ∧ Below B w w' := by
  obtain ⟨p1, p2, p3⟩ := push_pre hF x
  refine ⟨_, p1, p2, by rw [List.length_take, freeF_len]; omega, Nat.le_trans hB p3, fun w' v' hF' hg => ?_⟩
  rw [freeF_take hk hx]
  exact ⟨hF', hb.trans ((push_post hF hg).below (Nat.le_refl _) hB)⟩

def freeB (L : List Tsk) : List Int × Bool := if tasksB L then (freeF L, true) else ([], false)
theorem freeB_yes {L : List Tsk} (h : tasksB L = true) : freeB L = (freeF L, true) := by rw [freeB, h]; rfl
theorem freeB_no {L : List Tsk} (h : tasksB L = false) : freeB L = ([], false) := by rw [freeB, h]; rfl
theorem freeB_len (L : List Tsk) : (freeB L).1.length ≤ 12 := by
  rcases Bool.eq_false_or_eq_true (tasksB L) with h | h
  · rw [freeB_yes h]; have := freeF_len L; have := (tasksB_at h).1; show (freeF L).length ≤ 12; omega
  · rw [freeB_no h]; simp

set_option maxRecDepth 100000 in
set_option maxHeartbeats 4000000 in
theorem iFreeFloats_u (v : Value) (L : List Tsk) (w : World) (h : RTasks w v L) :
    Calls Try.prog 66 #[v] w (RetIntsB w (freeB L)) := by
  rcases Bool.eq_false_or_eq_true (tasksB L) with t | t
  · have HG := hid (good_of_tasksB t)
    have HB := hid (freeB_yes t)
    have HOK := hid (earlyF_ok HG.out)
    have HE := hid (endF_range HG.out)
    have hl12 := HG.out.1
    have HR := hid h
    obtain ⟨a', cap', rfl, q1', q2', hcc⟩ := h
    clear hcc
    unfold maxLen at q2'
    go_enter Try.func66, Try.ntmps66
    go_wp2_with fail
    refine (areTasks_c _ L _ HR.out).mono ?_
    rintro e w1 ⟨rfl, hb1⟩
    rw [t]
    have H1 := hid (HR.out.keep hb1)
    have HB1 := hid hb1
    clear hb1
    go_wp2_with fail
    refine (earliest_c _ L _ H1.out HG.out).mono ?_
    rintro e w2 ⟨u, rfl, hF, hb2⟩
    have H2 := hid (H1.out.keep hb2)
    have hU := hF.r
    have HB2 := hid (HB1.out.trans (hb2.mono HB1.out.size))
    clear hb2 hF
    go_wp2_with fail
    refine (endOf_c _ _ L _ _ H2.out hU HOK.out.1 (startsOk_bound HOK.out.2 (by rw [HOK.out.1]; exact hl12)) (good_times HG.out)).mono ?_
    rintro e w3 ⟨rfl, hb3⟩
    have h3 := H2.out.keep hb3
    have hU3 := hU.keep hb3
    have HB3 := hid (HB2.out.trans (hb3.mono HB2.out.size))
    clear hb3 hU
    obtain ⟨g, o, cap, r, _, _, hv, hc⟩ := rtasks_open h3
    have HC := hid hc
    have HU := hid hU3
    obtain ⟨E, hE⟩ : ∃ E, endF L (earlyF L) = E := ⟨_, rfl⟩
    rw [hE]
    have he := HE.out
    rw [hE] at he
    have HEE := hid hE
    obtain ⟨b, capb, rfl, z1, z2, hcu⟩ := hU3
    unfold maxLen at z2
    have hSl := HOK.out.1
    rw [hSl] at z1
    rw [hSl]
    have HSL := hid hSl
    clear hc hcu hE h3 hSl
    go_wp2
    go_loopg [6, 22] L.length (fun gk u i wr => ∃ k : Nat, k ≤ L.length ∧ gk = L.length - k ∧ i = .int .i64 k ∧ FInts wr w3.heap.size wr.heap.size u ((freeF L).take k) ∧ Below w3.heap.size w3 wr)
    case atStart => exact ⟨0, Nat.zero_le _, rfl, rfl, (ints_empty w3 _ (Nat.le_refl _)).mono (Nat.le_refl _) (by simp), (Below.refl _ _).alloc (Nat.le_refl _) _⟩
    case round =>
      obtain ⟨k, hk, rfl, rfl, hF, hb⟩ := hrel
      obtain ⟨wo, rfl⟩ : ∃ wo : World, wo = wr := ⟨_, rfl⟩
      by_cases hlt : k < L.length
      · obtain ⟨c1, c2, hy⟩ := HC.out k hlt
        have hv := hv (by omega)
        simp only [Value.slice.injEq, true_and] at hv
        obtain ⟨rfl, rfl⟩ := hv
        have ht0 := (HG.out.2 k hlt).2
        have hs0 := HOK.out.2 k (by rw [HOK.out.1]; exact hlt)
        obtain ⟨tm, htm⟩ : ∃ tm, (L.getD k noTsk).time = tm := ⟨_, rfl⟩
        rw [htm] at c2 ht0
        obtain ⟨y, hyy⟩ : ∃ y, (L.getD k noTsk).needs = y := ⟨_, rfl⟩
        rw [hyy] at hy
        obtain ⟨ay, cy, hry, _, _, _⟩ := hy
        rw [hry] at c1
        have e1 := (hb.cell (p := ⟨g, o + k * 2, none⟩) (cell_lt c1)).trans c1
        have e2 := (hb.cell (p := ⟨g, o + k * 2 + 1, none⟩) (cell_lt c2)).trans c2
        obtain ⟨b', capb', hv, _, _, hcu⟩ := HU.out.keep hb
        rw [HSL.out] at hv
        simp only [Value.slice.injEq, true_and] at hv
        obtain ⟨rfl, rfl⟩ := hv
        obtain ⟨gs, os, x, rfl, e3, _, HX⟩ := ints_at hcu (show k < (earlyF L).length by rw [HSL.out]; exact hlt)
        rw [HX.out] at hs0
        have HFA : Hid (freeAt L k = frL (earlyF L) k tm (k + 1) (L.drop (k + 1)) (E - x - tm)) := by show _ = _; rw [freeAt, htm, HEE.out, HX.out]
        obtain ⟨au, nu, cu, rfl⟩ := hF.form3
        have hab : Below wo.heap.size wo (wo.alloc (.cells #[.slice ay y.length cy, .int .i64 tm] 67)) := (Below.refl _ _).alloc (Nat.le_refl _) _
        have HBA := hid (hb.trans (hab.mono hb.size))
        have HF := hid (hF.keep hab)
        have e4 := (hab.cell (p := ⟨gs, os + k, none⟩) (cell_lt e3)).trans e3
        have HSZ : Hid (w3.heap.size ≤ wo.heap.size) := hb.size
        clear hcu c1 c2 htm hyy hry hF hb hab
        have hltz : (k : Int) < (L.length : Int) := by omega
        have f1 : IntKind.i64.wrap (E - x) = E - x := IntWalk.i64_in _ (by omega)
        have f2 : IntKind.i64.wrap (E - x - tm) = E - x - tm := IntWalk.i64_in _ (by omega)
        go_wp2
        go_quiet (fail)
        go_wp2
        clear f1 f2 e1 e2
        go_loopg [9, 10] (L.length - (k + 1)) (fun gk mv iv wr => ∃ q : Nat, ∃ m : Int, k + 1 ≤ q ∧ q ≤ L.length ∧ gk = L.length - q ∧ iv = .int .i64 q ∧ mv = .int .i64 m ∧ freeAt L k = frL (earlyF L) k tm q (L.drop q) m ∧ -100000 ≤ m ∧ m ≤ 100000 ∧ wr.cell? ⟨wo.heap.size, 1, none⟩ = some (.int .i64 tm) ∧ FInts wr w3.heap.size wo.heap.size (.slice au nu cu) ((freeF L).take k) ∧ Below w3.heap.size w3 wr ∧ wo.heap.size ≤ wr.heap.size)
        case atStart => exact ⟨k + 1, E - x - tm, Nat.le_refl _, by omega, rfl, by go_num, rfl, HFA.out, by omega, by omega, cell_new2 wo _ _ _, HF.out, below_dn HBA.out _, by simp⟩
        case round =>
          obtain ⟨q, m, hq0, hq, rfl, rfl, rfl, hr, hm0, hm1, ebox, hF, hb, hsz⟩ := hrel
          have HRR := hid hr
          clear HF HBA e3 e4 hr
          by_cases hltq : q < L.length
          · obtain ⟨c1, _, hy⟩ := HC.out q hltq
            have hs1 := HOK.out.2 q (by rw [HOK.out.1]; exact hltq)
            obtain ⟨yq, hyy⟩ : ∃ yq, (L.getD q noTsk).needs = yq := ⟨_, rfl⟩
            rw [hyy] at hy
            have hy' := hy.keep hb
            obtain ⟨ayq, cyq, hry, _, _, _⟩ := hy
            rw [hry] at c1 hy'
            have e1 := (hb.cell (p := ⟨g, o + q * 2, none⟩) (cell_lt c1)).trans c1
            obtain ⟨b', capb', hv, _, _, hcu⟩ := HU.out.keep hb
            rw [HSL.out] at hv
            simp only [Value.slice.injEq, true_and] at hv
            obtain ⟨hv, rfl⟩ := hv
            obtain ⟨gs', os', z, he1, e3, _, HZ⟩ := ints_at hcu (show q < (earlyF L).length by rw [HSL.out]; exact hltq)
            obtain ⟨gs2, os2, x', he2, e4, _, HX'⟩ := ints_at hcu (show k < (earlyF L).length by rw [HSL.out]; exact hlt)
            rw [← hv] at he1 he2
            simp only [Option.some.injEq, Addr.mk.injEq, and_true] at he1 he2
            obtain ⟨rfl, rfl⟩ := he1
            obtain ⟨rfl, rfl⟩ := he2
            have hxx : x = x' := HX.out.symm.trans HX'.out
            subst hxx
            rw [HZ.out] at hs1
            have HYY := hid hyy
            have HF := hid hF
            have HB2 := hid hb
            have HBOX := hid ebox
            have HSZ2 := hid hsz
            clear hF hb hcu c1 hyy hry hv hsz
            have hltz : (q : Int) < (L.length : Int) := by omega
            have hltz2 : (k : Int) < (L.length : Int) := by omega
            have f1 : IntKind.i64.wrap (z - x) = z - x := IntWalk.i64_in _ (by omega)
            have f2 : IntKind.i64.wrap (z - x - tm) = z - x - tm := IntWalk.i64_in _ (by omega)
            rcases Bool.eq_false_or_eq_true (hasB yq (k : Int)) with t1 | t1
            · have HST : Hid (frL (earlyF L) k tm q (L.drop q) m = frL (earlyF L) k tm (q + 1) (L.drop (q + 1)) (min m (z - x - tm))) := by
                show _ = _
                rw [drop_cons L noTsk q hltq, frL_yes (by rw [HYY.out]; exact t1), HZ.out, HX.out]
              go_wp2_with fail
              refine (contains_c _ yq _ _ hy').mono ?_
              rintro e w' ⟨rfl, rfl⟩
              rw [t1]
              clear hy'
              go_wp2
              go_quiet (fail)
              go_wp2
              all_goals
                go_roundg (L.length - (q + 1))
                case rel => exact ⟨q + 1, _, by omega, by omega, rfl, by go_num, rfl, by rw [HRR.out, HST.out]; congr 1; omega, by omega, by omega, HBOX.out, HF.out, below_dn HB2.out _, HSZ2.out⟩
                case measure => omega
            · have HST : Hid (frL (earlyF L) k tm q (L.drop q) m = frL (earlyF L) k tm (q + 1) (L.drop (q + 1)) m) := by
                show _ = _
                rw [drop_cons L noTsk q hltq, frL_no (by rw [HYY.out]; exact t1)]
              go_wp2_with fail
              refine (contains_c _ yq _ _ hy').mono ?_
              rintro e w' ⟨rfl, rfl⟩
              rw [t1]
              clear hy'
              go_wp2
              go_roundg (L.length - (q + 1))
              case rel => exact ⟨q + 1, m, by omega, by omega, rfl, by go_num, rfl, by rw [HRR.out, HST.out], by omega, by omega, HBOX.out, HF.out, HB2.out, HSZ2.out⟩
              case measure => omega
          · have hG2 : freeAt L k = m := by rw [HRR.out, List.drop_eq_nil_of_le (by omega), frL_nil]
            obtain ⟨xs, p1, p2, p3, p4, p5⟩ := free_round hlt hl12 hG2 hF hb hb.size
            have HP5 := hid p5
            clear hG2 hF hb p5 ebox
            go_wp2_with (at_builtin; refine wpList_append_ints rfl _ _ rfl _ _ _ _ _ [m] rfl rfl p1 p2 p3 p4 ?_; intro v' w' hF' hg hn)
            go_roundg (L.length - (k + 1))
            case rel => exact ⟨k + 1, by omega, rfl, by go_num, (HP5.out _ _ hF' hg).1, (HP5.out _ _ hF' hg).2⟩
            case measure => omega
      · rw [freeF_full (by omega)] at hF
        have HF := hid (hF.mono HB3.out.size (Nat.le_refl _))
        have HBE := hid (HB3.out.trans (hb.mono HB3.out.size))
        clear hF hb
        go_wp2
        go_ret2
        exact ⟨_, by rw [HB.out]; rfl, by rw [HB.out]; exact HF.out, HBE.out⟩
  · have HB := hid (freeB_no t)
    go_enter Try.func66, Try.ntmps66
    go_wp2_with fail
    refine (areTasks_c _ L _ h).mono ?_
    rintro e w1 ⟨rfl, hb1⟩
    rw [t]
    go_wp2
    go_ret2
    exact retIntsB_no hb1 HB.out _ rfl

set_option maxRecDepth 100000 in
set_option maxHeartbeats 4000000 in
theorem sFreeFloats_u (v : Value) (L : List Tsk) (w : World) (h : RTasks w v L) :
    Calls Try.prog 67 #[v] w (RetIntsB w (freeB L)) := by
  rcases Bool.eq_false_or_eq_true (tasksB L) with t | t
  · have HG := hid (good_of_tasksB t)
    have HB := hid (freeB_yes t)
    have HOK := hid (earlyF_ok HG.out)
    have HE := hid (endF_range HG.out)
    have hl12 := HG.out.1
    have HR := hid h
    obtain ⟨a', cap', rfl, q1', q2', hcc⟩ := h
    clear hcc
    unfold maxLen at q2'
    go_enter Try.func67, Try.ntmps67
    go_wp2_with fail
    refine (pjGood_c _ L _ HR.out).mono ?_
    rintro e w1 ⟨rfl, hb1⟩
    rw [t]
    have H1 := hid (HR.out.keep hb1)
    have HB1 := hid hb1
    clear hb1
    go_wp2_with fail
    refine (pjEarly_c _ L _ H1.out HG.out).mono ?_
    rintro e w2 ⟨u, rfl, hF, hb2⟩
    have H2 := hid (H1.out.keep hb2)
    have hU3 := hF.r
    have h3 := H2.out
    have HB3 := hid (HB1.out.trans (hb2.mono HB1.out.size))
    clear hb2 hF
    obtain ⟨g, o, cap, r, _, _, hv, hc⟩ := rtasks_open h3
    have HC := hid hc
    have HU := hid hU3
    obtain ⟨E, hE⟩ : ∃ E, endF L (earlyF L) = E := ⟨_, rfl⟩
    have he := HE.out
    rw [hE] at he
    have HEE := hid hE
    obtain ⟨b, capb, rfl, z1, z2, hcu⟩ := hU3
    unfold maxLen at z2
    have hSl := HOK.out.1
    rw [hSl] at z1
    rw [hSl] at HU
    rw [hSl]
    have HSL := hid hSl
    clear hc hcu hE h3 hSl
    go_wp2
    go_loopg [5, 17] L.length (fun gk u i wr => ∃ k : Nat, k ≤ L.length ∧ gk = L.length - k ∧ i = .int .i64 k ∧ FInts wr w2.heap.size wr.heap.size u ((freeF L).take k) ∧ Below w2.heap.size w2 wr)
    case atStart => exact ⟨0, Nat.zero_le _, rfl, rfl, ints_nil _ _ _, Below.refl _ _⟩
    case round =>
      obtain ⟨k, hk, rfl, rfl, hF, hb⟩ := hrel
      obtain ⟨wo, rfl⟩ : ∃ wo : World, wo = wr := ⟨_, rfl⟩
      by_cases hlt : k < L.length
      · obtain ⟨c1, c2, hy⟩ := HC.out k hlt
        have hv := hv (by omega)
        simp only [Value.slice.injEq, true_and] at hv
        obtain ⟨rfl, rfl⟩ := hv
        have ht0 := (HG.out.2 k hlt).2
        have hs0 := HOK.out.2 k (by rw [HOK.out.1]; exact hlt)
        obtain ⟨tm, htm⟩ : ∃ tm, (L.getD k noTsk).time = tm := ⟨_, rfl⟩
        rw [htm] at c2 ht0
        obtain ⟨y, hyy⟩ : ∃ y, (L.getD k noTsk).needs = y := ⟨_, rfl⟩
        rw [hyy] at hy
        obtain ⟨ay, cy, hry, _, _, _⟩ := hy
        rw [hry] at c1
        have e1 := (hb.cell (p := ⟨g, o + k * 2, none⟩) (cell_lt c1)).trans c1
        have e2 := (hb.cell (p := ⟨g, o + k * 2 + 1, none⟩) (cell_lt c2)).trans c2
        obtain ⟨b', capb', hv, _, _, hcu⟩ := HU.out.keep hb
        rw [HSL.out] at hv
        simp only [Value.slice.injEq, true_and] at hv
        obtain ⟨rfl, rfl⟩ := hv
        obtain ⟨gs, os, x, rfl, e3, _, HX⟩ := ints_at hcu (show k < (earlyF L).length by rw [HSL.out]; exact hlt)
        rw [HX.out] at hs0
        have HFA : Hid (freeAt L k = frL (earlyF L) k tm 0 (L.drop 0) (E - x - tm)) := by show _ = _; rw [freeAt_all HG.out hlt, htm, HEE.out, HX.out, List.drop_zero]
        obtain ⟨au, nu, cu, rfl⟩ := hF.form3
        have hab : Below wo.heap.size wo (wo.alloc (.cells #[.slice ay y.length cy, .int .i64 tm] 67)) := (Below.refl _ _).alloc (Nat.le_refl _) _
        have HBA := hid (hb.trans (hab.drew.mono hb.size))
        have HF := hid (hF.keep hab.drew)
        have HTA := hid (show RTasks (wo.alloc (.cells #[.slice ay y.length cy, .int .i64 tm] 67)).drew _ L from (H2.out.keep hb).keep hab.drew)
        have HUA := hid (show RInts (wo.alloc (.cells #[.slice ay y.length cy, .int .i64 tm] 67)).drew _ _ from (HU.out.keep hb).keep hab.drew)
        have e5 := cell_new2 wo (.slice ay y.length cy) (.int .i64 tm) 67
        have e4 := (hab.cell (p := ⟨gs, os + k, none⟩) (cell_lt e3)).trans e3
        have HSZ : Hid (w2.heap.size ≤ wo.heap.size) := hb.size
        clear hcu c1 c2 htm hyy hry hF hb hab
        have hltz : (k : Int) < (L.length : Int) := by omega
        have f1 : IntKind.i64.wrap (E - x) = E - x := IntWalk.i64_in _ (by omega)
        have f2 : IntKind.i64.wrap (E - x - tm) = E - x - tm := IntWalk.i64_in _ (by omega)
        go_wp2
        go_region_held3 (fun w' => w'.cell? ⟨gs, os + k, none⟩ = some (.int .i64 x) ∧ w'.cell? ⟨wo.heap.size, 1, none⟩ = some (.int .i64 tm))
          (first | go_keep | exact ⟨(hb5.cell (p := ⟨gs, os + k, none⟩) (cell_lt e4)).trans e4, (hb5.cell (p := ⟨wo.heap.size, 1, none⟩) (cell_lt e5)).trans e5⟩)
          ((go_at_call 123; refine (pjEnd_c _ _ L _ _ HTA.out HUA.out HOK.out.1 (startsOk_bound HOK.out.2 (by rw [HOK.out.1]; exact hl12)) (good_times HG.out)).mono ?_; rintro e w5 ⟨rfl, hb5⟩; rw [HEE.out]))
        go_wp2
        clear f1 f2 e1 e2
        go_loopg [8, 35] L.length (fun gk mv iv wr => ∃ q : Nat, ∃ m : Int, q ≤ L.length ∧ gk = L.length - q ∧ iv = .int .i64 q ∧ mv = .int .i64 m ∧ freeAt L k = frL (earlyF L) k tm q (L.drop q) m ∧ -100000 ≤ m ∧ m ≤ 100000 ∧ wr.cell? ⟨wo.heap.size, 1, none⟩ = some (.int .i64 tm) ∧ FInts wr w2.heap.size wo.heap.size (.slice au nu cu) ((freeF L).take k) ∧ Below w2.heap.size w2 wr ∧ wo.heap.size ≤ wr.heap.size)
        case atStart => exact ⟨0, E - x - tm, Nat.zero_le _, rfl, rfl, rfl, HFA.out, by omega, by omega, (hb5.cell (p := ⟨wo.heap.size, 1, none⟩) (cell_lt e5)).trans e5, HF.out.keep hb5, HBA.out.trans (hb5.mono HBA.out.size), by have := hb5.size; simp at this; omega⟩
        case round =>
          obtain ⟨q, m, hq, rfl, rfl, rfl, hr, hm0, hm1, ebox, hF, hb, hsz⟩ := hrel
          have HRR := hid hr
          clear HF HBA e3 e4 e5 hb5 hr
          by_cases hltq : q < L.length
          · obtain ⟨c1, _, hy⟩ := HC.out q hltq
            have hs1 := HOK.out.2 q (by rw [HOK.out.1]; exact hltq)
            obtain ⟨yq, hyy⟩ : ∃ yq, (L.getD q noTsk).needs = yq := ⟨_, rfl⟩
            rw [hyy] at hy
            have hy' := hy.keep hb
            obtain ⟨ayq, cyq, hry, _, _, _⟩ := hy
            rw [hry] at c1 hy'
            have e1 := (hb.cell (p := ⟨g, o + q * 2, none⟩) (cell_lt c1)).trans c1
            obtain ⟨b', capb', hv, _, _, hcu⟩ := HU.out.keep hb
            rw [HSL.out] at hv
            simp only [Value.slice.injEq, true_and] at hv
            obtain ⟨hv, rfl⟩ := hv
            obtain ⟨gs', os', z, he1, e3, _, HZ⟩ := ints_at hcu (show q < (earlyF L).length by rw [HSL.out]; exact hltq)
            obtain ⟨gs2, os2, x', he2, e4, _, HX'⟩ := ints_at hcu (show k < (earlyF L).length by rw [HSL.out]; exact hlt)
            rw [← hv] at he1 he2
            simp only [Option.some.injEq, Addr.mk.injEq, and_true] at he1 he2
            obtain ⟨rfl, rfl⟩ := he1
            obtain ⟨rfl, rfl⟩ := he2
            have hxx : x = x' := HX.out.symm.trans HX'.out
            subst hxx
            rw [HZ.out] at hs1
            have HYY := hid hyy
            have HF := hid hF
            have HB2 := hid hb
            have HBOX := hid ebox
            have HSZ2 := hid hsz
            clear hF hb hcu c1 hyy hry hv hsz
            have hltz : (q : Int) < (L.length : Int) := by omega
            have hltz2 : (k : Int) < (L.length : Int) := by omega
            have f1 : IntKind.i64.wrap (z - x) = z - x := IntWalk.i64_in _ (by omega)
            have f2 : IntKind.i64.wrap (z - x - tm) = z - x - tm := IntWalk.i64_in _ (by omega)
            rcases Bool.eq_false_or_eq_true (hasB yq (k : Int)) with t1 | t1
            · have HST : Hid (frL (earlyF L) k tm q (L.drop q) m = frL (earlyF L) k tm (q + 1) (L.drop (q + 1)) (min m (z - x - tm))) := by
                show _ = _
                rw [drop_cons L noTsk q hltq, frL_yes (by rw [HYY.out]; exact t1), HZ.out, HX.out]
              go_wp2_with fail
              refine (l1Has_c _ yq _ _ hy').mono ?_
              rintro e w' ⟨rfl, rfl⟩
              rw [t1]
              clear hy'
              go_wp2
              go_quiet ((go_at_call 86; exact Calls.quiet_of_same (l1Least_s _ _ _)))
              go_wp2
              all_goals
                go_roundg (L.length - (q + 1))
                case rel => exact ⟨q + 1, _, by omega, rfl, by go_num, rfl, by rw [HRR.out, HST.out], by omega, by omega, HBOX.out, HF.out, below_dn HB2.out _, HSZ2.out⟩
                case measure => omega
            · have HST : Hid (frL (earlyF L) k tm q (L.drop q) m = frL (earlyF L) k tm (q + 1) (L.drop (q + 1)) m) := by
                show _ = _
                rw [drop_cons L noTsk q hltq, frL_no (by rw [HYY.out]; exact t1)]
              go_wp2_with fail
              refine (l1Has_c _ yq _ _ hy').mono ?_
              rintro e w' ⟨rfl, rfl⟩
              rw [t1]
              clear hy'
              go_wp2
              go_roundg (L.length - (q + 1))
              case rel => exact ⟨q + 1, m, by omega, rfl, by go_num, rfl, by rw [HRR.out, HST.out], by omega, by omega, HBOX.out, HF.out, HB2.out, HSZ2.out⟩
              case measure => omega
          · have hG2 : freeAt L k = m := by rw [HRR.out, List.drop_eq_nil_of_le (by omega), frL_nil]
            obtain ⟨xs, p1, p2, p3, p4, p5⟩ := free_round hlt hl12 hG2 hF hb hb.size
            have HP5 := hid p5
            clear hG2 hF hb p5 ebox
            go_wp2_with (at_builtin; refine wpList_append_ints rfl _ _ rfl _ _ _ _ _ [m] rfl rfl p1 p2 p3 p4 ?_; intro v' w' hF' hg hn)
            go_roundg (L.length - (k + 1))
            case rel => exact ⟨k + 1, by omega, rfl, by go_num, (HP5.out _ _ hF' hg).1, (HP5.out _ _ hF' hg).2⟩
            case measure => omega
      · rw [freeF_full (by omega)] at hF
        have HF := hid (hF.mono HB3.out.size (Nat.le_refl _))
        have HBE := hid (HB3.out.trans (hb.mono HB3.out.size))
        clear hF hb
        go_wp2
        go_ret2
        exact ⟨_, by rw [HB.out]; rfl, by rw [HB.out]; exact HF.out, HBE.out⟩
  · have HB := hid (freeB_no t)
    go_enter Try.func67, Try.ntmps67
    go_wp2_with fail
    refine (pjGood_c _ L _ h).mono ?_
    rintro e w1 ⟨rfl, hb1⟩
    rw [t]
    go_wp2
    go_ret2
    exact retIntsB_no hb1 HB.out _ rfl

end Go.Proofs.Ytegeelldcomnnaa
