/- The critical chain: both programs' functions. -/
import Derived.Test.YtegeelldcomnnaaCritical
import Derived.Test.YtegeelldcomnnaaOwn
namespace Go.Proofs.Ytegeelldcomnnaa
open Go.RowKit
open Go.Lib (hid)

/-- the first chain from a later task, from task k on -/
def critL (S : List Int) (i : Nat) (x : Int) (f : Nat → Option (List Int)) : Nat → List Tsk → Option (List Int)
  | _, [] => none
  | k, u :: us => if hasB u.needs (i : Int) && (S.getD k 0 == x) then (match f k with | some r => some r | none => critL S i x f (k + 1) us) else critL S i x f (k + 1) us
theorem critL_nil (S : List Int) (i : Nat) (x : Int) (f : Nat → Option (List Int)) (k : Nat) : critL S i x f k [] = none := rfl
theorem critL_no1 {S : List Int} {i : Nat} {x : Int} {f : Nat → Option (List Int)} {k : Nat} {u : Tsk} {us : List Tsk} (h : hasB u.needs (i : Int) = false) : critL S i x f k (u :: us) = critL S i x f (k + 1) us := by rw [critL, h]; rfl
theorem critL_no2 {S : List Int} {i : Nat} {x : Int} {f : Nat → Option (List Int)} {k : Nat} {u : Tsk} {us : List Tsk} (h : (S.getD k 0 == x) = false) : critL S i x f k (u :: us) = critL S i x f (k + 1) us := by rw [critL, h, Bool.and_false]; rfl
theorem critL_none {S : List Int} {i : Nat} {x : Int} {f : Nat → Option (List Int)} {k : Nat} {u : Tsk} {us : List Tsk} (h : f k = none) : critL S i x f k (u :: us) = critL S i x f (k + 1) us := by
  rw [critL, h]; split <;> rfl
theorem critL_some {S : List Int} {i : Nat} {x : Int} {f : Nat → Option (List Int)} {k : Nat} {u : Tsk} {us : List Tsk} {r : List Int} (h1 : hasB u.needs (i : Int) = true) (h2 : (S.getD k 0 == x) = true) (h : f k = some r) : critL S i x f k (u :: us) = some r := by
  rw [critL, h1, h2, h]; rfl
/-- the first critical chain from task i, at most d tasks long -/
def critF (L : List Tsk) (S : List Int) (e : Int) : Nat → Nat → Option (List Int)
  | 0, _ => none
  | d + 1, i => if S.getD i 0 + (L.getD i noTsk).time == e then some [(i : Int)] else (critL S i (S.getD i 0 + (L.getD i noTsk).time) (critF L S e d) (i + 1) (L.drop (i + 1))).map ((i : Int) :: ·)
theorem critF_end {L : List Tsk} {S : List Int} {e : Int} {d i : Nat} (h : (S.getD i 0 + (L.getD i noTsk).time == e) = true) : critF L S e (d + 1) i = some [(i : Int)] := by rw [critF, h]; rfl
theorem critF_go {L : List Tsk} {S : List Int} {e : Int} {d i : Nat} (h : (S.getD i 0 + (L.getD i noTsk).time == e) = false) : critF L S e (d + 1) i = (critL S i (S.getD i 0 + (L.getD i noTsk).time) (critF L S e d) (i + 1) (L.drop (i + 1))).map ((i : Int) :: ·) := by rw [critF, h]; rfl
theorem critL_len {S : List Int} {i : Nat} {x : Int} {f : Nat → Option (List Int)} {d : Nat} (hf : ∀ k r, f k = some r → r.length ≤ d) : ∀ (us : List Tsk) (k : Nat) (r : List Int), critL S i x f k us = some r → r.length ≤ d := by
  intro us
  induction us with
  | nil => intro k r h; rw [critL_nil] at h; cases h
  | cons u us ih =>
    intro k r h
    rcases Bool.eq_false_or_eq_true (hasB u.needs (i : Int)) with t | t
    · rcases Bool.eq_false_or_eq_true (S.getD k 0 == x) with t2 | t2
      · cases hk : f k with
        | none => rw [critL_none hk] at h; exact ih _ _ h
        | some r' => rw [critL_some t t2 hk] at h; cases h; exact hf _ _ hk
      · rw [critL_no2 t2] at h; exact ih _ _ h
    · rw [critL_no1 t] at h; exact ih _ _ h
theorem critF_len {L : List Tsk} {S : List Int} {e : Int} : ∀ (d i : Nat) (r : List Int), critF L S e d i = some r → r.length ≤ d := by
  intro d
  induction d with
  | zero => intro i r h; simp [critF] at h
  | succ d ih =>
    intro i r h
    rcases Bool.eq_false_or_eq_true (S.getD i 0 + (L.getD i noTsk).time == e) with t | t
    · rw [critF_end t] at h; cases h; simp
    · rw [critF_go t] at h
      cases hc : critL S i (S.getD i 0 + (L.getD i noTsk).time) (critF L S e d) (i + 1) (L.drop (i + 1)) with
      | none => rw [hc] at h; simp at h
      | some q =>
        rw [hc] at h
        simp only [Option.map_some, Option.some.injEq] at h
        subst h
        have := critL_len (d := d) (fun k r h => ih k r h) _ _ _ hc
        simp; omega

/-- a list in new memory, or nil -/
def RetOpt (w : World) (o : Option (List Int)) (e : Ending) (w' : World) : Prop :=
  (o = none ∧ e = .returned (.slice none 0 0) ∧ Below w.heap.size w w') ∨
  (∃ xs g c, o = some xs ∧ e = .returned (.slice (some ⟨g, 0, none⟩) xs.length c) ∧ FInts w' w.heap.size w'.heap.size (.slice (some ⟨g, 0, none⟩) xs.length c) xs ∧ Below w.heap.size w w')

theorem one_lit (w : World) (lo : Nat) (h : lo ≤ w.heap.size) (x : Int) : FInts (w.alloc (.cells #[.int .i64 x] 3)) lo (w.heap.size + 1) (.slice (some ⟨w.heap.size, 0, none⟩) 1 1) [x] := by
  simpa using ints_lit w lo h [x] (by simp)
theorem fints_some {w : World} {lo hi : Nat} {v : Value} {xs : List Int} (h : FInts w lo hi v xs) (h0 : 0 < xs.length) : ∃ g c, v = .slice (some ⟨g, 0, none⟩) xs.length c := by
  obtain ⟨a, cap, rfl⟩ := h.form
  obtain ⟨g, x, rfl, _⟩ := h.at (i := 0) h0
  exact ⟨g, cap, rfl⟩
theorem fints_new {w : World} {lo hi : Nat} {v : Value} {xs : List Int} (h : FInts w lo hi v xs) : FInts w lo w.heap.size v xs := ⟨h.1, fun g hg => (h.1.lt g hg).2⟩

set_option maxRecDepth 100000 in
set_option maxHeartbeats 4000000 in
theorem criticalChain_c (v u : Value) (L : List Tsk) (S : List Int) (e : Int) (w0 : World) (h : RTasks w0 v L) (h' : RInts w0 u S) (hL : GoodT L) (hSl : S.length = L.length) (hS : StartsOk S) :
    ∀ (d i : Nat) (w : World), Below w0.heap.size w0 w → d ≤ 12 → i < L.length → L.length - i ≤ d → Calls Try.prog 124 #[v, u, .int .i64 e, .int .i64 i] w (RetOpt w (critF L S e d i)) := by
  intro d
  have HG := hid hL
  have HS := hid (And.intro hSl hS)
  have HU := hid h'
  have hl12 := hL.1
  clear hL hSl hS
  obtain ⟨g, o, cap, r, q1, q2, hv, hc⟩ := rtasks_open h
  obtain ⟨b, capb, rfl, z1, z2, hcu⟩ := h'
  have HC := hid hc
  have HV := hid hv
  unfold maxLen at q2 z2
  clear hc hcu h hv
  induction d with
  | zero => intro i w _ _ hi hd; omega
  | succ d ih =>
    intro i w hw hd12 hi hd
    have hv := HV.out (by omega)
    subst hv
    have IH := hid ih
    clear ih
    have HW := hid hw
    obtain ⟨_, c2, _⟩ := HC.out i hi
    have ht0 := (HG.out.2 i hi).2
    have hs0 := HS.out.2 i (by rw [HS.out.1]; exact hi)
    have hSl := HS.out.1
    obtain ⟨b', capb', hb, _, _, hcu⟩ := HU.out.keep hw
    simp only [Value.slice.injEq, true_and] at hb
    obtain ⟨rfl, rfl⟩ := hb
    obtain ⟨gs, os, x, rfl, e1, _, HX⟩ := ints_at hcu (show i < S.length by omega)
    rw [HX.out] at hs0
    obtain ⟨tm, htm⟩ : ∃ tm, (L.getD i noTsk).time = tm := ⟨_, rfl⟩
    rw [htm] at c2 ht0
    have e2 := (hw.cell (p := ⟨g, o + i * 2 + 1, none⟩) (cell_lt c2)).trans c2
    have HTM := hid htm
    have HSL := hid hSl
    have hiz : (i : Int) < (L.length : Int) := by omega
    have hizs : (i : Int) < (S.length : Int) := by omega
    have hsl12 : S.length ≤ 12 := by omega
    have f1 : IntKind.i64.wrap (x + tm) = x + tm := IntWalk.i64_in _ (by omega)
    clear c2 hw hcu htm hSl
    rcases Bool.eq_false_or_eq_true (x + tm == e) with t | t
    · have HO := hid (critF_end (L := L) (S := S) (e := e) (d := d) (i := i) (by rw [HX.out, HTM.out]; exact t))
      go_enter Try.func124, Try.ntmps124
      go_wp2
      go_quiet (fail)
      go_wp2
      go_ret
      exact .inr ⟨_, _, _, HO.out, rfl, (one_lit (w.drewN _) w.heap.size (Nat.le_refl _) (i : Int)).mono (Nat.le_refl _) (by simp), (below_dn (Below.refl _ _) _).alloc (Nat.le_refl _) _⟩
    · have HO := hid (critF_go (L := L) (S := S) (e := e) (d := d) (i := i) (by rw [HX.out, HTM.out]; exact t))
      have HO2 : Hid (critF L S e (d + 1) i = (critL S i (x + tm) (critF L S e d) (i + 1) (L.drop (i + 1))).map ((i : Int) :: ·)) := by show _ = _; rw [HO.out, HX.out, HTM.out]
      have hnil := fun (w : World) (a : Option Addr) (n c : Nat) => Go.run_neq_slice_nil_any (P := Try.prog) w 36 3 a n c 0 0 Try.underlying36
      go_enter Try.func124, Try.ntmps124
      go_wp2
      go_quiet (fail)
      go_wp2
      clear f1 e1 e2
      go_loopg [10] (L.length - (i + 1)) (fun gk iv wr => ∃ k : Nat, i + 1 ≤ k ∧ k ≤ L.length ∧ gk = L.length - k ∧ iv = .int .i64 k ∧ critL S i (x + tm) (critF L S e d) (i + 1) (L.drop (i + 1)) = critL S i (x + tm) (critF L S e d) k (L.drop k) ∧ Below w.heap.size w wr)
      case atStart => exact ⟨i + 1, Nat.le_refl _, by omega, rfl, by go_num, rfl, below_dn (Below.refl _ _) _⟩
      case round =>
        obtain ⟨k, hk0, hk, rfl, rfl, hr, hb⟩ := hrel
        obtain ⟨wo, rfl⟩ : ∃ wo : World, wo = wr := ⟨_, rfl⟩
        have HRR := hid hr
        have HB := hid hb
        have HW0 := hid (HW.out.trans (hb.mono HW.out.size))
        clear hr hb
        by_cases hlt : k < L.length
        · obtain ⟨c1, _, hy⟩ := HC.out k hlt
          obtain ⟨y, hyy⟩ : ∃ y, (L.getD k noTsk).needs = y := ⟨_, rfl⟩
          rw [hyy] at hy
          have hy' := hy.keep HW0.out
          obtain ⟨ay, cy, hry, _, _, _⟩ := hy
          rw [hry] at c1 hy'
          have e1 := (HW0.out.cell (p := ⟨g, o + k * 2, none⟩) (cell_lt c1)).trans c1
          obtain ⟨b', capb', hv, _, _, hcu⟩ := HU.out.keep HW0.out
          simp only [Value.slice.injEq, true_and] at hv
          obtain ⟨rfl, rfl⟩ := hv
          obtain ⟨gs', os', z, he1, e3, _, HZ⟩ := ints_at hcu (show k < S.length by rw [HSL.out]; exact hlt)
          simp only [Option.some.injEq, Addr.mk.injEq, and_true] at he1
          obtain ⟨rfl, rfl⟩ := he1
          have HYY := hid hyy
          have HCONS := hid (drop_cons L noTsk k hlt)
          have HY' := hid hy'
          clear c1 hyy hry hcu hy'
          have hltz : (k : Int) < (L.length : Int) := by omega
          have hltzs : (k : Int) < (S.length : Int) := by have := HSL.out; omega
          rcases Bool.eq_false_or_eq_true (z == x + tm) with t2 | t2
          · rcases Bool.eq_false_or_eq_true (hasB y (i : Int)) with t1 | t1
            · go_wp2_with fail
              refine (contains_c _ y _ _ HY'.out).mono ?_
              rintro e' w' ⟨rfl, rfl⟩
              rw [t1]
              go_wp2_with fail
              refine (IH.out k wo HW0.out (by omega) hlt (by omega)).mono ?_
              intro e' w1 hret
              rcases hret with ⟨ho, rfl, hb1⟩ | ⟨xs, g1, c1, ho, rfl, hF, hb1⟩
              · have HST : Hid (critL S i (x + tm) (critF L S e d) k (L.drop k) = critL S i (x + tm) (critF L S e d) (k + 1) (L.drop (k + 1))) := by show _ = _; rw [HCONS.out, critL_none ho]
                have HB1 := hid (HB.out.trans (hb1.mono HB.out.size))
                clear ho hb1
                go_wp2
                go_roundg (L.length - (k + 1))
                case rel => exact ⟨k + 1, by omega, by omega, rfl, by go_num, by rw [HRR.out, HST.out], HB1.out⟩
                case measure => omega
              · have hlen := critF_len _ _ _ ho
                have HST : Hid (critF L S e (d + 1) i = some ((i : Int) :: xs)) := by
                  show _ = _
                  rw [HO2.out, HRR.out, HCONS.out, critL_some (by rw [HYY.out]; exact t1) (by rw [HZ.out]; exact t2) ho]; rfl
                have hB1 := HB.out.trans (hb1.mono HB.out.size)
                have hle : w.heap.size ≤ w1.heap.size := hB1.size
                have hL1 := one_lit w1 w.heap.size hle (i : Int)
                have hR1 := (hF.keep ((Below.refl _ _).alloc (Nat.le_refl _) (.cells #[.int .i64 (i : Int)] 3))).r
                have hB2 := hB1.alloc hle (.cells #[.int .i64 (i : Int)] 3)
                have HB2 := hid hB2
                have HLE2 := hid hB2.size
                have hl2 : [(i : Int)].length + xs.length ≤ 1099511627776 := by simp; omega
                clear ho hb1 hF hB1 hB2
                go_wp2_with (at_builtin; refine wpList_append_ints rfl _ _ rfl _ _ _ _ [(i : Int)] xs rfl rfl hL1 hR1 hl2 HLE2.out ?_; intro v' w' hF' hg hn)
                obtain ⟨g', c', hv'⟩ := fints_some hF' (by simp)
                have hB3 := HB2.out.grown hg HLE2.out (fun k hk => (hL1.1.lt k hk).1)
                go_ret
                exact .inr ⟨(i : Int) :: xs, g', c', HST.out, by rw [hv']; rfl, by rw [hv'] at hF'; exact hF', hB3⟩
            · go_wp2_with fail
              refine (contains_c _ y _ _ HY'.out).mono ?_
              rintro e' w' ⟨rfl, rfl⟩
              rw [t1]
              have HST : Hid (critL S i (x + tm) (critF L S e d) k (L.drop k) = critL S i (x + tm) (critF L S e d) (k + 1) (L.drop (k + 1))) := by show _ = _; rw [HCONS.out, critL_no1 (by rw [HYY.out]; exact t1)]
              go_wp2
              go_roundg (L.length - (k + 1))
              case rel => exact ⟨k + 1, by omega, by omega, rfl, by go_num, by rw [HRR.out, HST.out], HB.out⟩
              case measure => omega
          · have HST : Hid (critL S i (x + tm) (critF L S e d) k (L.drop k) = critL S i (x + tm) (critF L S e d) (k + 1) (L.drop (k + 1))) := by show _ = _; rw [HCONS.out, critL_no2 (by rw [HZ.out]; exact t2)]
            go_wp2_with fail
            go_roundg (L.length - (k + 1))
            case rel => exact ⟨k + 1, by omega, by omega, rfl, by go_num, by rw [HRR.out, HST.out], HB.out⟩
            case measure => omega
        · have HST : Hid (critF L S e (d + 1) i = none) := by show _ = _; rw [HO2.out, HRR.out, List.drop_eq_nil_of_le (by omega), critL_nil]; rfl
          go_wp2
          go_ret
          exact .inl ⟨HST.out, rfl, HB.out⟩

/-- a list and whether there is one -/
def RetOptB (B : Nat) (w : World) (o : Option (List Int)) (e : Ending) (w' : World) : Prop :=
  (o = none ∧ e = .returned (.tuple #[.slice none 0 0, .bool false]) ∧ Below w.heap.size w w') ∨
  (∃ xs v, o = some xs ∧ e = .returned (.tuple #[v, .bool true]) ∧ FInts w' B w'.heap.size v xs ∧ Below w.heap.size w w')

set_option maxRecDepth 100000 in
set_option maxHeartbeats 1500000 in
theorem pjChain_c (v u : Value) (L : List Tsk) (S : List Int) (e : Int) (w0 : World) (B : Nat) (h : RTasks w0 v L) (h' : RInts w0 u S) (hL : GoodT L) (hSl : S.length = L.length) (hS : StartsOk S) :
    ∀ (d i : Nat) (pre : List Int) (c : Value) (w : World), Below w0.heap.size w0 w → d ≤ 12 → i < L.length → L.length - i ≤ d → pre.length + (L.length - i) ≤ L.length → B ≤ w.heap.size → FInts w B w.heap.size c (pre ++ [(i : Int)]) →
      Calls Try.prog 125 #[v, u, .int .i64 e, c] w (RetOptB B w ((critF L S e d i).map (pre ++ ·))) := by
  intro d
  have HG := hid hL
  have HS := hid (And.intro hSl hS)
  have HU := hid h'
  have hl12 := hL.1
  clear hL hSl hS
  obtain ⟨g, o, cap, r, q1, q2, hv, hc⟩ := rtasks_open h
  obtain ⟨b, capb, rfl, z1, z2, hcu⟩ := h'
  have HC := hid hc
  have HV := hid hv
  unfold maxLen at q2 z2
  clear hc hcu h hv
  induction d with
  | zero => intro i pre c w _ _ hi hd; omega
  | succ d ih =>
    intro i pre c w hw hd12 hi hd hpl hBw hF
    have hv := HV.out (by omega)
    subst hv
    have IH := hid ih
    clear ih
    have HW := hid hw
    obtain ⟨_, c2, _⟩ := HC.out i hi
    have ht0 := (HG.out.2 i hi).2
    have hs0 := HS.out.2 i (by rw [HS.out.1]; exact hi)
    have hSl := HS.out.1
    obtain ⟨b', capb', hb, _, _, hcu⟩ := HU.out.keep hw
    simp only [Value.slice.injEq, true_and] at hb
    obtain ⟨rfl, rfl⟩ := hb
    obtain ⟨gs, os, x, rfl, e1, _, HX⟩ := ints_at hcu (show i < S.length by omega)
    rw [HX.out] at hs0
    obtain ⟨tm, htm⟩ : ∃ tm, (L.getD i noTsk).time = tm := ⟨_, rfl⟩
    rw [htm] at c2 ht0
    have e2 := (hw.cell (p := ⟨g, o + i * 2 + 1, none⟩) (cell_lt c2)).trans c2
    have HTM := hid htm
    have HSL := hid hSl
    have hiz : (i : Int) < (L.length : Int) := by omega
    have hizs : (i : Int) < (S.length : Int) := by omega
    have hsl12 : S.length ≤ 12 := by omega
    have f1 : IntKind.i64.wrap (x + tm) = x + tm := IntWalk.i64_in _ (by omega)
    obtain ⟨gc, cc, rfl⟩ := fints_some hF (by simp)
    obtain ⟨gc', lst, heq, _, _, e0, _, HLST⟩ := hF.at (i := pre.length) (by simp)
    simp only [Option.some.injEq, Addr.mk.injEq, and_true] at heq
    subst heq
    have hlst : lst = (i : Int) := by have := HLST.out; simp [List.getD] at this; omega
    subst hlst
    have HF := hid hF
    obtain ⟨p, hp⟩ : ∃ p, pre.length = p := ⟨_, rfl⟩
    have hfl : (pre ++ [(i : Int)]).length = p + 1 := by rw [List.length_append, hp]; rfl
    rw [hfl] at HF
    rw [hp] at e0 hpl
    rw [hfl]
    have HP := hid hp
    have f0 : IntKind.i64.wrap (((p + 1 : Nat) : Int) - 1) = (p : Int) := by rw [IntWalk.i64_in _ (by omega)]; omega
    have hpz : (p : Int) < ((p + 1 : Nat) : Int) := by omega
    clear c2 hw hcu htm hSl hF hp hfl
    rcases Bool.eq_false_or_eq_true (x + tm == e) with t | t
    · have HO := hid (critF_end (L := L) (S := S) (e := e) (d := d) (i := i) (by rw [HX.out, HTM.out]; exact t))
      go_enter Try.func125, Try.ntmps125
      go_wp2
      go_quiet (fail)
      go_wp2
      go_ret2
      exact .inr ⟨pre ++ [(i : Int)], _, by rw [HO.out]; rfl, rfl, HF.out, below_dn (Below.refl _ _) _⟩
    · have HO := hid (critF_go (L := L) (S := S) (e := e) (d := d) (i := i) (by rw [HX.out, HTM.out]; exact t))
      have HO2 : Hid (critF L S e (d + 1) i = (critL S i (x + tm) (critF L S e d) (i + 1) (L.drop (i + 1))).map ((i : Int) :: ·)) := by show _ = _; rw [HO.out, HX.out, HTM.out]
      go_enter Try.func125, Try.ntmps125
      go_wp2
      go_quiet (fail)
      go_wp2
      clear f1 e1 e2 e0
      go_loopg [11] (L.length - (i + 1)) (fun gk iv wr => ∃ k : Nat, i + 1 ≤ k ∧ k ≤ L.length ∧ gk = L.length - k ∧ iv = .int .i64 k ∧ critL S i (x + tm) (critF L S e d) (i + 1) (L.drop (i + 1)) = critL S i (x + tm) (critF L S e d) k (L.drop k) ∧ Below w.heap.size w wr)
      case atStart => exact ⟨i + 1, Nat.le_refl _, by omega, rfl, by go_num, rfl, below_dn (Below.refl _ _) _⟩
      case round =>
        obtain ⟨k, hk0, hk, rfl, rfl, hr, hb⟩ := hrel
        obtain ⟨wo, rfl⟩ : ∃ wo : World, wo = wr := ⟨_, rfl⟩
        have HRR := hid hr
        have HB := hid hb
        have HW0 := hid (HW.out.trans (hb.mono HW.out.size))
        clear hr hb
        by_cases hlt : k < L.length
        · obtain ⟨c1, _, hy⟩ := HC.out k hlt
          obtain ⟨_, c2, _⟩ := HC.out i hi
          rw [HTM.out] at c2
          have e2 := (HW0.out.cell (p := ⟨g, o + i * 2 + 1, none⟩) (cell_lt c2)).trans c2
          obtain ⟨y, hyy⟩ : ∃ y, (L.getD k noTsk).needs = y := ⟨_, rfl⟩
          rw [hyy] at hy
          have hy' := hy.keep HW0.out
          obtain ⟨ay, cy, hry, _, _, _⟩ := hy
          rw [hry] at c1 hy'
          have e1 := (HW0.out.cell (p := ⟨g, o + k * 2, none⟩) (cell_lt c1)).trans c1
          obtain ⟨b', capb', hv, _, _, hcu⟩ := HU.out.keep HW0.out
          simp only [Value.slice.injEq, true_and] at hv
          obtain ⟨rfl, rfl⟩ := hv
          obtain ⟨gs', os', z, he1, e3, _, HZ⟩ := ints_at hcu (show k < S.length by rw [HSL.out]; exact hlt)
          simp only [Option.some.injEq, Addr.mk.injEq, and_true] at he1
          obtain ⟨rfl, rfl⟩ := he1
          obtain ⟨gs', os', x', he1, e4, _, HX'⟩ := ints_at hcu (show i < S.length by rw [HSL.out]; exact hi)
          simp only [Option.some.injEq, Addr.mk.injEq, and_true] at he1
          obtain ⟨rfl, rfl⟩ := he1
          have hxx : x = x' := HX.out.symm.trans HX'.out
          subst hxx
          have HYY := hid hyy
          have HCONS := hid (drop_cons L noTsk k hlt)
          have HY' := hid hy'
          clear c1 c2 hyy hry hcu hy'
          have hltz : (k : Int) < (L.length : Int) := by omega
          have hltzs : (k : Int) < (S.length : Int) := by have := HSL.out; omega
          have f1 : IntKind.i64.wrap (x + tm) = x + tm := IntWalk.i64_in _ (by omega)
          rcases Bool.eq_false_or_eq_true (hasB y (i : Int)) with t1 | t1
          · rcases Bool.eq_false_or_eq_true (z == x + tm) with t2 | t2
            · go_wp2
              go_quiet ((go_at_call 115; exact Calls.quiet_of_same ((l1Has_c _ y _ _ HY'.out.drewN).mono fun _ _ h => ⟨h.1, h.2.symm⟩)))
              go_wp2_with fail
              refine (l1Own_c _ (pre ++ [(i : Int)]) _ ((HF.out.keep HB.out).r.drewN) (by rw [List.length_append, HP.out]; simp; omega)).mono ?_
              rintro e' w1 ⟨u1, rfl, hF1, hb1⟩
              obtain ⟨au, nu, cu, rfl⟩ := hF1.form3
              obtain ⟨p1, p2, p3, p4, p5⟩ := push_round (k : Int) (by rw [List.length_append, HP.out]; simp; omega) hF1 hb1 hb1.size
              have HP5 := hid p5
              clear p5 hF1 hb1
              go_wp2_with (at_builtin; refine wpList_append_ints rfl _ _ rfl _ _ _ _ _ [(k : Int)] rfl rfl p1 p2 p3 p4 ?_; intro v' w' hF' hg hn)
              have hb2 := HP5.out _ hg
              have hB2 : Below w.heap.size w w' := (below_dn HB.out _).trans (hb2.mono HB.out.size)
              have HB2 := hid hB2
              have hBs : w.heap.size ≤ w'.heap.size := hB2.size
              have hlo : B ≤ wo.heap.size := Nat.le_trans hBw HB.out.size
              have HFF := hid (hF'.mono hlo (Nat.le_refl _))
              clear p1 p2 p3 p4 hF' hg hn hb2 hB2 hlo HP5
              refine (IH.out k (pre ++ [(i : Int)]) v' w' (HW.out.trans (HB2.out.mono HW.out.size)) (by omega) hlt (by omega) (by rw [List.length_append, HP.out]; simp; omega) (by omega) HFF.out).mono ?_
              intro e' w3 hret
              rcases hret with ⟨ho, rfl, hb3⟩ | ⟨xs, v3, ho, rfl, hF3, hb3⟩
              · rw [Option.map_eq_none_iff] at ho
                have HST : Hid (critL S i (x + tm) (critF L S e d) k (L.drop k) = critL S i (x + tm) (critF L S e d) (k + 1) (L.drop (k + 1))) := by show _ = _; rw [HCONS.out, critL_none ho]
                have HB3 := hid (HB2.out.trans (hb3.mono HB2.out.size))
                clear ho hb3
                go_wp2
                go_roundg (L.length - (k + 1))
                case rel => exact ⟨k + 1, by omega, by omega, rfl, by go_num, by rw [HRR.out, HST.out], HB3.out⟩
                case measure => omega
              · obtain ⟨ys, hys, hxs⟩ := Option.map_eq_some_iff.1 ho
                have HST : Hid (critF L S e (d + 1) i = some ((i : Int) :: ys)) := by
                  show _ = _
                  rw [HO2.out, HRR.out, HCONS.out, critL_some (by rw [HYY.out]; exact t1) (by rw [HZ.out]; exact t2) hys]; rfl
                have HXS := hid hxs
                have HF3 := hid hF3
                have HB3 := hid (HB2.out.trans (hb3.mono HB2.out.size))
                clear ho hys hxs hF3 hb3
                go_wp2
                go_ret2
                exact .inr ⟨xs, v3, by rw [HST.out, ← HXS.out]; simp, rfl, HF3.out, HB3.out⟩
            · have HST : Hid (critL S i (x + tm) (critF L S e d) k (L.drop k) = critL S i (x + tm) (critF L S e d) (k + 1) (L.drop (k + 1))) := by show _ = _; rw [HCONS.out, critL_no2 (by rw [HZ.out]; exact t2)]
              go_wp2
              go_quiet ((go_at_call 115; exact Calls.quiet_of_same ((l1Has_c _ y _ _ HY'.out.drewN).mono fun _ _ h => ⟨h.1, h.2.symm⟩)))
              go_wp2_with fail
              go_roundg (L.length - (k + 1))
              case rel => exact ⟨k + 1, by omega, by omega, rfl, by go_num, by rw [HRR.out, HST.out], below_dn HB.out _⟩
              case measure => omega
          · have HST : Hid (critL S i (x + tm) (critF L S e d) k (L.drop k) = critL S i (x + tm) (critF L S e d) (k + 1) (L.drop (k + 1))) := by show _ = _; rw [HCONS.out, critL_no1 (by rw [HYY.out]; exact t1)]
            have hq : ∀ n, Calls Try.prog 115 #[.slice ay y.length cy, .int .i64 i] (wo.drewN n) fun e' w' => e' = .returned (.bool false) ∧ w' = wo.drewN n := fun n => (l1Has_c _ y _ _ HY'.out.drewN).mono fun _ _ h => ⟨by rw [h.1, t1], h.2.symm⟩
            clear t1 e2 e3 e4
            go_wp2
            go_quiet ((go_at_call 115; exact Calls.quiet_of_same (hq _)))
            go_wp2_with fail
            go_roundg (L.length - (k + 1))
            case rel => exact ⟨k + 1, by omega, by omega, rfl, by go_num, by rw [HRR.out, HST.out], below_dn HB.out _⟩
            case measure => omega
        · have HST : Hid (critF L S e (d + 1) i = none) := by show _ = _; rw [HO2.out, HRR.out, List.drop_eq_nil_of_le (by omega), critL_nil]; rfl
          go_wp2
          go_ret2
          exact .inl ⟨by rw [HST.out]; rfl, rfl, HB.out⟩

end Go.Proofs.Ytegeelldcomnnaa
