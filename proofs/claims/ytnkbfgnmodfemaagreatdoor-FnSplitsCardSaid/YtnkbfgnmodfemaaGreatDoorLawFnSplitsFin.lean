/- FnSplits returns true for every input, and its arguments read as before. The tables that the row lists are tied to the program's text. No condition. -/
import Derived.Test.YtnkbfgnmodfemaaGreatDoorDiff
import Derived.Test.YtnkbfgnmodfemaaGreatDoorClash
import Derived.Test.YtnkbfgnmodfemaaGreatDoorFit
import Derived.Test.YtnkbfgnmodfemaaGreatDoorMake2
import Derived.Test.YtnkbfgnmodfemaaGreatDoorLawQ
import Derived.Test.YtnkbfgnmodfemaaGreatDoorMem
import Derived.ProofKit
import Derived.OpenShut
import Derived.ShutString
import Derived.ChangeOld
import Derived.Deep.Matrix
import Derived.Test.YtnkbfgnmodfemaaGreatDoorCur
import Derived.Test.YtnkbfgnmodfemaaGreatDoorDrawL
import Derived.Test.YtnkbfgnmodfemaaGreatDoorInnerOf
import Derived.Test.YtnkbfgnmodfemaaGreatDoorSplDr
import Derived.Test.YtnkbfgnmodfemaaGreatDoorUltra
import Derived.Test.YtnkbfgnmodfemaaGreatDoorIsUltra
import Derived.Test.YtnkbfgnmodfemaaGreatDoorPend
import Derived.Test.YtnkbfgnmodfemaaGreatDoorBad2
import Derived.Test.YtnkbfgnmodfemaaGreatDoorVertices
import Derived.Test.YtnkbfgnmodfemaaGreatDoorIsMetric
import Derived.Test.YtnkbfgnmodfemaaGreatDoorWithout2
import Derived.Test.YtnkbfgnmodfemaaGreatDoorSplitsOf
import Derived.Shelf.Strings.Builder1
import Derived.Shelf.Strings.Builder2
import Derived.Shelf.Strings.OnBuilder
import Derived.Shelf.Strings.BuilderF
import Derived.Shelf.Strings.BuilderK
import Derived.Shelf.Strings.Builder2Cap
import Derived.Shelf.Strconv.Itoa0
import Derived.Shelf.Strconv.Itoa1
import Derived.Shelf.Strconv.Itoa2
import Derived.Shelf.Strconv.Itoa3
import Derived.Shelf.Strings.BuilderCap
import Derived.Test.YtnkbfgnmodfemaaGreatDoorProg
import Derived.Test.YtnkbfgnmodfemaaGreatDoorSplit
import Derived.Test.YtnkbfgnmodfemaaGreatDoorOwn
import Derived.Laws.IdiomStrings
import Derived.Test.YtnkbfgnmodfemaaGreatDoorOther
import Derived.Test.YtnkbfgnmodfemaaGreatDoorMos
import Derived.Deep.RegionWith
import Derived.Test.YtnkbfgnmodfemaaGreatDoorCards
import Derived.Test.YtnkbfgnmodfemaaGreatDoorTie
import Derived.LaidMore
import Derived.Stop.Joined
import Derived.SevenTiedAt
/- Trees and splits: the plain facts of FnTrees. -/
namespace Go.Proofs.YtnkbfgnmodfemaaGreatDoor
open Go.RowKit

theorem sides_form : ∀ (m i : Nat) (xs l : List Int), l ∈ sidesL m i xs → ∃ t : List Int, l = xs ++ t ∧ t ≠ [] ∧ ∀ y ∈ t, (i : Int) ≤ y
  | 0, _, _, _, h => by rw [sidesL_zero] at h; cases h
  | m + 1, i, xs, l, h => by
    rw [sidesL] at h
    rcases List.mem_cons.1 h with h | h
    · exact ⟨[(i : Int)], h, by simp, by simp⟩
    · rcases List.mem_append.1 h with h | h
      · obtain ⟨t, e, _, h2⟩ := sides_form m (i + 1) _ l h
        refine ⟨(i : Int) :: t, by rw [e]; simp, by simp, fun y hy => ?_⟩
        rcases List.mem_cons.1 hy with h | h
        · omega
        · have := h2 y h; omega
      · obtain ⟨t, e, h1, h2⟩ := sides_form m (i + 1) _ l h
        exact ⟨t, e, h1, fun y hy => by have := h2 y hy; omega⟩
theorem sides_nodup : ∀ (m i : Nat) (xs : List Int), (sidesL m i xs).Nodup
  | 0, _, _ => by rw [sidesL_zero]; exact List.nodup_nil
  | m + 1, i, xs => by
    rw [sidesL, List.nodup_cons, List.nodup_append]
    refine ⟨fun h => ?_, sides_nodup m (i + 1) _, sides_nodup m (i + 1) _, fun a ha b hb e => ?_⟩
    · rcases List.mem_append.1 h with h | h
      · obtain ⟨t, e, h1, _⟩ := sides_form _ _ _ _ h
        have := congrArg List.length e
        simp at this
        exact h1 this
      · obtain ⟨t, e, _, h2⟩ := sides_form _ _ _ _ h
        have e2 : [(i : Int)] = t := List.append_cancel_left e
        have := h2 (i : Int) (by rw [← e2]; simp)
        omega
    · obtain ⟨t, e1, _, _⟩ := sides_form _ _ _ _ ha
      obtain ⟨t', e2, _, h2⟩ := sides_form _ _ _ _ hb
      rw [e1, e2, List.append_assoc] at e
      have e3 : [(i : Int)] ++ t = t' := List.append_cancel_left e
      have := h2 (i : Int) (by rw [← e3]; simp)
      omega
theorem inner_nodup (M : List (List Int)) : (innerL M).Nodup := ((sides_nodup _ _ _).filter _).filter _
theorem nd_le : ∀ (A B : List (List Int)), A.Nodup → (∀ x ∈ A, x ∈ B) → A.length ≤ B.length
  | [], _, _, _ => Nat.zero_le _
  | a :: t, B, hn, hs => by
    have ha := hs a (by simp)
    have hn' := List.nodup_cons.1 hn
    have h1 := nd_le t (B.erase a) hn'.2 (fun x hx => (List.mem_erase_of_ne (fun (e : x = a) => hn'.1 (by rw [← e]; exact hx))).2 (hs x (by simp [hx])))
    have h2 := List.length_erase_of_mem ha
    have h3 := List.length_pos_of_mem ha
    simp only [List.length_cons]
    omega
theorem inL_iff {B : List (List Int)} {x : List Int} : inL B x = true ↔ x ∈ B := by
  unfold inL
  rw [List.any_eq_true]
  exact ⟨fun ⟨y, hy, e⟩ => by rw [of_decide_eq_true e]; exact hy, fun h => ⟨x, h, by simp⟩⟩
theorem miss_count (B : List (List Int)) : ∀ A : List (List Int), missL B A + (A.filter (inL B)).length = A.length
  | [] => rfl
  | x :: xs => by
    have := miss_count B xs
    simp only [missL, List.filter_cons, List.length_cons]
    cases inL B x <;> simp <;> omega
theorem both_same {A B : List (List Int)} (hA : A.Nodup) (hB : B.Nodup) : (A.filter (inL B)).length = (B.filter (inL A)).length := by
  have one : ∀ {A B : List (List Int)}, A.Nodup → (A.filter (inL B)).length ≤ (B.filter (inL A)).length := fun {A B} h =>
    nd_le _ _ (h.filter _) (fun x hx => by
      have h1 := List.mem_filter.1 hx
      exact List.mem_filter.2 ⟨inL_iff.1 h1.2, inL_iff.2 h1.1⟩)
  have := one (A := A) (B := B) hA
  have := one (A := B) (B := A) hB
  omega
theorem miss_self (A : List (List Int)) : missL A A = 0 := by
  have h := miss_count A A
  have e : A.filter (inL A) = A := List.filter_eq_self.2 (fun x hx => inL_iff.2 hx)
  rw [e] at h
  omega
theorem td_law {A B : List (List Int)} {d : Int} (h : tdB A B = (d, true)) : tdB B A = (d, true) ∧ tdB A A = (0, true) ∧ ∃ (IA IB : List (List Int)) (x : Bool), innerB A = (IA, true) ∧ innerB B = (IB, true) ∧ binB A = (x, true) ∧ IA.length ≤ 128 ∧ IB.length ≤ 128 ∧ ∃ c : Nat, d + 2 * c = (IA.length : Int) + IB.length ∧ 0 ≤ d := by
  have ha : treeB A = true := by
    rcases Bool.eq_false_or_eq_true (treeB A) with t | t
    · exact t
    · rw [tdB_no1 t] at h; cases h
  have hb : treeB B = true := by
    rcases Bool.eq_false_or_eq_true (treeB B) with t | t
    · exact t
    · rw [tdB_no2 t] at h; cases h
  have hl : A.length = B.length := by
    by_cases t : A.length = B.length
    · exact t
    · rw [tdB_no3 t] at h; cases h
  rw [tdB_yes ha hb hl] at h
  simp only [Prod.mk.injEq, and_true] at h
  refine ⟨?_, ?_, innerL A, innerL B, _, innerB_yes ha, innerB_yes hb, binB_yes ha, (innerL_small ha).1, (innerL_small hb).1, (innerL A |>.filter (inL (innerL B))).length, ?_, by omega⟩
  · rw [tdB_yes hb ha hl.symm, ← h, Nat.add_comm]
  · rw [tdB_yes ha ha rfl, miss_self]; rfl
  · have h1 := miss_count (innerL B) (innerL A)
    have h2 := miss_count (innerL A) (innerL B)
    have h3 := both_same (inner_nodup A) (inner_nodup B)
    omega

theorem comp_parts {n : Int} {x y : List Int} : (compB n x y).2 = (splitB n x && splitB n y) := by
  unfold compB
  split
  · rename_i h; exact h.symm
  · rename_i h; simpa using h
theorem row_found {a : List Int} {i : Nat} : ∀ {L : List (List Int)} {k : Nat} {p : Nat × Nat}, clashRow a i k L = some p → p.1 = i ∧ ∃ j, p.2 = k + j ∧ j < L.length ∧ fitB a (L.getD j []) = false
  | [], _, _, h => by rw [clashRow_nil] at h; cases h
  | b :: bs, k, p, h => by
    rcases Bool.eq_false_or_eq_true (fitB a b) with t | t
    · rw [clashRow_yes _ _ _ _ _ t] at h
      obtain ⟨h1, j, h2, h3, h4⟩ := row_found h
      exact ⟨h1, j + 1, by omega, by simp; omega, by simpa using h4⟩
    · rw [clashRow_no _ _ _ _ _ t] at h
      cases h
      exact ⟨rfl, 0, by omega, by simp, by simpa using t⟩
theorem clash_found : ∀ {L : List (List Int)} {i : Nat} {p : Nat × Nat}, clashL i L = some p → ∃ a b, p = (i + a, i + b) ∧ a < b ∧ b < L.length ∧ fitB (L.getD a []) (L.getD b []) = false
  | [], _, _, h => by rw [clashL_nil] at h; cases h
  | x :: rest, i, p, h => by
    rw [clashL_cons] at h
    cases hr : clashRow x i (i + 1) rest with
    | some q =>
      rw [hr] at h
      cases h
      obtain ⟨h1, j, h2, h3, h4⟩ := row_found hr
      refine ⟨0, j + 1, ?_, by omega, by simp; omega, by simpa using h4⟩
      obtain ⟨q1, q2⟩ := p
      simp only at h1 h2
      rw [h1, h2]
      simp only [Prod.mk.injEq]
      omega
    | none =>
      rw [hr] at h
      have h' : clashL (i + 1) rest = some p := h
      obtain ⟨a, b, h1, h2, h3, h4⟩ := clash_found h'
      refine ⟨a + 1, b + 1, by rw [h1]; simp only [Prod.mk.injEq]; omega, by omega, by simp; omega, by simpa using h4⟩
theorem clash_law {n : Int} {L : List (List Int)} {p q : Int} (h : clashB n L = ((p, q), true)) : ∃ i k : Nat, p = i ∧ q = k ∧ i < k ∧ k < L.length ∧ compB n (L.getD i []) (L.getD k []) = (false, true) := by
  rcases Bool.eq_false_or_eq_true (splitsB n L) with t | t
  · cases hc : clashL 0 L with
    | none => rw [clashB_none n L t hc] at h; cases h
    | some r =>
      obtain ⟨i, k⟩ := r
      rw [clashB_some n L t i k hc] at h
      simp only [Prod.mk.injEq, and_true] at h
      obtain ⟨a, b, h1, h2, h3, h4⟩ := clash_found hc
      simp only [Nat.zero_add, Prod.mk.injEq] at h1
      obtain ⟨rfl, rfl⟩ := h1
      refine ⟨i, k, h.1.symm, h.2.symm, h2, h3, ?_⟩
      have hall : ∀ j, j < L.length → splitB n (L.getD j []) = true := fun j hj => by
        unfold splitsB at t
        simp only [Bool.and_eq_true, List.all_eq_true] at t
        exact t.2.2 _ (by simp [List.getD, hj])
      unfold compB
      rw [hall i (by omega), hall k h3, h4]; rfl
  · rw [clashB_bad n L t] at h; cases h
theorem comp_law {n : Int} {x y : List Int} {c : Bool} (h : compB n x y = (c, true)) : (splitB n x && splitB n y) = true ∧ ∃ p q : Int, clashB n [x, y] = ((p, q), !c) := by
  have h2 : (splitB n x && splitB n y) = true := by rw [← comp_parts, h]
  refine ⟨h2, ?_⟩
  have h3 := Bool.and_eq_true _ _ ▸ h2
  have hc : fitB x y = c := by
    unfold compB at h
    rw [h2] at h
    simpa using h
  have hs : splitsB n [x, y] = true := by
    have hn : inB n 2 7 = true := by
      have := h3.1
      unfold splitB at this
      simp only [Bool.and_eq_true] at this
      exact this.1
    unfold splitsB
    rw [hn]
    simp [h3.1, h3.2]
  cases c with
  | true =>
    have : clashL 0 [x, y] = none := by
      rw [clashL_cons, clashRow_yes _ _ _ _ _ hc, clashRow_nil]; rfl
    exact ⟨0, 0, clashB_none n _ hs this⟩
  | false =>
    have : clashL 0 [x, y] = some (0, 1) := by
      rw [clashL_cons, clashRow_no _ _ _ _ _ hc]; rfl
    exact ⟨_, _, clashB_some n _ hs 0 1 this⟩
end Go.Proofs.YtnkbfgnmodfemaaGreatDoor

/- The laws' own equality of lists of lists. -/
namespace Go.Proofs.YtnkbfgnmodfemaaGreatDoor
open Go.RowKit
open Go.Lib (hid)

set_option maxHeartbeats 400000 in
theorem qLists_c (v u : Value) (l m : List (List Int)) (w : World) (h : RMat w v l) (h' : RMat w u m) :
    Calls Tryz.prog 11 #[v, u] w fun e w' => e = .returned (.bool (decide (l = m))) ∧ ∃ n, w' = w.drewN n := by
  obtain ⟨a, cap, rfl, h1, h2, hc⟩ := h
  obtain ⟨a', cap', rfl, h1', h2', hc'⟩ := h'
  unfold maxLen at h2 h2'
  by_cases hlen : l.length = m.length
  · have HL := hid hlen
    go_enter Tryz.func11, Tryz.ntmps11
    go_wp2
    go_loopw [13] (fun i wr => ∃ k n : Nat, k ≤ l.length ∧ wr = w.drewN n ∧ i = .int .i64 k ∧ eqM l m = eqM (l.drop k) (m.drop k)) (fun i _ => l.length - (intOf i).toNat)
    case atStart => exact ⟨0, 0, Nat.zero_le _, rfl, rfl, rfl⟩
    case round =>
      obtain ⟨k, n, hk, hq, rfl, hr⟩ := hrel
      have HR := hid hr; clear hr
      have HQ := hid hq; clear hq
      by_cases hlt : k < l.length
      · obtain ⟨g, o, r, x, rfl, hk1, hx, HD, HX⟩ := mat_at hc hlt
        obtain ⟨g', o', r', y, rfl, hk2, hy, HD', HY⟩ := mat_at hc' (show k < m.length by omega)
        have c1 := cell_q HQ.out hk1
        have c2 := cell_q HQ.out hk2
        have hx' : RInts wr r x := by rw [HQ.out]; exact hx
        have hy' : RInts wr r' y := by rw [HQ.out]; exact hy
        clear hc hc' hk1 hk2 hx hy
        rcases Bool.eq_false_or_eq_true (decide (x = y)) with ht | ht
        all_goals
          go_wp2
          go_quiet ((go_at_call 12; exact Calls.quiet_of (qInts_c _ _ x y _ hx'.drewN hy'.drewN)))
          go_wp2
        · go_roundw
          case rel => exact ⟨k + 1, _, by omega, drew_q HQ.out _, by go_num, by rw [HR.out, HD.out, HD'.out, eqM_cons, ht, Bool.true_and]⟩
          case measure => simp [intOf]; omega
        · go_ret
          exact ⟨ret_bool (by rw [← eqM_same l m HL.out, HR.out, HD.out, HD'.out, eqM_cons, ht, Bool.false_and]), _, drew_q HQ.out _⟩
      · clear hc hc'
        go_wp2
        go_ret
        exact ⟨ret_bool (by rw [← eqM_same l m HL.out, HR.out, List.drop_eq_nil_of_le (by omega), eqM_nil]), _, HQ.out⟩
  · have hne : l ≠ m := fun e => hlen (by rw [e])
    have HN := hid hne
    clear hne hc hc'
    go_enter Tryz.func11, Tryz.ntmps11
    go_wp2
    go_ret
    exact ⟨ret_bool (by simp [HN.out]), 0, rfl⟩
theorem qLists_b (v u : Value) (l m : List (List Int)) (w : World) (h : RMat w v l) (h' : RMat w u m) :
    Calls Tryz.prog 11 #[v, u] w fun e w' => e = .returned (.bool (decide (l = m))) ∧ Below w.heap.size w w' :=
  (qLists_c v u l m w h h').mono fun e w' ⟨h1, n, h2⟩ => ⟨h1, by rw [h2]; exact below_drewN (Below.refl _ _) n⟩
/-- lists that are known to be the same -/
theorem qLists_y (v u : Value) (l : List (List Int)) (w : World) (h : RMat w v l) (h' : RMat w u l) :
    Calls Tryz.prog 11 #[v, u] w fun e w' => e = .returned (.bool true) ∧ Below w.heap.size w w' :=
  (qLists_b v u l l w h h').mono fun e w' ⟨h1, h2⟩ => ⟨by rw [h1]; simp, h2⟩
end Go.Proofs.YtnkbfgnmodfemaaGreatDoor

/- From a law's row to its walk: arguments opened as lists of ints and lists of lists of ints. -/
namespace Go.Proofs.YtnkbfgnmodfemaaGreatDoor
open Go.ChangeShapes Go.WideShapes Go.ChangeAt Go.RowKit Go.Deep
open Go.ChangeMaps (open_string shut_string)

theorem Tryz.own' : ownKnob Tryz.prog.godebug = none := by kernel_rfl
theorem Tryz.laidOut' : laidOutB Tryz.prog = true := by kernel_rfl
theorem Tryz.cellsInt : Tryz.prog.cellsOf 3 = 1 := by kernel_rfl
theorem Tryz.cellsInts : Tryz.prog.cellsOf 27 = 1 := by kernel_rfl

/-- fits Go's int -/
def I64 (x : Int) : Prop := -9223372036854775808 ≤ x ∧ x ≤ 9223372036854775807
theorem I64_of {x : Int} (h : (Lit.int .i64 x).wf = true) : I64 x := by
  simp [Lit.wf, IntKind.min, IntKind.max, IntKind.signed, IntKind.bits] at h
  exact ⟨by omega, by omega⟩

theorem rints_row {W : World} {a : Option Addr} {len cap : Nat} {zs : List Int} (hl : len ≤ cap) (hm : cap ≤ maxLen) (hz : zs.length = cap)
    (hc : ∀ a', a = some a' → ∀ c, c < cap → W.cell? (a'.add c) = some (.int .i64 (zs.getD c 0))) (hn : a = none → cap = 0) : RInts W (.slice a len cap) (zs.take len) := by
  have hlen : (zs.take len).length = len := by rw [List.length_take]; omega
  refine ⟨a, cap, by rw [hlen], by rw [hlen]; exact hl, hm, fun i hi => ?_⟩
  rw [hlen] at hi
  cases a with
  | none => have := hn rfl; omega
  | some ad =>
    obtain ⟨b, off, rfl, hcell⟩ := _root_.Go.ints_at (zs := zs) (a := ad) (w := W) (k := .i64) (fun j hj => hc ad rfl j (by omega)) (by omega)
    refine ⟨b, off, rfl, ?_⟩
    rw [hcell i (by omega)]
    simp [List.getD, hi]

section
variable {H : Type} {enc : TypeId × Value → H} {W : World} {base : Nat}

set_option maxRecDepth 100000 in
theorem open_rints {v : Value} {d : DataW H} {p : List MemPlace} (hv : Value.okWide Tryz.prog W .any base 27 v) (h : DataW.Trod enc Tryz.prog W 0 (fun _ => true) true 27 v d p) :
    ∃ xs, RInts W v xs ∧ ∀ x ∈ xs, I64 x := by
  obtain ⟨a, len, cap, rfl⟩ := okWide_slice Tryz.underlying27 hv
  obtain ⟨fuel, hf⟩ := h
  rcases open_ints Tryz.underlying27 Tryz.underlying3 Tryz.cellsInt hf with ⟨hcs, _⟩ | ⟨x, l, c, zs, hcs, _, hl, hm, hz, _, hcell, hwz⟩
  · simp [Value.cells] at hcs
    obtain ⟨rfl, rfl, rfl⟩ := hcs
    exact ⟨[], ⟨none, 0, rfl, Nat.le_refl _, by unfold maxLen; omega, fun i hi => by simp at hi⟩, by simp⟩
  · simp [Value.cells] at hcs
    obtain ⟨rfl, rfl, rfl⟩ := hcs
    simp only [if_true] at hz
    exact ⟨zs.take len, rints_row hl hm hz (fun a' ha c hc => by cases ha; exact hcell c (by omega)) (fun e => by cases e), fun x hx => I64_of (hwz x (List.mem_of_mem_take hx))⟩

set_option maxRecDepth 100000 in
theorem open_rmat {v : Value} {d : DataW H} {p : List MemPlace} (hv : Value.okWide Tryz.prog W .any base 23 v) (h : DataW.Trod enc Tryz.prog W 0 (fun _ => true) true 23 v d p) :
    ∃ M, RMat W v M ∧ ∀ r ∈ M, ∀ x ∈ r, I64 x := by
  obtain ⟨a, len, cap, rfl⟩ := okWide_slice Tryz.underlying23 hv
  obtain ⟨fuel, hf⟩ := h
  rcases open_int_rows Tryz.underlying23 Tryz.underlying27 Tryz.underlying3 Tryz.cellsInts Tryz.cellsInt hf with ⟨hcs, _⟩ | ⟨ad, l, c, A, L, C, Z, hcs, _, hl, hm, _, hr⟩
  · simp [Value.cells] at hcs
    obtain ⟨rfl, rfl, rfl⟩ := hcs
    exact ⟨[], ⟨none, 0, rfl, Nat.le_refl _, by unfold maxLen; omega, fun i hi => by simp at hi⟩, by simp⟩
  · simp [Value.cells] at hcs
    obtain ⟨rfl, rfl, rfl⟩ := hcs
    refine ⟨(List.range len).map fun r => (Z r).take (L r), ⟨some ad, cap, by simp, by simpa using hl, hm, fun i hi => ?_⟩, fun r hr' x hx => ?_⟩
    · simp only [List.length_map, List.length_range] at hi
      obtain ⟨hc, h1, h2, h3, h4, h5, h6⟩ := hr i (by omega)
      obtain ⟨b, off, spot⟩ := ad
      have hspot : spot = none := by
        have h0 := (hr 0 (by omega)).1
        simpa [Addr.add] using World.cell?_spot h0
      subst hspot
      have e : ((⟨b, off, none⟩ : Addr).add i) = ⟨b, off + i, none⟩ := by unfold Addr.add; split <;> simp_all
      rw [e] at hc
      refine ⟨b, off, _, rfl, hc, ?_⟩
      have hg : ((List.range len).map fun r => (Z r).take (L r)).getD i [] = (Z i).take (L i) := by simp [List.getD, hi]
      rw [hg]
      exact rints_row h1 h2 h3 (fun a' ha c hcc => (h6 a' ha).2 c hcc) h5
    · obtain ⟨i, hi, rfl⟩ := List.mem_map.1 hr'
      exact I64_of ((hr i (by have := List.mem_range.1 hi; omega)).2.2.2.2.1 x (List.mem_of_mem_take hx))

theorem trod_blocks {t : TypeId} {v : Value} {d : DataW H} {p : List MemPlace} (h : DataW.Trod enc Tryz.prog W 0 (fun _ => true) true t v d p) : ∀ x ∈ p, x.block < W.heap.size := by
  obtain ⟨m, hm⟩ := h
  exact DataW.trod_lt m _ _ _ hm
end

end Go.Proofs.YtnkbfgnmodfemaaGreatDoor

/- From a law's row to its walk: a slice of bytes opened. -/
namespace Go.Proofs.YtnkbfgnmodfemaaGreatDoor
open Go.ChangeShapes Go.WideShapes Go.ChangeAt Go.RowKit Go.Deep
open Go.ChangeMaps (open_string shut_string)

theorem Tryz.cellsByte : Tryz.prog.cellsOf 5 = 1 := by kernel_rfl

section
variable {H : Type} {enc : TypeId × Value → H} {W : World} {base : Nat}

set_option maxRecDepth 100000 in
theorem open_rbytes {v : Value} {d : DataW H} {p : List MemPlace} (hv : Value.okWide Tryz.prog W .any base 22 v) (h : DataW.Trod enc Tryz.prog W 0 (fun _ => true) true 22 v d p) :
    ∃ n, RBytes W v n ∧ True := by
  obtain ⟨a, len, cap, rfl⟩ := okWide_slice Tryz.underlying22 hv
  obtain ⟨fuel, hf⟩ := h
  rcases open_slice Tryz.underlying22 hf with ⟨hcs, _⟩ | ⟨ad, l, c, m, n, D, Pl, hcs, _, hl, hm, hmm, _, hr⟩
  · simp [Value.cells] at hcs
    obtain ⟨rfl, rfl, rfl⟩ := hcs
    exact ⟨0, ⟨none, 0, rfl, Nat.le_refl _, by unfold maxLen; omega, fun i hi => by omega⟩, trivial⟩
  · simp [Value.cells] at hcs
    obtain ⟨rfl, rfl, rfl⟩ := hcs
    simp only [if_true] at hmm
    refine ⟨len, ⟨some ad, cap, rfl, hl, hm, fun i hi => ?_⟩, trivial⟩
    have each : ∀ i, i < len → ∃ y : Int, W.cell? (ad.add i) = some (.int .u8 y) ∧ 0 ≤ y ∧ y < 256 := by
      intro i hi
      obtain ⟨cs, h1, h2⟩ := hr i (by omega)
      rw [Tryz.cellsByte] at h1
      obtain ⟨_, hlen, hc⟩ := World.cells?_some h1
      obtain ⟨c0, rfl⟩ : ∃ c0, cs = [c0] := by
        match cs, hlen with
        | [c0], _ => exact ⟨c0, rfl⟩
      obtain ⟨z0, e0, _, w0⟩ := DataW.trod_int Tryz.underlying5 h2
      simp at e0
      subst e0
      refine ⟨z0, by simpa [Addr.add] using hc 0 (by omega), ?_⟩
      simp [Lit.wf, IntKind.min, IntKind.max, IntKind.signed, IntKind.bits] at w0
      omega
    obtain ⟨b, off, spot⟩ := ad
    obtain ⟨y, k1, k2, k3⟩ := each i hi
    have hspot : spot = none := by
      obtain ⟨y0, h0, _⟩ := each 0 (by omega)
      simpa [Addr.add] using World.cell?_spot h0
    subst hspot
    have e : ((⟨b, off, none⟩ : Addr).add i) = ⟨b, off + i, none⟩ := by unfold Addr.add; split <;> simp_all
    rw [e] at k1
    exact ⟨b, off, y, rfl, k1, k2, k3⟩
end

end Go.Proofs.YtnkbfgnmodfemaaGreatDoor

/- Results in plain words: lists, numbers and truth values that are known by name; laws.big; AreTasks. -/
namespace Go.Proofs.YtnkbfgnmodfemaaGreatDoor
open Go.RowKit
open Go.Lib (hid)

/-- a list that reads as xs, and b -/
def RetL (w : World) (xs : List Int) (b : Bool) (e : Ending) (w' : World) : Prop := ∃ a n c, e = .returned (.tuple #[.slice a n c, .bool b]) ∧ RInts w' (.slice a n c) xs ∧ Below w.heap.size w w'
theorem retL_of {w w' : World} {p : List Int × Bool} {e : Ending} (h : ∃ v, e = .returned (.tuple #[v, .bool p.2]) ∧ FInts w' w.heap.size w'.heap.size v p.1 ∧ Below w.heap.size w w') {xs : List Int} {b : Bool} (hp : p = (xs, b)) : RetL w xs b e w' := by
  subst hp
  obtain ⟨v, h1, h2, h3⟩ := h
  obtain ⟨a, n, c, rfl⟩ := h2.r.form3
  exact ⟨a, n, c, h1, h2.r, h3⟩
def RetZ (w : World) (x : Int) (b : Bool) (e : Ending) (w' : World) : Prop := e = .returned (.tuple #[.int .i64 x, .bool b]) ∧ Below w.heap.size w w'
theorem retZ_of {w w' : World} {p : Int × Bool} {e : Ending} (h : e = .returned (.tuple #[.int .i64 p.1, .bool p.2]) ∧ Below w.heap.size w w') {x : Int} {b : Bool} (hp : p = (x, b)) : RetZ w x b e w' := by subst hp; exact h
def RetT (w : World) (x : Bool) (b : Bool) (e : Ending) (w' : World) : Prop := e = .returned (.tuple #[.bool x, .bool b]) ∧ Below w.heap.size w w'
theorem retT_of {w w' : World} {p : Bool × Bool} {e : Ending} (h : e = .returned (.tuple #[.bool p.1, .bool p.2]) ∧ Below w.heap.size w w') {x : Bool} {b : Bool} (hp : p = (x, b)) : RetT w x b e w' := by subst hp; exact h
def RetZZ (w : World) (x y : Int) (b : Bool) (e : Ending) (w' : World) : Prop := e = .returned (.tuple #[.int .i64 x, .int .i64 y, .bool b]) ∧ Below w.heap.size w w'
theorem retZZ_of {w w' : World} {p : Int × Int × Bool} {e : Ending} (h : e = .returned (.tuple #[.int .i64 p.1, .int .i64 p.2.1, .bool p.2.2]) ∧ Below w.heap.size w w') {x y : Int} {b : Bool} (hp : p = (x, y, b)) : RetZZ w x y b e w' := by subst hp; exact h

/-- more bytes than a million and a bit -/
def bigB (n m : Nat) : Bool := decide (1048576 < n) || decide (1048576 - (n : Int) < m)
end Go.Proofs.YtnkbfgnmodfemaaGreatDoor

/- IsBinaryTree of the program. -/
namespace Go.Proofs.YtnkbfgnmodfemaaGreatDoor
open Go.RowKit
open Go.Lib (hid)

end Go.Proofs.YtnkbfgnmodfemaaGreatDoor

/- Results of the functions of trees and splits, with names for what is known. -/
namespace Go.Proofs.YtnkbfgnmodfemaaGreatDoor
open Go.RowKit
open Go.Lib (hid)

theorem RetMatT.lp {w : World} {p : List (List Int) × Bool} {e : Ending} {w' : World} (h : RetMatT w p e w') {X : List (List Int)} {b : Bool} (hp : p = (X, b)) : ∃ a n c, e = .returned (.tuple #[.slice a n c, .bool b]) ∧ RMat w' (.slice a n c) X ∧ Below w.heap.size w w' := by
  subst hp
  obtain ⟨v, rfl, hF, hb⟩ := h
  obtain ⟨a, n, c, rfl⟩ := hF.form3
  exact ⟨a, n, c, rfl, hF.r, hb⟩
theorem bbLp {w w' : World} {e : Ending} {p : Bool × Bool} (h : e = .returned (.tuple #[.bool p.1, .bool p.2]) ∧ Below w.heap.size w w') {x b : Bool} (hp : p = (x, b)) : e = .returned (.tuple #[.bool x, .bool b]) ∧ Below w.heap.size w w' := by subst hp; exact h
theorem zbLp {w w' : World} {e : Ending} {p : Int × Bool} (h : e = .returned (.tuple #[.int .i64 p.1, .bool p.2]) ∧ Below w.heap.size w w') {x : Int} {b : Bool} (hp : p = (x, b)) : e = .returned (.tuple #[.int .i64 x, .bool b]) ∧ Below w.heap.size w w' := by subst hp; exact h
theorem zzbLp {w w' : World} {e : Ending} {p : (Int × Int) × Bool} (h : e = .returned (.tuple #[.int .i64 p.1.1, .int .i64 p.1.2, .bool p.2]) ∧ Below w.heap.size w w') {x y : Int} {b : Bool} (hp : p = ((x, y), b)) : e = .returned (.tuple #[.int .i64 x, .int .i64 y, .bool b]) ∧ Below w.heap.size w w' := by subst hp; exact h
theorem bbPure {w w' : World} {e : Ending} {p : Bool × Bool} (h : e = .returned (.tuple #[.bool p.1, .bool p.2]) ∧ w = w') {x b : Bool} (hp : p = (x, b)) : e = .returned (.tuple #[.bool x, .bool b]) ∧ Below w.heap.size w w' := by obtain ⟨h1, rfl⟩ := h; subst hp; exact ⟨h1, Below.refl _ _⟩
theorem bPure {w w' : World} {e : Ending} {x y : Bool} (h : e = .returned (.bool x) ∧ w = w') (hx : x = y) : e = .returned (.bool y) ∧ Below w.heap.size w w' := by obtain ⟨h1, rfl⟩ := h; subst hx; exact ⟨h1, Below.refl _ _⟩
theorem rmat_n {w : World} {a : Option Addr} {n c : Nat} {M : List (List Int)} (h : RMat w (.slice a n c) M) : n = M.length ∧ n ≤ 9223372036854775807 := by
  obtain ⟨_, _, he, h1, h2, _⟩ := h
  simp only [Value.slice.injEq] at he
  unfold maxLen at h2
  exact ⟨he.2.1, by omega⟩
theorem rmat_pair {w : World} {u v : Value} {c d : List Int} (h : RInts w u c) (h' : RInts w v d) : RMat (w.alloc (.cells #[u, v] 27)) (.slice (some ⟨w.heap.size, 0, none⟩) 2 2) [c, d] ∧ Below w.heap.size w (w.alloc (.cells #[u, v] 27)) := by
  have hal : Below w.heap.size w (w.alloc (.cells #[u, v] 27)) := (Below.refl _ _).alloc (Nat.le_refl _) _
  have hbx : (w.alloc (.cells #[u, v] 27)).heap[w.heap.size]? = some (.cells #[u, v] 27 (0, 0)) := heap_alloc_new _ _
  refine ⟨⟨_, 2, rfl, Nat.le_refl _, by unfold maxLen; omega, fun i hi => ?_⟩, hal⟩
  rcases (show i = 0 ∨ i = 1 by simp at hi; omega) with rfl | rfl
  · exact ⟨w.heap.size, 0, u, rfl, by rw [cell_of_row _ _ _ _ _ _ hbx]; rfl, h.keep hal⟩
  · exact ⟨w.heap.size, 0, v, rfl, by rw [cell_of_row _ _ _ _ _ _ hbx]; rfl, h'.keep hal⟩
end Go.Proofs.YtnkbfgnmodfemaaGreatDoor

/- Metrics, plain: the ultrametric below, longer ends, a point less. -/
namespace Go.Proofs.YtnkbfgnmodfemaaGreatDoor
open Go.RowKit

/-! ### Matrices as functions -/
theorem iterFrom_ind {S : Type} {n : Nat} {f : Nat → S → S} (P : Nat → S → Prop) (hf : ∀ k s, k < n → P k s → P (k + 1) (f k s)) : ∀ (d k : Nat) (s : S), d = n - k → k ≤ n → P k s → P n (iterFrom n k f s)
  | 0, k, s, hd, hk, h => by
    rw [iterFrom_ge f s (by omega)]
    have : k = n := by omega
    rw [← this]; exact h
  | d + 1, k, s, hd, hk, h => by
    rw [iterFrom_lt f s (by omega)]
    exact iterFrom_ind P hf d (k + 1) _ (by omega) (by omega) (hf k s (by omega) h)
theorem sq_ext {n : Nat} {A B : List (List Int)} (ha : A.length = n) (hA : sqB A n = true) (hb : B.length = n) (hB : sqB B n = true) (h : ∀ i j, i < n → j < n → ent A i j = ent B i j) : A = B := by
  apply List.ext_getElem (by omega)
  intro i h1 h2
  have e1 := sqB_len hA (i := i) h1
  have e2 := sqB_len hB (i := i) h2
  have g1 : A.getD i [] = A[i] := by simp [List.getD, h1]
  have g2 : B.getD i [] = B[i] := by simp [List.getD, h2]
  rw [g1] at e1
  rw [g2] at e2
  apply List.ext_getElem (by omega)
  intro j h3 h4
  have := h i j (by omega) (by omega)
  unfold ent at this
  rw [g1, g2] at this
  simpa [List.getD, h3, h4] using this
/-- what a metric is, as a function -/
structure Met (n : Nat) (m : Nat → Nat → Int) : Prop where
  n2 : 2 ≤ n
  n7 : n ≤ 7
  diag : ∀ i, i < n → m i i = 0
  far : ∀ i j, i < n → j < n → i ≠ j → 1 ≤ m i j ∧ m i j ≤ 10000
  sym : ∀ i j, i < n → j < n → m i j = m j i
  tri : ∀ i j k, i < n → j < n → k < n → m i k ≤ m i j + m j k
theorem Met.nonneg {n : Nat} {m : Nat → Nat → Int} (h : Met n m) {i j : Nat} (hi : i < n) (hj : j < n) : 0 ≤ m i j := by
  by_cases e : i = j
  · rw [e, h.diag j hj]; omega
  · have := h.far i j hi hj e; omega
theorem met_iff {M : List (List Int)} : metB M = true ↔ sqB M M.length = true ∧ Met M.length (ent M) := by
  constructor
  · intro h
    obtain ⟨h1, h2, h3, h4, h5⟩ := metB_parts h
    refine ⟨h3, ⟨h1, h2, fun i hi => symB_zero h4 hi, fun i j hi hj hne => ?_, fun i j hi hj => symB_comm h4 hi hj, fun i j k hi hj hk => ?_⟩⟩
    · have := symB_at h4 hi hj
      unfold symP at this
      rw [if_neg hne] at this
      simp only [Bool.and_eq_true] at this
      exact inB_iff.1 this.1
    · unfold triB at h5
      have := allFrom_iff.1 (allFrom_iff.1 (allFrom_iff.1 h5 i (Nat.zero_le _) hi) k (Nat.zero_le _) hk) j (Nat.zero_le _) hj
      unfold triP at this
      simp at this
      omega
  · rintro ⟨h1, h⟩
    unfold metB
    simp only [Bool.and_eq_true]
    refine ⟨inB_iff.2 (by have := h.n2; have := h.n7; omega), h1, ?_, ?_⟩
    · unfold symB
      refine allFrom_iff.2 fun i _ hi => allFrom_iff.2 fun k _ hk => ?_
      unfold symP
      by_cases e : i = k
      · rw [if_pos e, e, h.diag k hk]; rfl
      · rw [if_neg e]
        simp only [Bool.and_eq_true, beq_iff_eq]
        exact ⟨inB_iff.2 (h.far i k hi hk e), h.sym i k hi hk⟩
    · unfold triB
      refine allFrom_iff.2 fun i _ hi => allFrom_iff.2 fun k _ hk => allFrom_iff.2 fun j _ hj => ?_
      unfold triP
      have := h.tri i j k hi hj hk
      simp; omega

/-! ### The ultrametric below -/
def Ult (n : Nat) (m : Nat → Nat → Int) : Prop := ∀ i j k, i < n → j < n → k < n → m i k ≤ max (m i j) (m j k)
theorem utr_iff {M : List (List Int)} (h : metB M = true) : utrB M = true ↔ Ult M.length (ent M) := by
  obtain ⟨_, hm⟩ := met_iff.1 h
  have key : utrB M = true ↔ ∀ i j k, i < j → j < k → k < M.length → utrK M i j k = true := by
    unfold utrB utrI utrJ
    rw [allFrom_iff]
    constructor
    · intro x i j k h1 h2 h3
      exact allFrom_iff.1 (allFrom_iff.1 (x i (Nat.zero_le _) (by omega)) j (by omega) (by omega)) k (by omega) h3
    · intro x i _ hi
      exact allFrom_iff.2 fun j h1 h2 => allFrom_iff.2 fun k h3 h4 => x i j k (by omega) (by omega) h4
  rw [key]
  unfold utrK tw3
  constructor
  · intro x i j k hi hj hk
    have n1 := hm.nonneg hi hj
    have n2 := hm.nonneg hj hk
    by_cases e1 : i = k
    · rw [e1, hm.diag k hk]; omega
    · by_cases e2 : i = j
      · rw [e2]; omega
      · by_cases e3 : j = k
        · rw [e3]; omega
        · have s1 := hm.sym i j hi hj
          have s2 := hm.sym i k hi hk
          have s3 := hm.sym j k hj hk
          rcases Nat.lt_or_gt_of_ne e1 with a | a <;> rcases Nat.lt_or_gt_of_ne e2 with b | b <;> rcases Nat.lt_or_gt_of_ne e3 with c | c
          · have := x i j k b c hk; simp at this; omega
          · have := x i k j a c hj; simp at this; omega
          · have := x j i k b a hk; simp at this; omega
          · omega
          · omega
          · have := x k i j a b hj; simp at this; omega
          · have := x j k i c a hi; simp at this; omega
          · have := x k j i c b hi; simp at this; omega
  · intro x i j k h1 h2 h3
    have a := x i j k (by omega) (by omega) h3
    have b := x i k j (by omega) (by omega) (by omega)
    have c := x j i k (by omega) (by omega) h3
    have s1 := hm.sym i j (by omega) (by omega)
    have s3 := hm.sym j k (by omega) (by omega)
    simp; omega

/-- one step, as functions -/
def ultF (k : Nat) (m : Nat → Nat → Int) (i j : Nat) : Int := min (m i j) (max (m i k) (m k j))
theorem ultK_ent {n k : Nat} {s : List (List Int)} (hk : k < n) (hl : s.length = n) (hs : sqB s n = true) (h0 : ent s k k = 0) (hp : ∀ i j, i < n → j < n → 0 ≤ ent s i j) :
    (ultK n k s).length = n ∧ sqB (ultK n k s) n = true ∧ ∀ i j, i < n → j < n → ent (ultK n k s) i j = ultF k (ent s) i j := by
  have hcol : ∀ a, a < n → ultF k (ent s) a k = ent s a k := fun a ha => by have := hp a k ha hk; unfold ultF; rw [h0]; omega
  have hrow : ∀ b, b < n → ultF k (ent s) k b = ent s k b := fun b hb => by have := hp k b hk hb; unfold ultF; rw [h0]; omega
  let P : Nat → Nat → List (List Int) → Prop := fun i j t => t.length = n ∧ sqB t n = true ∧ ∀ a b, a < n → b < n → ent t a b = if a < i ∨ (a = i ∧ b < j) then ultF k (ent s) a b else ent s a b
  have hin : ∀ i t, i < n → P i 0 t → P (i + 1) 0 (ultI n k i t) := fun i t hi ht => by
    have := iterFrom_ind (n := n) (f := ultJ k i) (P i) (fun j t hj ⟨t1, t2, t3⟩ => by
      unfold ultJ
      refine ⟨by rw [setEnt_len]; exact t1, setEnt_sq t2 t1 hi _ _, fun a b ha hb => ?_⟩
      rw [ent_setEnt t2 t1 hi hj]
      have c1 : ent t i k = ent s i k := by
        rw [t3 i k hi hk]; split
        · exact hcol i hi
        · rfl
      have c2 : ent t k j = ent s k j := by
        rw [t3 k j hk hj]; split
        · exact hrow j hj
        · rfl
      have c3 : ent t i j = ent s i j := by rw [t3 i j hi hj, if_neg (by omega)]
      by_cases e : a = i ∧ b = j
      · rw [if_pos e, if_pos (by omega), c1, c2, c3, e.1, e.2]; rfl
      · rw [if_neg e, t3 a b ha hb]
        by_cases e2 : a < i ∨ (a = i ∧ b < j)
        · rw [if_pos e2, if_pos (by omega)]
        · rw [if_neg e2, if_neg (by omega)]) n 0 t (by omega) (Nat.zero_le _) ht
    obtain ⟨t1, t2, t3⟩ := this
    refine ⟨t1, t2, fun a b ha hb => ?_⟩
    show ent (iterFrom n 0 (ultJ k i) t) a b = _
    rw [t3 a b ha hb]
    by_cases e : a < i + 1
    · rw [if_pos (by omega), if_pos (by omega)]
    · rw [if_neg (by omega), if_neg (by omega)]
  have := iterFrom_ind (n := n) (f := ultI n k) (fun i t => P i 0 t) hin n 0 s (by omega) (Nat.zero_le _) ⟨hl, hs, fun a b _ _ => by rw [if_neg (by omega)]⟩
  obtain ⟨t1, t2, t3⟩ := this
  exact ⟨t1, t2, fun i j hi hj => by
    show ent (iterFrom n 0 (ultI n k) s) i j = _
    rw [t3 i j hi hj, if_pos (by omega)]⟩

/-- all that is known of the ultrametric below -/
theorem ult_all {M : List (List Int)} (h : metB M = true) : ∃ U, ultB M = (U, true) ∧ U.length = M.length ∧ sqB U M.length = true ∧ Met M.length (ent U) ∧ Ult M.length (ent U) ∧ (∀ i j, i < M.length → j < M.length → ent U i j ≤ ent M i j) ∧ (Ult M.length (ent M) → U = M) := by
  obtain ⟨hs, hm⟩ := met_iff.1 h
  obtain ⟨n, hn⟩ : ∃ n, M.length = n := ⟨_, rfl⟩
  rw [hn] at hs hm
  let Q : Nat → List (List Int) → Prop := fun k t => t.length = n ∧ sqB t n = true ∧ (∀ i, i < n → ent t i i = 0) ∧ (∀ i j, i < n → j < n → i ≠ j → 1 ≤ ent t i j) ∧ (∀ i j, i < n → j < n → ent t i j = ent t j i) ∧
    (∀ i j, i < n → j < n → ent t i j ≤ ent M i j) ∧ (∀ p i j, p < k → p < n → i < n → j < n → ent t i j ≤ max (ent t i p) (ent t p j)) ∧ (Ult n (ent M) → ∀ i j, i < n → j < n → ent t i j = ent M i j)
  have step : ∀ k t, k < n → Q k t → Q (k + 1) (ultK n k t) := fun k t hk ⟨t1, t2, t3, t4, t5, t6, t7, t8⟩ => by
    have hp : ∀ i j, i < n → j < n → 0 ≤ ent t i j := fun i j hi hj => by
      by_cases e : i = j
      · rw [e, t3 j hj]; omega
      · have := t4 i j hi hj e; omega
    obtain ⟨u1, u2, u3⟩ := ultK_ent hk t1 t2 (t3 k hk) hp
    have hf : ∀ i j, ultF k (ent t) i j = min (ent t i j) (max (ent t i k) (ent t k j)) := fun _ _ => rfl
    refine ⟨u1, u2, fun i hi => ?_, fun i j hi hj hne => ?_, fun i j hi hj => ?_, fun i j hi hj => ?_, fun p i j hpk hpn hi hj => ?_, fun hu i j hi hj => ?_⟩
    · rw [u3 i i hi hi, hf, t3 i hi]
      have := hp i k hi hk
      omega
    · rw [u3 i j hi hj, hf]
      have a := t4 i j hi hj hne
      by_cases e : i = k
      · have := t4 k j hk hj (fun e' => hne (e.trans e')); omega
      · have := t4 i k hi hk e; omega
    · rw [u3 i j hi hj, u3 j i hj hi, hf, hf, t5 i j hi hj, t5 i k hi hk, t5 k j hk hj]; omega
    · rw [u3 i j hi hj, hf]; have := t6 i j hi hj; omega
    · rw [u3 i j hi hj, u3 i p hi hpn, u3 p j hpn hj, hf, hf, hf]
      have e0 := t3 k hk
      by_cases e : p = k
      · subst e
        rw [e0]
        have := hp i p hi hk; have := hp p j hk hj
        omega
      · have a1 := t7 p i j (by omega) hpn hi hj
        have a2 := t7 p i k (by omega) hpn hi hk
        have a3 := t7 p k j (by omega) hpn hk hj
        omega
    · rw [u3 i j hi hj, hf, t8 hu i j hi hj, t8 hu i k hi hk, t8 hu k j hk hj]
      have := hu i k j hi hk hj
      omega
  have base : Q 0 M := ⟨hn, hs, hm.diag, fun i j hi hj hne => (hm.far i j hi hj hne).1, hm.sym, fun _ _ _ _ => Int.le_refl _, fun p _ _ hp _ _ _ => by omega, fun _ _ _ _ _ => rfl⟩
  obtain ⟨t1, t2, t3, t4, t5, t6, t7, t8⟩ := iterFrom_ind (n := n) (f := ultK n) Q step n 0 M (by omega) (Nat.zero_le _) base
  rw [hn]
  have hu : Ult n (ent (iterFrom n 0 (ultK n) M)) := fun i j k hi hj hk => t7 j i k hj hj hi hk
  have hp : ∀ i j, i < n → j < n → 0 ≤ ent (iterFrom n 0 (ultK n) M) i j := fun i j hi hj => by
    by_cases e : i = j
    · rw [e, t3 j hj]; omega
    · have := t4 i j hi hj e; omega
  refine ⟨iterFrom n 0 (ultK n) M, by rw [ultB_yes M h, hn], t1, t2, ⟨hm.n2, hm.n7, t3, fun i j hi hj hne => ⟨t4 i j hi hj hne, ?_⟩, t5, fun i j k hi hj hk => ?_⟩, hu, t6, fun hU => ?_⟩
  · have := t6 i j hi hj; have := (hm.far i j hi hj hne).2; omega
  · have := hu i j k hi hj hk; have := hp i j hi hj; have := hp j k hj hk; omega
  · exact sq_ext t1 t2 hn hs (fun i j hi hj => t8 hU i j hi hj)
/-- what the law asks of it -/
theorem ult_law {M : List (List Int)} (h : metB M = true) : ∃ U B, ultB M = (U, true) ∧ isUltB M = (B, true) ∧ isUltB U = (true, true) ∧ ultB U = (U, true) ∧ B = decide (U = M) ∧ metB U = true ∧ U.length = M.length ∧ (∀ i j, i < M.length → j < M.length → ent U i j ≤ ent M i j) := by
  obtain ⟨U, h1, h2, h3, h4, h5, h6, h7⟩ := ult_all h
  have hmu : metB U = true := met_iff.2 ⟨by rw [h2]; exact h3, by rw [h2]; exact h4⟩
  have hu : utrB U = true := (utr_iff hmu).2 (by rw [h2]; exact h5)
  obtain ⟨V, k1, _, _, _, _, _, k7⟩ := ult_all hmu
  have hVU : V = U := k7 (by rw [h2]; exact h5)
  refine ⟨U, utrB M, h1, isUltB_yes h, by rw [isUltB_yes hmu, hu], by rw [k1, hVU], ?_, hmu, h2, h6⟩
  rw [Bool.eq_iff_iff, decide_eq_true_eq]
  constructor
  · intro x; exact h7 ((utr_iff h).1 x)
  · intro e; rw [← e]; exact hu
end Go.Proofs.YtnkbfgnmodfemaaGreatDoor

/- Twice the length of an end: both programs' functions. -/
namespace Go.Proofs.YtnkbfgnmodfemaaGreatDoor
open Go.RowKit
open Go.Lib (hid)

def foldR (f : Nat → Int → Int) : Nat → Nat → Int → Int
  | 0, _, a => a
  | m + 1, i, a => foldR f m (i + 1) (f i a)
/-- f for all from i on, below n -/
def foldFrom (n i : Nat) (f : Nat → Int → Int) (a : Int) : Int := foldR f (n - i) i a
theorem foldFrom_ge {n i : Nat} (f : Nat → Int → Int) (a : Int) (h : n ≤ i) : foldFrom n i f a = a := by rw [foldFrom, show n - i = 0 by omega]; rfl
theorem foldFrom_lt {n i : Nat} (f : Nat → Int → Int) (a : Int) (h : i < n) : foldFrom n i f a = foldFrom n (i + 1) f (f i a) := by
  rw [foldFrom, foldFrom, show n - i = (n - (i + 1)) + 1 by omega]; rfl
theorem foldFrom_le {b : Int} {f : Nat → Int → Int} {c : Nat → Prop} (hf : ∀ i a, b ≤ f i a ↔ b ≤ a ∧ c i) : ∀ (m i : Nat) (N : Nat) (a : Int), i + m = N → (b ≤ foldFrom N i f a ↔ b ≤ a ∧ ∀ j, i ≤ j → j < N → c j) := by
  intro m
  induction m with
  | zero =>
    intro i N a h
    rw [foldFrom_ge f a (by omega)]
    exact ⟨fun h1 => ⟨h1, fun j h2 h3 => by omega⟩, fun h1 => h1.1⟩
  | succ m ih =>
    intro i N a h
    rw [foldFrom_lt f a (by omega), ih (i + 1) N _ (by omega), hf]
    constructor
    · rintro ⟨⟨h1, h2⟩, h3⟩
      refine ⟨h1, fun j hj hj' => ?_⟩
      by_cases e : j = i
      · subst e; exact h2
      · exact h3 j (by omega) hj'
    · rintro ⟨h1, h2⟩
      exact ⟨⟨h1, h2 i (Nat.le_refl _) (by omega)⟩, fun j hj hj' => h2 j (by omega) hj'⟩
theorem loopR_fold {f : Nat → Int → Bool × Int} {g : Nat → Int → Int} {n : Nat} : ∀ (m i : Nat) (s : Int), i + m = n → (∀ j s, i ≤ j → j < n → f j s = (true, g j s)) → loopR f m i s = (true, foldFrom n i g s) := by
  intro m
  induction m with
  | zero => intro i s hi _; rw [loopR_zero, foldFrom_ge _ _ (by omega)]
  | succ m ih =>
    intro i s hi hq
    have h1 := hq i s (Nat.le_refl _) (by omega)
    rw [loopR_yes (by rw [h1]), h1, foldFrom_lt _ _ (by omega)]
    exact ih (i + 1) _ (by omega) (fun j s h2 h3 => hq j s (by omega) h3)

/-- what two points add to the end of a third -/
def endV (M : List (List Int)) (i j k : Nat) : Int := ent M i j + ent M i k - ent M j k
def endK (M : List (List Int)) (i j k : Nat) (a : Int) : Int := if j = i ∨ k = i ∨ j = k then a else min a (endV M i j k)
def endJ (M : List (List Int)) (n i j : Nat) (a : Int) : Int := foldFrom n 0 (endK M i j) a
/-- twice the end, as the reference counts -/
def endS (M : List (List Int)) (i : Nat) : Int := foldFrom M.length 0 (endJ M M.length i) 40000
def endK2 (M : List (List Int)) (i j k : Nat) (a : Int) : Int := if j = i ∨ k = i then a else min a (endV M i j k)
def endJ2 (M : List (List Int)) (n i j : Nat) (a : Int) : Int := foldFrom n (j + 1) (endK2 M i j) a
/-- .. as the program counts -/
def endI (M : List (List Int)) (i : Nat) : Int := foldFrom M.length 0 (endJ2 M M.length i) 1000000000

theorem endS_le {M : List (List Int)} {i : Nat} {b : Int} : b ≤ endS M i ↔ b ≤ 40000 ∧ ∀ j, j < M.length → ∀ k, k < M.length → j ≠ i → k ≠ i → j ≠ k → b ≤ endV M i j k := by
  have h1 : ∀ j k a, b ≤ endK M i j k a ↔ b ≤ a ∧ (j ≠ i → k ≠ i → j ≠ k → b ≤ endV M i j k) := by
    intro j k a
    unfold endK
    split
    · rename_i h
      exact ⟨fun h1 => ⟨h1, fun a b c => by omega⟩, fun h1 => h1.1⟩
    · rename_i h
      constructor
      · intro h1; exact ⟨by omega, fun _ _ _ => by omega⟩
      · rintro ⟨h1, h2⟩; have := h2 (by omega) (by omega) (by omega); omega
  have h2 : ∀ j a, b ≤ endJ M M.length i j a ↔ b ≤ a ∧ ∀ k, k < M.length → (j ≠ i → k ≠ i → j ≠ k → b ≤ endV M i j k) := by
    intro j a
    rw [endJ, foldFrom_le (fun k a => h1 j k a) M.length 0 M.length a (by omega)]
    exact ⟨fun h => ⟨h.1, fun k hk => h.2 k (Nat.zero_le _) hk⟩, fun h => ⟨h.1, fun k _ hk => h.2 k hk⟩⟩
  rw [endS, foldFrom_le h2 M.length 0 M.length _ (by omega)]
  exact ⟨fun h => ⟨h.1, fun j hj => h.2 j (Nat.zero_le _) hj⟩, fun h => ⟨h.1, fun j _ hj => h.2 j hj⟩⟩
theorem endI_le {M : List (List Int)} {i : Nat} {b : Int} : b ≤ endI M i ↔ b ≤ 1000000000 ∧ ∀ j, j < M.length → ∀ k, j < k → k < M.length → j ≠ i → k ≠ i → b ≤ endV M i j k := by
  have h1 : ∀ j k a, b ≤ endK2 M i j k a ↔ b ≤ a ∧ (j ≠ i → k ≠ i → b ≤ endV M i j k) := by
    intro j k a
    unfold endK2
    split
    · rename_i h
      exact ⟨fun h1 => ⟨h1, fun a b => by omega⟩, fun h1 => h1.1⟩
    · rename_i h
      constructor
      · intro h1; exact ⟨by omega, fun _ _ => by omega⟩
      · rintro ⟨h1, h2⟩; have := h2 (by omega) (by omega); omega
  have h2 : ∀ j a, j < M.length → (b ≤ endJ2 M M.length i j a ↔ b ≤ a ∧ ∀ k, j < k → k < M.length → (j ≠ i → k ≠ i → b ≤ endV M i j k)) := by
    intro j a hj
    rw [endJ2, foldFrom_le (fun k a => h1 j k a) (M.length - (j + 1)) (j + 1) M.length a (by omega)]
    exact ⟨fun h => ⟨h.1, fun k hk hk' => h.2 k hk hk'⟩, fun h => ⟨h.1, fun k hk hk' => h.2 k hk hk'⟩⟩
  have h3 : ∀ (m j : Nat) (a : Int), j + m = M.length → (b ≤ foldFrom M.length j (endJ2 M M.length i) a ↔ b ≤ a ∧ ∀ j', j ≤ j' → j' < M.length → ∀ k, j' < k → k < M.length → (j' ≠ i → k ≠ i → b ≤ endV M i j' k)) := by
    intro m
    induction m with
    | zero =>
      intro j a h
      rw [foldFrom_ge _ a (by omega)]
      exact ⟨fun h1 => ⟨h1, fun j h2 h3 => by omega⟩, fun h1 => h1.1⟩
    | succ m ih =>
      intro j a h
      rw [foldFrom_lt _ a (by omega), ih (j + 1) _ (by omega), h2 j a (by omega)]
      constructor
      · rintro ⟨⟨h1, h2⟩, h3⟩
        refine ⟨h1, fun j' hj hj' => ?_⟩
        by_cases e : j' = j
        · subst e; exact h2
        · exact h3 j' (by omega) hj'
      · rintro ⟨h1, h2⟩
        exact ⟨⟨h1, h2 j (Nat.le_refl _) (by omega)⟩, fun j' hj hj' => h2 j' (by omega) hj'⟩
  rw [endI, h3 M.length 0 _ (by omega)]
  exact ⟨fun h => ⟨h.1, fun j hj => h.2 j (Nat.zero_le _) hj⟩, fun h => ⟨h.1, fun j _ hj => h.2 j hj⟩⟩
theorem endV_comm {M : List (List Int)} (hm : metB M = true) {i j k : Nat} (hj : j < M.length) (hk : k < M.length) : endV M i j k = endV M i k j := by
  have := symB_comm (metB_parts hm).2.2.2.1 hj hk
  unfold endV; omega
theorem end_same {M : List (List Int)} (hm : metB M = true) (hn : 3 ≤ M.length) {i : Nat} (hi : i < M.length) : endI M i = endS M i := by
  have hp := metB_parts hm
  have key : ∀ b, b ≤ endI M i ↔ b ≤ endS M i := by
    intro b
    rw [endI_le, endS_le]
    constructor
    · rintro ⟨h1, h2⟩
      have hall : ∀ j, j < M.length → ∀ k, k < M.length → j ≠ i → k ≠ i → j ≠ k → b ≤ endV M i j k := by
        intro j hj k hk h3 h4 h5
        by_cases e : j < k
        · exact h2 j hj k e hk h3 h4
        · rw [endV_comm hm hj hk]; exact h2 k hk j (by omega) hj h4 h3
      refine ⟨?_, hall⟩
      obtain ⟨j, k, hj, hk, h3, h4, h5⟩ : ∃ j k, j < M.length ∧ k < M.length ∧ j ≠ i ∧ k ≠ i ∧ j ≠ k := by
        by_cases e0 : i = 0
        · exact ⟨1, 2, by omega, by omega, by omega, by omega, by omega⟩
        · by_cases e1 : i = 1
          · exact ⟨0, 2, by omega, by omega, by omega, by omega, by omega⟩
          · exact ⟨0, 1, by omega, by omega, by omega, by omega, by omega⟩
      have h6 := hall j hj k hk h3 h4 h5
      have b1 := symB_bound hp.2.2.2.1 hi hj
      have b2 := symB_bound hp.2.2.2.1 hi hk
      have b3 := symB_bound hp.2.2.2.1 hj hk
      unfold endV at h6
      omega
    · rintro ⟨h1, h2⟩
      exact ⟨by omega, fun j hj k hjk hk h3 h4 => h2 j hj k hk h3 h4 (by omega)⟩
  have h1 := (key (endI M i)).1 (Int.le_refl _)
  have h2 := (key (endS M i)).2 (Int.le_refl _)
  omega

def stepE (M : List (List Int)) (i : Nat) (s : Int) (xs : List Int) : Int := endK2 M i (xs.getD 0 0).toNat (xs.getD 1 0).toNat s
theorem nextR_end2 (M : List (List Int)) (i : Nat) (s : Int) : nextR (fun (_ : Int) _ => true) (stepE M i) M.length 2 M.length 0 [] s = (true, foldFrom M.length 0 (endJ2 M M.length i) s) := by
  rw [nextR_loop _ _ (by simp) (by omega)]
  refine loopR_fold _ _ _ (by omega) (fun j s _ hj => ?_)
  rw [nextR_loop _ _ (by simp) (by omega)]
  refine (loopR_fold (g := endK2 M i j) _ _ _ (by omega) (fun k s hk0 hk => ?_)).trans rfl
  rw [nextR_yes _ _ (by simp)]
  simp [stepE]

/-- the visitor's box, block wp.heap.size, holds a number; the rest below it is as it was -/
def VNum (wp : World) (s : Int) (w : World) (D : Nat → Prop) : Prop :=
  Below wp.heap.size wp w ∧ Boxed w wp.heap.size 3 (.int .i64 s) ∧ (∀ b, D b ↔ b = wp.heap.size) ∧ -100000 ≤ s ∧ s ≤ 1000000000
theorem VNum.frame {wp : World} {s : Int} {w w' : World} {D : Nat → Prop} (h : VNum wp s w D) (hk : KeepOn (fun b => b < wp.heap.size + 1 ∨ D b) w w') : VNum wp s w' D := by
  obtain ⟨h1, h2, h3, h4, h5⟩ := h
  exact ⟨h1.trans (hk.below (fun b hb => .inl (by omega)) (by have := h2.lt; omega)), (hk.block _ h2.lt (.inl (by omega))).trans h2, h3, h4, h5⟩
theorem preC_two {n : Nat} {xs : List Int} (h : preC n 2 xs) : ∃ i j : Nat, xs = [(i : Int), (j : Int)] ∧ i < j ∧ j < n := by
  obtain ⟨h1, h2, h3⟩ := h
  match xs, h1 with
  | [a, b], _ =>
    simp at h2 h3
    exact ⟨a.toNat, b.toNat, by rw [Int.toNat_of_nonneg h2.1.1, Int.toNat_of_nonneg h2.2.1], by omega, by omega⟩

def endB (M : List (List Int)) (i : Int) : Int × Bool := if metB M && (decide (3 ≤ M.length) && inB i 0 ((M.length : Int) - 1)) then (endS M i.toNat, true) else (0, false)
theorem endB_yes {M : List (List Int)} {i : Int} (h : metB M = true) (h1 : 3 ≤ M.length) (h2 : inB i 0 ((M.length : Int) - 1) = true) : endB M i = (endS M i.toNat, true) := by rw [endB, h, decide_eq_true h1, h2]; rfl
theorem endB_no1 {M : List (List Int)} {i : Int} (h : metB M = false) : endB M i = (0, false) := by rw [endB, h]; rfl
theorem endB_no2 {M : List (List Int)} {i : Int} (h : ¬ 3 ≤ M.length) : endB M i = (0, false) := by rw [endB, decide_eq_false h]; simp
theorem endB_no3 {M : List (List Int)} {i : Int} (h : inB i 0 ((M.length : Int) - 1) = false) : endB M i = (0, false) := by rw [endB, h]; simp

end Go.Proofs.YtnkbfgnmodfemaaGreatDoor

/- The nearest point of a metric: both programs' functions. -/
namespace Go.Proofs.YtnkbfgnmodfemaaGreatDoor
open Go.RowKit
open Go.Lib (hid)

/-- the search for the nearest, from place k on -/
def nearL (i : Nat) : Nat → Int → Int → List Int → Int × Int
  | _, near, least, [] => (near, least)
  | k, near, least, n :: ns => if k = i then nearL i (k + 1) near least ns else if n < least then nearL i (k + 1) k n ns else nearL i (k + 1) near least ns
theorem nearL_nil (i k : Nat) (a b : Int) : nearL i k a b [] = (a, b) := rfl
theorem nearL_own (i k : Nat) (a b n : Int) (ns : List Int) (h : k = i) : nearL i k a b (n :: ns) = nearL i (k + 1) a b ns := by rw [nearL, if_pos h]
theorem nearL_less (i k : Nat) (a b n : Int) (ns : List Int) (h : ¬ k = i) (h' : n < b) : nearL i k a b (n :: ns) = nearL i (k + 1) k n ns := by rw [nearL, if_neg h, if_pos h']
theorem nearL_more (i k : Nat) (a b n : Int) (ns : List Int) (h : ¬ k = i) (h' : ¬ n < b) : nearL i k a b (n :: ns) = nearL i (k + 1) a b ns := by rw [nearL, if_neg h, if_neg h']

def nearB (M : List (List Int)) (i : Int) : (Int × Int) × Bool :=
  if metB M && inB i 0 (M.length - 1) then (nearL i.toNat 0 0 1000000000 (M.getD i.toNat []), true) else ((0, 0), false)
theorem nearB_no (M : List (List Int)) (i : Int) (h : (metB M && inB i 0 (M.length - 1)) = false) : nearB M i = ((0, 0), false) := by rw [nearB, h]; rfl
theorem nearB_yes (M : List (List Int)) (j : Nat) (h : (metB M && inB (j : Int) 0 (M.length - 1)) = true) : nearB M j = (nearL j 0 0 1000000000 (M.getD j []), true) := by
  rw [nearB, h, if_pos rfl]; rfl

theorem allB_one (x lo hi : Int) : allB [x] lo hi = inB x lo hi := by simp [allB_cons, allB_nil]

theorem row_drop {M : List (List Int)} {n i k : Nat} (hsq : sqB M n = true) (hl : M.length = n) (hi : i < n) (hk : k < n) : (M.getD i []).drop k = ent M i k :: (M.getD i []).drop (k + 1) :=
  drop_cons _ 0 k (by rw [sqB_len hsq (by omega)]; exact hk)

end Go.Proofs.YtnkbfgnmodfemaaGreatDoor

/- Metrics, plain: four points, longer ends, a point less, ends, cherries. -/
namespace Go.Proofs.YtnkbfgnmodfemaaGreatDoor
open Go.RowKit

/-! ### Four points -/
theorem findFrom_none {n : Nat} {f : Nat → Option (List Int)} : ∀ (d i : Nat), d = n - i → (findFrom n i f = none ↔ ∀ j, i ≤ j → j < n → f j = none)
  | 0, i, hd => by
    rw [findFrom_ge f (by omega)]
    exact ⟨fun _ j h1 h2 => by omega, fun _ => rfl⟩
  | d + 1, i, hd => by
    rw [findFrom_lt f (by omega)]
    have ih := findFrom_none (n := n) (f := f) d (i + 1) (by omega)
    cases hf : f i with
    | none =>
      rw [oe_none, ih]
      constructor
      · intro x j h1 h2
        by_cases e : j = i
        · rw [e]; exact hf
        · exact x j (by omega) h2
      · intro x j h1 h2; exact x j (by omega) h2
    | some r =>
      rw [oe_some]
      constructor
      · intro x; cases x
      · intro x; have := x i (Nat.le_refl _) (by omega); rw [hf] at this; cases this
theorem badL_none {M : List (List Int)} {i j k l : Nat} : badL M i j k l = none ↔ goodF M i j k l = true := by
  cases t : goodF M i j k l with
  | true => rw [badL_yes t]; simp
  | false => rw [badL_no t]; simp
/-- four points in order -/
theorem bad_none {M : List (List Int)} : badF M = none ↔ ∀ i j k l, i < j → j < k → k < l → l < M.length → goodF M i j k l = true := by
  unfold badF badI badJ badK
  rw [findFrom_none _ 0 rfl]
  constructor
  · intro x i j k l h1 h2 h3 h4
    have a := (findFrom_none _ (i + 1) rfl).1 (x i (Nat.zero_le _) (by omega)) j (by omega) (by omega)
    have b := (findFrom_none _ (j + 1) rfl).1 a k (by omega) (by omega)
    exact badL_none.1 ((findFrom_none _ (k + 1) rfl).1 b l (by omega) h4)
  · intro x i _ hi
    refine (findFrom_none _ (i + 1) rfl).2 fun j h1 h2 => (findFrom_none _ (j + 1) rfl).2 fun k h3 h4 => (findFrom_none _ (k + 1) rfl).2 fun l h5 h6 => badL_none.2 (x i j k l (by omega) (by omega) (by omega) h6)
/-- the greatest of the three sums is there twice -/
def Four (m : Nat → Nat → Int) (i j k l : Nat) : Prop := m i j + m k l ≤ max (m i k + m j l) (m i l + m j k) ∧ m i k + m j l ≤ max (m i j + m k l) (m i l + m j k) ∧ m i l + m j k ≤ max (m i j + m k l) (m i k + m j l)
theorem tw3_iff {a b c : Int} : tw3 a b c = true ↔ a ≤ max b c ∧ b ≤ max a c ∧ c ≤ max a b := by
  unfold tw3; rw [decide_eq_true_eq]; omega
theorem good_iff {M : List (List Int)} {i j k l : Nat} : goodF M i j k l = true ↔ ent M i j + ent M k l ≤ max (ent M i k + ent M j l) (ent M i l + ent M j k) ∧ ent M i k + ent M j l ≤ max (ent M i j + ent M k l) (ent M i l + ent M j k) ∧ ent M i l + ent M j k ≤ max (ent M i j + ent M k l) (ent M i k + ent M j l) := tw3_iff
theorem four_swap {n : Nat} {m : Nat → Nat → Int} (hs : ∀ i j, i < n → j < n → m i j = m j i) {i j k l : Nat} (hi : i < n) (hj : j < n) (hk : k < n) (hl : l < n) (h : Four m i j k l) : Four m j i k l ∧ Four m i k j l ∧ Four m i j l k := by
  unfold Four at h ⊢
  have a1 := hs i j hi hj; have a2 := hs i k hi hk; have a3 := hs i l hi hl; have a4 := hs j k hj hk; have a5 := hs j l hj hl; have a6 := hs k l hk hl
  omega
/-- a tree metric, as a function: any four points -/
def Tree (n : Nat) (m : Nat → Nat → Int) : Prop := ∀ i j k l, i < n → j < n → k < n → l < n → Four m i j k l
theorem sort4 {P : Nat → Nat → Nat → Nat → Prop} {n : Nat} (h1 : ∀ i j k l, i < n → j < n → k < n → l < n → P i j k l → P j i k l) (h2 : ∀ i j k l, i < n → j < n → k < n → l < n → P i j k l → P i k j l) (h3 : ∀ i j k l, i < n → j < n → k < n → l < n → P i j k l → P i j l k)
    (h0 : ∀ i j k l, i ≤ j → j ≤ k → k ≤ l → l < n → P i j k l) {i j k l : Nat} (hi : i < n) (hj : j < n) (hk : k < n) (hl : l < n) : P i j k l := by
  -- two sorted behind; then insert
  have s3 : ∀ i j k l, i < n → j < n → k < n → l < n → i ≤ j → k ≤ l → P i j k l := by
    intro i j k l hi hj hk hl a b
    by_cases c1 : j ≤ k
    · exact h0 i j k l a c1 b hl
    · by_cases c2 : i ≤ k
      · -- i k .. j
        by_cases c3 : j ≤ l
        · exact h2 i k j l hi hk hj hl (h0 i k j l c2 (by omega) c3 hl)
        · -- i k l j
          have := h0 i k l j c2 b (by omega) hj
          exact h2 i k j l hi hk hj hl (h3 i k l j hi hk hl hj this)
      · by_cases c3 : j ≤ l
        · -- k i j l
          have := h0 k i j l (by omega) a c3 hl
          exact h2 i k j l hi hk hj hl (h1 k i j l hk hi hj hl this)
        · by_cases c4 : i ≤ l
          · -- k i l j
            have := h0 k i l j (by omega) c4 (by omega) hj
            exact h2 i k j l hi hk hj hl (h1 k i j l hk hi hj hl (h3 k i l j hk hi hl hj this))
          · -- k l i j
            have := h0 k l i j b (by omega) a hj
            -- k l i j -> k i l j -> i k l j -> i k j l -> i j k l
            have e1 := h2 k l i j hk hl hi hj this
            have e2 := h1 k i l j hk hi hl hj e1
            have e3 := h3 i k l j hi hk hl hj e2
            exact h2 i k j l hi hk hj hl e3
  by_cases a : i ≤ j
  · by_cases b : k ≤ l
    · exact s3 i j k l hi hj hk hl a b
    · exact h3 i j l k hi hj hl hk (s3 i j l k hi hj hl hk a (by omega))
  · by_cases b : k ≤ l
    · exact h1 j i k l hj hi hk hl (s3 j i k l hj hi hk hl (by omega) b)
    · exact h1 j i k l hj hi hk hl (h3 j i l k hj hi hl hk (s3 j i l k hj hi hl hk (by omega) (by omega)))
theorem tree_iff {M : List (List Int)} (h : metB M = true) : badF M = none ↔ Tree M.length (ent M) := by
  obtain ⟨_, hm⟩ := met_iff.1 h
  rw [bad_none]
  constructor
  · intro x i j k l hi hj hk hl
    have hS := hm.sym
    refine sort4 (P := Four (ent M)) (fun i j k l hi hj hk hl x => (four_swap hS hi hj hk hl x).1) (fun i j k l hi hj hk hl x => (four_swap hS hi hj hk hl x).2.1) (fun i j k l hi hj hk hl x => (four_swap hS hi hj hk hl x).2.2) (fun i j k l a b c hl => ?_) hi hj hk hl
    by_cases e1 : i = j
    · subst e1
      have t1 := hm.tri k i l (by omega) (by omega) hl
      have d := hm.diag i (by omega)
      have s1 := hm.sym i k (by omega) (by omega)
      unfold Four; rw [d]; omega
    · by_cases e2 : j = k
      · subst e2
        have t1 := hm.tri i j l (by omega) (by omega) hl
        have d := hm.diag j (by omega)
        unfold Four; rw [d]; omega
      · by_cases e3 : k = l
        · subst e3
          have t1 := hm.tri i k j (by omega) hl (by omega)
          have d := hm.diag k hl
          have s1 := hm.sym j k (by omega) hl
          unfold Four; rw [d]; omega
        · exact good_iff.1 (x i j k l (by omega) (by omega) (by omega) hl)
  · intro x i j k l h1 h2 h3 h4
    exact good_iff.2 (x i j k l (by omega) (by omega) (by omega) h4)
theorem isNone_iff {M : List (List Int)} (h : metB M = true) : (badF M).isNone = true ↔ Tree M.length (ent M) := by rw [Option.isNone_iff_eq_none, tree_iff h]

/-! ### Longer ends -/
theorem addM_ent {M : List (List Int)} {b : List Int} (hs : sqB M M.length = true) : (addM b M).length = M.length ∧ sqB (addM b M) M.length = true ∧ ∀ i j, i < M.length → j < M.length → ent (addM b M) i j = if i = j then ent M i j else ent M i j + (b.getD i 0 + b.getD j 0) := by
  obtain ⟨n, hn⟩ : ∃ n, M.length = n := ⟨_, rfl⟩
  rw [hn] at hs
  unfold addM
  rw [hn]
  let P : Nat → Nat → List (List Int) → Prop := fun i j t => t.length = n ∧ sqB t n = true ∧ ∀ x y, x < n → y < n → ent t x y = if (x < i ∨ (x = i ∧ y < j)) ∧ x ≠ y then ent M x y + (b.getD x 0 + b.getD y 0) else ent M x y
  have hin : ∀ i t, i < n → P i 0 t → P (i + 1) 0 (addI b n i t) := fun i t hi ht => by
    have := iterFrom_ind (n := n) (f := addJ b i) (P i) (fun j t hj ⟨t1, t2, t3⟩ => by
      unfold addJ
      by_cases e : i = j
      · rw [if_pos e]
        refine ⟨t1, t2, fun x y hx hy => ?_⟩
        rw [t3 x y hx hy]
        by_cases c : (x < i ∨ (x = i ∧ y < j)) ∧ x ≠ y
        · rw [if_pos c, if_pos (by omega)]
        · rw [if_neg c, if_neg (by omega)]
      · rw [if_neg e]
        refine ⟨by rw [setEnt_len]; exact t1, setEnt_sq t2 t1 hi _ _, fun x y hx hy => ?_⟩
        rw [ent_setEnt t2 t1 hi hj]
        by_cases e2 : x = i ∧ y = j
        · rw [if_pos e2, t3 i j hi hj, if_neg (by omega), if_pos (by omega), e2.1, e2.2]
        · rw [if_neg e2, t3 x y hx hy]
          by_cases c : (x < i ∨ (x = i ∧ y < j)) ∧ x ≠ y
          · rw [if_pos c, if_pos (by omega)]
          · rw [if_neg c, if_neg (by omega)]) n 0 t (by omega) (Nat.zero_le _) ht
    obtain ⟨t1, t2, t3⟩ := this
    refine ⟨t1, t2, fun x y hx hy => ?_⟩
    show ent (iterFrom n 0 (addJ b i) t) x y = _
    rw [t3 x y hx hy]
    by_cases c : (x < i ∨ (x = i ∧ y < n)) ∧ x ≠ y
    · rw [if_pos c, if_pos (by omega)]
    · rw [if_neg c, if_neg (by omega)]
  obtain ⟨t1, t2, t3⟩ := iterFrom_ind (n := n) (f := addI b n) (fun i t => P i 0 t) hin n 0 M (by omega) (Nat.zero_le _) ⟨hn, hs, fun x y _ _ => by rw [if_neg (by omega)]⟩
  refine ⟨t1, t2, fun i j hi hj => ?_⟩
  rw [t3 i j hi hj]
  by_cases e : i = j
  · rw [if_pos e, if_neg (by omega)]
  · rw [if_neg e, if_pos (by omega)]
/-- a tree metric stays one with longer ends -/
theorem pend_law {M A : List (List Int)} {b : List Int} (h : pendB M b = (A, true)) : metB M = true ∧ ∃ x, isTreeB M = (x, true) ∧ isTreeB A = (x, true) := by
  unfold pendB at h
  cases t : pendOk M b with
  | false => rw [t] at h; simp at h
  | true =>
    rw [t, if_pos rfl] at h
    cases t2 : metB (addM b M) with
    | false => rw [t2] at h; simp at h
    | true =>
      rw [t2, if_pos rfl] at h
      obtain rfl : addM b M = A := congrArg Prod.fst h
      have hM : metB M = true := by unfold pendOk at t; simp only [Bool.and_eq_true] at t; exact t.1
      obtain ⟨hs, _⟩ := met_iff.1 hM
      obtain ⟨a1, _, a3⟩ := addM_ent (b := b) hs
      refine ⟨hM, (badF M).isNone, isTreeB_yes hM, ?_⟩
      rw [isTreeB_yes t2]
      congr 1
      have key : badF (addM b M) = none ↔ badF M = none := by
        rw [bad_none, bad_none, a1]
        have e : ∀ i j k l, i < j → j < k → k < l → l < M.length → (goodF (addM b M) i j k l = true ↔ goodF M i j k l = true) := fun i j k l h1 h2 h3 h4 => by
          rw [good_iff, good_iff, a3 i j (by omega) (by omega), a3 k l (by omega) (by omega), a3 i k (by omega) (by omega), a3 j l (by omega) (by omega), a3 i l (by omega) (by omega), a3 j k (by omega) (by omega),
            if_neg (by omega), if_neg (by omega), if_neg (by omega), if_neg (by omega), if_neg (by omega), if_neg (by omega)]
          omega
        exact ⟨fun x i j k l h1 h2 h3 h4 => (e i j k l h1 h2 h3 h4).1 (x i j k l h1 h2 h3 h4), fun x i j k l h1 h2 h3 h4 => (e i j k l h1 h2 h3 h4).2 (x i j k l h1 h2 h3 h4)⟩
      rw [Bool.eq_iff_iff, Option.isNone_iff_eq_none, Option.isNone_iff_eq_none, key]

/-! ### A point less -/
def skp (k a : Nat) : Nat := if a < k then a else a + 1
theorem restL_split {n i : Nat} (h : i < n) : restL n i 0 = List.range' 0 i ++ List.range' (i + 1) (n - 1 - i) := by
  unfold restL
  have e : List.range' 0 (n - 0) = List.range' 0 i ++ (i :: List.range' (i + 1) (n - 1 - i)) := by
    have h1 : List.range' 0 i ++ List.range' (0 + 1 * i) (1 + (n - 1 - i)) = List.range' 0 (i + (1 + (n - 1 - i))) := List.range'_append
    rw [show n - 0 = i + (1 + (n - 1 - i)) by omega, ← h1]
    congr 1
    rw [show 1 + (n - 1 - i) = (n - 1 - i) + 1 by omega, List.range'_succ]
    simp
  rw [e, List.filter_append, List.filter_cons, if_neg (by simp)]
  congr 1
  · rw [List.filter_eq_self]
    intro a ha
    rw [List.mem_range'_1] at ha
    simp; omega
  · rw [List.filter_eq_self]
    intro a ha
    rw [List.mem_range'_1] at ha
    simp; omega
theorem restL_at {n i a : Nat} (h : i < n) (ha : a < n - 1) : (restL n i 0).length = n - 1 ∧ (restL n i 0).getD a 0 = skp i a := by
  rw [restL_split h]
  refine ⟨by simp; omega, ?_⟩
  unfold skp
  by_cases e : a < i
  · simp [List.getD, List.getElem?_append, e]
  · rw [if_neg e]
    have : a - i < n - 1 - i := by omega
    simp [List.getD, List.getElem?_append, e, this]; omega
theorem dropAt_at {l : List Int} {i b : Nat} (h : i < l.length) : (dropAt l i).length = l.length - 1 ∧ (dropAt l i).getD b 0 = l.getD (skp i b) 0 := by
  unfold dropAt skp
  refine ⟨by simp; omega, ?_⟩
  by_cases e : b < i
  · have h1 : b < (l.take i).length := by simp; omega
    simp only [List.getD, List.getElem?_append, List.length_take, e, if_true]
    rw [if_pos (show b < min i l.length by omega), List.getElem?_take, if_pos e]
  · rw [if_neg e]
    have h1 : (l.take i).length = i := by simp; omega
    have h2 : i + 1 + (b - i) = b + 1 := by omega
    simp [List.getD, List.getElem?_append, h1, e, h2]
theorem without_ent {M : List (List Int)} {i : Nat} (hs : sqB M M.length = true) (hi : i < M.length) : (withoutB M i).length = M.length - 1 ∧ sqB (withoutB M i) (M.length - 1) = true ∧ ∀ a b, a < M.length - 1 → b < M.length - 1 → ent (withoutB M i) a b = ent M (skp i a) (skp i b) := by
  have hlen : (restL M.length i 0).length = M.length - 1 := by rw [restL_split hi]; simp; omega
  unfold withoutB
  refine ⟨by rw [List.length_map]; exact hlen, ?_, fun a b ha hb => ?_⟩
  · rw [sqB_iff]
    intro r hr
    obtain ⟨x, hx, rfl⟩ := List.mem_map.1 hr
    have hm := restL_mem hx
    have hl := sqB_len hs (i := x) hm.2.1
    unfold dropAt
    rw [List.length_append, List.length_take, List.length_drop, hl]
    omega
  · have ha' : a < (restL M.length i 0).length := by omega
    have e1 := (restL_at hi ha).2
    have hsk : skp i a < M.length := by unfold skp; split <;> omega
    have hl := sqB_len hs (i := skp i a) hsk
    unfold ent
    have e2 : ((restL M.length i 0).map fun r => dropAt (M.getD r []) i).getD a [] = dropAt (M.getD (skp i a) []) i := by
      rw [← e1]
      simp [List.getD, ha']
    rw [e2, (dropAt_at (by omega)).2]
theorem wto_law {M W : List (List Int)} {i : Int} (h : wtoB M i = (W, true)) : metB M = true ∧ W.length + 1 = M.length ∧ ∃ x y, isTreeB M = (x, true) ∧ isTreeB W = (y, true) ∧ (x = true → y = true) := by
  unfold wtoB at h
  cases t : metB M && (decide (3 ≤ M.length) && inB i 0 (M.length - 1)) with
  | false => rw [t] at h; simp at h
  | true =>
    rw [t, if_pos rfl] at h
    obtain rfl : withoutB M i.toNat = W := congrArg Prod.fst h
    simp only [Bool.and_eq_true, decide_eq_true_eq] at t
    obtain ⟨hM, h3, hi⟩ := t
    have hi := inB_iff.1 hi
    obtain ⟨hs, hm⟩ := met_iff.1 hM
    obtain ⟨w1, w2, w3⟩ := without_ent (i := i.toNat) hs (by omega)
    have hsk : ∀ a, a < M.length - 1 → skp i.toNat a < M.length := fun a ha => by unfold skp; split <;> omega
    have hinj : ∀ a b, a ≠ b → skp i.toNat a ≠ skp i.toNat b := fun a b hne => by unfold skp; split <;> split <;> omega
    have hW : metB (withoutB M i.toNat) = true := met_iff.2 ⟨by rw [w1]; exact w2, by
      rw [w1]
      refine ⟨by have := hm.n7; omega, by have := hm.n7; omega, fun a ha => ?_, fun a b ha hb hne => ?_, fun a b ha hb => ?_, fun a b c ha hb hc => ?_⟩
      · rw [w3 a a ha ha]; exact hm.diag _ (hsk a ha)
      · rw [w3 a b ha hb]; exact hm.far _ _ (hsk a ha) (hsk b hb) (hinj a b hne)
      · rw [w3 a b ha hb, w3 b a hb ha]; exact hm.sym _ _ (hsk a ha) (hsk b hb)
      · rw [w3 a c ha hc, w3 a b ha hb, w3 b c hb hc]; exact hm.tri _ _ _ (hsk a ha) (hsk b hb) (hsk c hc)⟩
    refine ⟨hM, by omega, _, _, isTreeB_yes hM, isTreeB_yes hW, fun hx => ?_⟩
    rw [isNone_iff hM] at hx
    rw [isNone_iff hW, w1]
    intro a b c d ha hb hc hd
    have := hx (skp i.toNat a) (skp i.toNat b) (skp i.toNat c) (skp i.toNat d) (hsk a ha) (hsk b hb) (hsk c hc) (hsk d hd)
    unfold Four at this ⊢
    rw [w3 a b ha hb, w3 c d hc hd, w3 a c ha hc, w3 b d hb hd, w3 a d ha hd, w3 b c hb hc]
    exact this
end Go.Proofs.YtnkbfgnmodfemaaGreatDoor

/- Metrics, plain: bad four points, ultrametrics are tree metrics, cherries, ends, nearest points. -/
namespace Go.Proofs.YtnkbfgnmodfemaaGreatDoor
open Go.RowKit

theorem bad_some {M : List (List Int)} {r : List Int} (h : badF M = some r) : ∃ i j k l : Nat, r = [(i : Int), (j : Int), (k : Int), (l : Int)] ∧ i < j ∧ j < k ∧ k < l ∧ l < M.length ∧ goodF M i j k l = false := by
  unfold badF badI badJ badK at h
  obtain ⟨i, _, h2, h⟩ := findFrom_or h
  obtain ⟨j, h3, h4, h⟩ := findFrom_or h
  obtain ⟨k, h5, h6, h⟩ := findFrom_or h
  obtain ⟨l, h7, h8, h⟩ := findFrom_or h
  cases t : goodF M i j k l with
  | true => rw [badL_yes t] at h; cases h
  | false => rw [badL_no t] at h; exact ⟨i, j, k, l, (Option.some.inj h).symm, by omega, by omega, by omega, h8, t⟩
/-- the greatest so far, and how often it was there -/
def mcL : List Int → Int → Int → Int × Int
  | [], m, c => (m, c)
  | x :: xs, m, c => if m < x then mcL xs x 1 else if x = m then mcL xs m (c + 1) else mcL xs m c
theorem mc_three {a b c : Int} (ha : 0 < a) (hb : 0 < b) (hc : 0 < c) (h : tw3 a b c = false) : (mcL [a, b, c] 0 0).2 = 1 := by
  have hn : ¬ (a ≤ max b c ∧ b ≤ max a c ∧ c ≤ max a b) := fun x => by rw [tw3_iff.2 x] at h; cases h
  simp only [mcL]
  split
  · split
    · split
      · rfl
      · split
        · exfalso; omega
        · rfl
    · split
      · split
        · rfl
        · split <;> (exfalso; omega)
      · split
        · rfl
        · split
          · exfalso; omega
          · rfl
  · exfalso; omega
theorem bad_sums {M : List (List Int)} (h : metB M = true) {i j k l : Nat} (h1 : i < j) (h2 : j < k) (h3 : k < l) (h4 : l < M.length) (hg : goodF M i j k l = false) : (mcL (sumsL M i j k l) 0 0).2 = 1 := by
  obtain ⟨_, hm⟩ := met_iff.1 h
  unfold sumsL sumA
  have a1 := hm.far i j (by omega) (by omega) (by omega)
  have a2 := hm.far k l (by omega) (by omega) (by omega)
  have a3 := hm.far i k (by omega) (by omega) (by omega)
  have a4 := hm.far j l (by omega) (by omega) (by omega)
  have a5 := hm.far i l (by omega) (by omega) (by omega)
  have a6 := hm.far j k (by omega) (by omega) (by omega)
  exact mc_three (by omega) (by omega) (by omega) hg
/-- an ultrametric is a tree metric -/
theorem ult_tree {n : Nat} {m : Nat → Nat → Int} (hm : Met n m) (h : Ult n m) : Tree n m := by
  intro i j k l hi hj hk hl
  have u := fun a b c (ha : a < n) (hb : b < n) (hc : c < n) => h a b c ha hb hc
  have s1 := hm.sym i j hi hj; have s2 := hm.sym i k hi hk; have s3 := hm.sym i l hi hl
  have s4 := hm.sym j k hj hk; have s5 := hm.sym j l hj hl; have s6 := hm.sym k l hk hl
  have a1 := u i k j hi hk hj; have a2 := u i j k hi hj hk; have a3 := u j i k hj hi hk
  have b1 := u i l j hi hl hj; have b2 := u i j l hi hj hl; have b3 := u j i l hj hi hl
  have c1 := u i l k hi hl hk; have c2 := u i k l hi hk hl; have c3 := u k i l hk hi hl
  have d1 := u j l k hj hl hk; have d2 := u j k l hj hk hl; have d3 := u k j l hk hj hl
  unfold Four
  omega
theorem ult_tree_b {M : List (List Int)} (h : metB M = true) (hu : utrB M = true) : (badF M).isNone = true :=
  (isNone_iff h).2 (ult_tree (met_iff.1 h).2 ((utr_iff h).1 hu))

/-! ### Cherries -/
/-- the differences of the distances from two points, from the point k on; s: the first one, if there was one -/
def cheR (M : List (List Int)) (i j : Nat) : Nat → Nat → Option Int → Bool
  | 0, _, _ => true
  | d + 1, k, s => if k = i ∨ k = j then cheR M i j d (k + 1) s else match s with
    | none => cheR M i j d (k + 1) (some (ent M i k - ent M j k))
    | some y => if ent M i k - ent M j k = y then cheR M i j d (k + 1) (some y) else false
/-- two points are a cherry -/
def cheP (M : List (List Int)) (i j : Nat) : Bool := cheR M i j M.length 0 none
/-- all cherries -/
def cheL (M : List (List Int)) : List (List Int) := (List.range M.length).flatMap fun i => ((List.range' (i + 1) (M.length - (i + 1))).filter (cheP M i)).map fun (j : Nat) => [(i : Int), (j : Int)]
theorem che_all {M : List (List Int)} {i j : Nat} {y : Int} (h : ∀ k, k < M.length → k ≠ i → k ≠ j → ent M i k - ent M j k = y) : ∀ (d k : Nat) (s : Option Int), k + d ≤ M.length → (s = none ∨ s = some y) → cheR M i j d k s = true
  | 0, _, _, _, _ => rfl
  | d + 1, k, s, hk, hs => by
    unfold cheR
    by_cases e : k = i ∨ k = j
    · rw [if_pos e]; exact che_all h d (k + 1) s (by omega) hs
    · rw [if_neg e]
      have e1 := h k (by omega) (fun x => e (.inl x)) (fun x => e (.inr x))
      rcases hs with rfl | rfl
      · show cheR M i j d (k + 1) (some (ent M i k - ent M j k)) = true
        rw [e1]; exact che_all h d (k + 1) _ (by omega) (.inr rfl)
      · show (if ent M i k - ent M j k = y then cheR M i j d (k + 1) (some y) else false) = true
        rw [if_pos e1]; exact che_all h d (k + 1) _ (by omega) (.inr rfl)
theorem max_of {n : Nat} {f : Nat → Int} {p : Nat → Prop} (h : ∃ i, i < n ∧ p i) : ∃ i, i < n ∧ p i ∧ ∀ j, j < n → p j → f j ≤ f i := by
  induction n with
  | zero => obtain ⟨i, hi, _⟩ := h; omega
  | succ n ih =>
    by_cases hn : ∃ i, i < n ∧ p i
    · obtain ⟨i, h1, h2, h3⟩ := ih hn
      by_cases hp : p n ∧ f i < f n
      · refine ⟨n, by omega, hp.1, fun j hj hpj => ?_⟩
        by_cases e : j = n
        · rw [e]; exact Int.le_refl _
        · have := h3 j (by omega) hpj; omega
      · refine ⟨i, by omega, h2, fun j hj hpj => ?_⟩
        by_cases e : j = n
        · subst e; exact Int.not_lt.1 fun x => hp ⟨hpj, x⟩
        · exact h3 j (by omega) hpj
    · obtain ⟨i, h1, h2⟩ := h
      have : i = n := Classical.byContradiction fun e => hn ⟨i, by omega, h2⟩
      subst this
      refine ⟨i, h1, h2, fun j hj hpj => ?_⟩
      by_cases e : j = i
      · rw [e]; exact Int.le_refl _
      · exact (hn ⟨j, by omega, hpj⟩).elim
/-- the two points that are joined farthest from the first -/
theorem cherry_ex {n : Nat} {m : Nat → Nat → Int} (hm : Met n m) (ht : Tree n m) (h3 : 3 ≤ n) : ∃ i j, i < j ∧ j < n ∧ ∃ y, ∀ k, k < n → k ≠ i → k ≠ j → m i k - m j k = y := by
  let g : Nat → Nat → Int := fun i j => m 0 i + m 0 j - m i j
  -- for each i the best partner
  have hb : ∀ i, ∃ j, 1 ≤ i ∧ i < n → j < n ∧ (1 ≤ j ∧ j ≠ i) ∧ ∀ k, k < n → (1 ≤ k ∧ k ≠ i) → g i k ≤ g i j := fun i => by
    by_cases hi : 1 ≤ i ∧ i < n
    · obtain ⟨j, a, b, c⟩ := max_of (n := n) (f := g i) (p := fun j => 1 ≤ j ∧ j ≠ i) (by
        by_cases e : i = 1
        · exact ⟨2, by omega, by omega, by omega⟩
        · exact ⟨1, by omega, by omega, by omega⟩)
      exact ⟨j, fun _ => ⟨a, b, c⟩⟩
    · exact ⟨0, fun h => (hi h).elim⟩
  obtain ⟨p, hp⟩ := Classical.axiomOfChoice hb
  obtain ⟨i, i1, i2, i3⟩ := max_of (n := n) (f := fun i => g i (p i)) (p := fun i => 1 ≤ i) ⟨1, by omega, by omega⟩
  obtain ⟨j1, ⟨j2, j3⟩, j4⟩ := hp i ⟨i2, i1⟩
  obtain ⟨j, hj⟩ : ∃ j, p i = j := ⟨_, rfl⟩
  have i3 : ∀ a b, 1 ≤ a → a < n → 1 ≤ b → b < n → a ≠ b → g a b ≤ g i j := fun a b a1 a2 b1 b2 hab => by
    have h1 := (hp a ⟨a1, a2⟩).2.2 b b2 ⟨b1, fun e => hab e.symm⟩
    have h2 := i3 a a2 a1
    rw [← hj]
    omega
  rw [hj] at j1 j2 j3
  have key : ∀ k, k < n → k ≠ i → k ≠ j → m i k - m j k = m 0 i - m 0 j := fun k hk hki hkj => by
    have s1 := hm.sym 0 i (by omega) i1
    have s2 := hm.sym 0 j (by omega) j1
    by_cases e : k = 0
    · subst e
      omega
    · have c1 := i3 i k i2 i1 (by omega) hk (fun x => hki x.symm)
      have c2 := i3 j k j2 j1 (by omega) hk (fun x => hkj x.symm)
      have f := ht 0 i j k (by omega) i1 j1 hk
      unfold Four at f
      simp only [g] at c1 c2
      omega
  rcases Nat.lt_or_gt_of_ne j3 with h | h
  · refine ⟨j, i, h, i1, m 0 j - m 0 i, fun k hk h1 h2 => ?_⟩
    have := key k hk h2 h1
    omega
  · exact ⟨i, j, h, j1, _, fun k hk h1 h2 => key k hk h1 h2⟩
theorem che_ne {M : List (List Int)} (h : metB M = true) (ht : (badF M).isNone = true) (h3 : 3 ≤ M.length) : cheL M ≠ [] := by
  obtain ⟨i, j, h1, h2, y, h4⟩ := cherry_ex (met_iff.1 h).2 ((isNone_iff h).1 ht) h3
  have hc : cheP M i j = true := che_all h4 _ _ _ (by omega) (.inl rfl)
  have : [(i : Int), (j : Int)] ∈ cheL M := by
    unfold cheL
    rw [List.mem_flatMap]
    refine ⟨i, by rw [List.mem_range]; omega, List.mem_map.2 ⟨j, List.mem_filter.2 ⟨by rw [List.mem_range'_1]; omega, hc⟩, rfl⟩⟩
  intro e
  rw [e] at this
  simp at this

/-! ### Ends and nearest points -/
theorem near_all (i : Nat) : ∀ (ns : List Int) (k : Nat) (a b : Int), (nearL i k a b ns).2 ≤ b ∧ (∀ x, x < ns.length → k + x ≠ i → (nearL i k a b ns).2 ≤ ns.getD x 0) ∧
    ((nearL i k a b ns = (a, b) ∧ ∀ x, x < ns.length → k + x ≠ i → b ≤ ns.getD x 0) ∨ ∃ x, x < ns.length ∧ k + x ≠ i ∧ (nearL i k a b ns).1 = ((k + x : Nat) : Int) ∧ (nearL i k a b ns).2 = ns.getD x 0)
  | [], k, a, b => ⟨Int.le_refl _, fun x h => by simp at h, .inl ⟨rfl, fun x h => by simp at h⟩⟩
  | n :: ns, k, a, b => by
    have shift : ∀ (a' b' : Int), nearL i k a b (n :: ns) = nearL i (k + 1) a' b' ns → (b' ≤ b) → (k ≠ i → b' ≤ n) → ((a' = a ∧ b' = b ∧ (k ≠ i → b ≤ n)) ∨ (a' = (k : Int) ∧ b' = n ∧ k ≠ i)) →
        (nearL i k a b (n :: ns)).2 ≤ b ∧ (∀ x, x < (n :: ns).length → k + x ≠ i → (nearL i k a b (n :: ns)).2 ≤ (n :: ns).getD x 0) ∧
        ((nearL i k a b (n :: ns) = (a, b) ∧ ∀ x, x < (n :: ns).length → k + x ≠ i → b ≤ (n :: ns).getD x 0) ∨ ∃ x, x < (n :: ns).length ∧ k + x ≠ i ∧ (nearL i k a b (n :: ns)).1 = ((k + x : Nat) : Int) ∧ (nearL i k a b (n :: ns)).2 = (n :: ns).getD x 0) := by
      intro a' b' he hb hn hor
      obtain ⟨h1, h2, h3⟩ := near_all i ns (k + 1) a' b'
      rw [he]
      refine ⟨by omega, fun x hx hne => ?_, ?_⟩
      · cases x with
        | zero => have := hn (by omega); simp; omega
        | succ x => have := h2 x (by simp at hx; omega) (by omega); simpa using this
      · rcases h3 with ⟨h3, h4⟩ | ⟨x, hx, hne, e1, e2⟩
        · rcases hor with ⟨rfl, rfl, hbn⟩ | ⟨rfl, rfl, hki⟩
          · refine .inl ⟨h3, fun x hx hne => ?_⟩
            cases x with
            | zero => exact hbn (by omega)
            | succ x => have := h4 x (by simp at hx; omega) (by omega); simpa using this
          · refine .inr ⟨0, by simp, by omega, ?_, ?_⟩
            · rw [h3]; simp
            · rw [h3]; simp
        · refine .inr ⟨x + 1, by simp; omega, by omega, ?_, ?_⟩
          · rw [e1]; congr 1; omega
          · rw [e2]; simp
    by_cases e : k = i
    · exact shift a b (nearL_own i k a b n ns e) (Int.le_refl _) (fun h => (h e).elim) (.inl ⟨rfl, rfl, fun h => (h e).elim⟩)
    · by_cases h : n < b
      · exact shift k n (nearL_less i k a b n ns e h) (by omega) (fun _ => Int.le_refl _) (.inr ⟨rfl, rfl, e⟩)
      · exact shift a b (nearL_more i k a b n ns e h) (Int.le_refl _) (fun _ => by omega) (.inl ⟨rfl, rfl, fun _ => by omega⟩)
/-- what the law asks of ends and nearest points -/
theorem near_law {M : List (List Int)} {i : Int} {x y : Int} (h : nearB M i = ((x, y), true)) : metB M = true ∧ ∃ j k : Nat, i = j ∧ x = k ∧ j < M.length ∧ k < M.length ∧ k ≠ j ∧ y = ent M j k ∧ 1 ≤ y ∧ y ≤ 10000 ∧ ∀ l, l < M.length → l ≠ j → y ≤ ent M j l := by
  unfold nearB at h
  cases t : metB M && inB i 0 (M.length - 1) with
  | false => rw [t] at h; simp at h
  | true =>
    rw [t, if_pos rfl] at h
    simp only [Bool.and_eq_true] at t
    obtain ⟨hM, hi⟩ := t
    have hi := inB_iff.1 hi
    obtain ⟨hs, hm⟩ := met_iff.1 hM
    obtain ⟨j, rfl⟩ : ∃ j : Nat, i = j := ⟨i.toNat, by omega⟩
    have hj : j < M.length := by omega
    simp only [Int.toNat_natCast] at h
    have hlen := sqB_len hs hj
    obtain ⟨_, h2, h3⟩ := near_all j (M.getD j []) 0 0 1000000000
    have hr := congrArg Prod.fst h
    have hx : nearL j 0 0 1000000000 (M.getD j []) = (x, y) := hr
    rw [hx] at h2 h3
    rcases h3 with ⟨h3, h4⟩ | ⟨k, hk, hne, e1, e2⟩
    · exfalso
      obtain ⟨l, hl, hlj⟩ : ∃ l, l < M.length ∧ l ≠ j := by
        by_cases e : j = 0
        · exact ⟨1, by have := hm.n2; omega, by omega⟩
        · exact ⟨0, by omega, fun x => e x.symm⟩
      have a := h4 l (by omega) (by omega)
      have b := (hm.far j l hj hl (fun e => hlj e.symm)).2
      unfold ent at b
      omega
    · have hkn : k < M.length := by omega
      have hkj : k ≠ j := by omega
      have far := hm.far j k hj hkn (fun e => hkj e.symm)
      have ey : y = ent M j k := e2
      refine ⟨hM, j, k, rfl, by simpa using e1, hj, hkn, hkj, ey, by omega, by omega, fun l hl hlj => h2 l (by omega) (by omega)⟩
theorem end_law {M : List (List Int)} {i : Int} {x : Int} (h : endB M i = (x, true)) : ∃ p y, nearB M i = ((p, y), true) ∧ 0 ≤ x ∧ x ≤ 2 * y := by
  unfold endB at h
  cases t : metB M && (decide (3 ≤ M.length) && inB i 0 ((M.length : Int) - 1)) with
  | false => rw [t] at h; simp at h
  | true =>
    rw [t, if_pos rfl] at h
    have hx : endS M i.toNat = x := congrArg Prod.fst h
    simp only [Bool.and_eq_true, decide_eq_true_eq] at t
    obtain ⟨hM, h3, hi⟩ := t
    have hn : ∃ r, nearB M i = (r, true) := by
      unfold nearB
      rw [hM, hi]; exact ⟨_, rfl⟩
    obtain ⟨⟨p, y⟩, hn⟩ := hn
    obtain ⟨_, j, k, rfl, rfl, hj, hk, hkj, ey, y1, y2, _⟩ := near_law hn
    obtain ⟨_, hm⟩ := met_iff.1 hM
    simp only [Int.toNat_natCast] at hx
    refine ⟨_, y, hn, ?_, ?_⟩
    · rw [← hx]
      refine endS_le.2 ⟨by omega, fun a ha b hb h1 h2 h4 => ?_⟩
      unfold endV
      have := hm.tri a j b ha hj hb
      have s := hm.sym a j ha hj
      omega
    · have hle := (endS_le (M := M) (i := j) (b := endS M j)).1 (Int.le_refl _)
      obtain ⟨l, hl, hlj, hlk⟩ : ∃ l, l < M.length ∧ l ≠ j ∧ l ≠ k := by
        by_cases c0 : j ≠ 0 ∧ k ≠ 0
        · exact ⟨0, by omega, fun e => c0.1 e.symm, fun e => c0.2 e.symm⟩
        · by_cases c1 : j ≠ 1 ∧ k ≠ 1
          · exact ⟨1, by omega, fun e => c1.1 e.symm, fun e => c1.2 e.symm⟩
          · exact ⟨2, by omega, by omega, by omega⟩
      have := hle.2 k hk l hl hkj hlj (fun e => hlk e.symm)
      unfold endV at this
      have t := hm.tri j k l hj hk hl
      rw [hx] at this
      omega
theorem near_no_end {M : List (List Int)} {i : Int} (h : (nearB M i).2 = false) : endB M i = (0, false) := by
  unfold nearB at h
  unfold endB
  cases t : metB M && inB i 0 (M.length - 1) with
  | true => rw [t] at h; simp at h
  | false =>
    have : (metB M && (decide (3 ≤ M.length) && inB i 0 ((M.length : Int) - 1))) = false := by
      cases a : metB M <;> cases b : inB i 0 ((M.length : Int) - 1) <;> rw [a, b] at t <;> simp_all
    rw [this]; rfl
end Go.Proofs.YtnkbfgnmodfemaaGreatDoor

/- SplitLengths of both programs. -/
namespace Go.Proofs.YtnkbfgnmodfemaaGreatDoor
open Go.RowKit
open Go.Lib (hid)

def RetIntsT (w : World) (p : List Int × Bool) (e : Ending) (w' : World) : Prop := ∃ v, e = .returned (.tuple #[v, .bool p.2]) ∧ FInts w' w.heap.size w'.heap.size v p.1 ∧ Below w.heap.size w w'
def lengthsB (M : List (List Int)) : List Int × Bool := if treeB M then ((splL M).map (lenF M), true) else ([], false)
theorem lengthsB_yes {M : List (List Int)} (h : treeB M = true) : lengthsB M = ((splL M).map (lenF M), true) := by rw [lengthsB, h]; rfl
theorem lengthsB_no {M : List (List Int)} (h : treeB M = false) : lengthsB M = ([], false) := by rw [lengthsB, h]; rfl
theorem lengths_len (M : List (List Int)) : (lengthsB M).1.length ≤ 128 := by
  rcases Bool.eq_false_or_eq_true (treeB M) with t | t
  · rw [lengthsB_yes t]; simpa using (splL_small t).1
  · rw [lengthsB_no t]; simp

set_option maxHeartbeats 1000000 in
theorem iSplitLengths_u (v : Value) (M : List (List Int)) (w : World) (h : RMat w v M) :
    Calls Tryz.prog 7 #[v] w (RetIntsT w (lengthsB M)) := by
  rcases Bool.eq_false_or_eq_true (treeB M) with t | t
  · have HM := hid (lengthsB_yes t)
    have HT := hid t
    go_enter Tryz.func7, Tryz.ntmps7
    go_wp2_with fail
    refine (isTreeMetric_c _ M _ h).mono ?_
    rintro e w1 ⟨rfl, hb1⟩
    rw [t]
    have h1 := h.keep hb1
    have HB1 := hid hb1
    clear hb1
    go_wp2_with fail
    refine (splits_c _ M _ (treeB_met HT.out) h1).mono ?_
    rintro e w2 ⟨u, u2, rfl, _, hF, hb2⟩
    have HF := hid (hF.mono HB1.out.size (Nat.le_refl _))
    have HB2 := hid (HB1.out.trans (hb2.mono HB1.out.size))
    clear hF hb2
    go_wp2
    go_ret2
    exact ⟨u2, by rw [HM.out]; rfl, by rw [HM.out]; exact HF.out, HB2.out⟩
  · have HM := hid (lengthsB_no t)
    go_enter Tryz.func7, Tryz.ntmps7
    go_wp2_with fail
    refine (isTreeMetric_c _ M _ h).mono ?_
    rintro e w1 ⟨rfl, hb1⟩
    rw [t]
    go_wp2
    go_ret2
    exact ⟨_, by rw [HM.out]; rfl, by rw [HM.out]; exact ints_nil _ _ _, hb1⟩

theorem spl_in {M : List (List Int)} (hm : metB M = true) {s : List Int} (h : s ∈ splL M) : (∀ x ∈ s, 0 ≤ x ∧ x < (M.length : Int)) ∧ s.length ≤ 1048576 := by
  have hp := metB_parts hm
  have := sides_in (List.mem_filter.1 h).1 (show 1 ≤ M.length by omega)
  exact ⟨this.1, by omega⟩

set_option maxRecDepth 100000 in
set_option maxHeartbeats 2000000 in
theorem sSplitLengths_u (v : Value) (M : List (List Int)) (w : World) (h : RMat w v M) :
    Calls Tryz.prog 8 #[v] w (RetIntsT w (lengthsB M)) := by
  rcases Bool.eq_false_or_eq_true (treeB M) with t | t
  · have HM := hid (lengthsB_yes t)
    have HT := hid (treeB_met t)
    have HSM := hid (splL_small t).1
    go_enter Tryz.func8, Tryz.ntmps8
    go_wp2_with fail
    refine (slTree_c _ M _ h).mono ?_
    rintro e w1 ⟨rfl, hb1⟩
    rw [t]
    have H1 := hid (h.keep hb1)
    have HB1 := hid hb1
    clear hb1
    go_wp2_with fail
    refine (slOf_c _ M _ HT.out H1.out).mono ?_
    rintro e w2 ⟨u, rfl, hF, hb2⟩
    have H2 := hid (H1.out.keep hb2)
    have HB2 := hid (HB1.out.trans (hb2.mono HB1.out.size))
    obtain ⟨L, hL⟩ : ∃ L, splL M = L := ⟨_, rfl⟩
    have HIN : Hid (∀ s ∈ L, (∀ x ∈ s, 0 ≤ x ∧ x < (M.length : Int)) ∧ s.length ≤ 1048576) := fun s hs => spl_in HT.out (by rw [hL]; exact hs)
    rw [hL] at hF HM HSM
    have hsm := HSM.out
    have HFR := hid hF.r
    obtain ⟨a, cap, rfl⟩ := hF.form
    clear hF hb2 hL
    go_wp2
    go_loopg [4, 13] L.length (fun gk o iv wr => ∃ k : Nat, ∃ acc : List Int, k ≤ L.length ∧ gk = L.length - k ∧ iv = .int .i64 k ∧ acc.length ≤ k ∧ L.map (lenF M) = acc ++ (L.drop k).map (lenF M) ∧ FInts wr w2.heap.size wr.heap.size o acc ∧ Below w2.heap.size w2 wr)
    case atStart => exact ⟨0, [], Nat.zero_le _, rfl, rfl, Nat.zero_le _, rfl, ints_nil _ _ _, Below.refl _ _⟩
    case round =>
      obtain ⟨k, acc, hk, rfl, rfl, hacc, hr, hF, hb⟩ := hrel
      have HRR := hid hr
      have HB := hid hb
      obtain ⟨ao, co, rfl⟩ := hF.form
      have HF := hid hF
      clear hr hb hF
      by_cases hlt : k < L.length
      · have hltz : (k : Int) < (L.length : Int) := by omega
        obtain ⟨a', cap', hv, _, _, hc⟩ := HFR.out.keep HB.out
        simp only [Value.slice.injEq, true_and] at hv
        obtain ⟨rfl, rfl⟩ := hv
        obtain ⟨g, o, r, y, rfl, hcell, hy, HD, HX⟩ := mat_at hc hlt
        have HRZ := hid hy
        have HSI := hid (HIN.out y (by rw [← HX.out]; simp [List.getD, List.getElem?_eq_getElem hlt]))
        have H3 := H2.out.keep HB.out
        have HST : Hid (L.map (lenF M) = acc ++ lenF M y :: (L.drop (k + 1)).map (lenF M)) := by show _ = _; rw [HRR.out, HD.out]; rfl
        clear hc hy
        go_wp2_with fail
        refine (slTwice_c _ _ M y _ HT.out H3 HRZ.out HSI.out.1 HSI.out.2).mono ?_
        rintro e w3 ⟨rfl, hb3⟩
        obtain ⟨q, hq⟩ : ∃ q, lenF M y = q := ⟨_, rfl⟩
        rw [hq] at HST ⊢
        have hF3 := (HF.out.keep hb3).mono (Nat.le_refl _) hb3.size
        have hB3 := HB.out.trans (hb3.mono HB.out.size)
        obtain ⟨p1, p2, p3, p4, p5⟩ := push_round2 q (by omega) hF3 hB3 hB3.size
        have P5 := hid p5
        clear hF3 hB3 hb3 hcell H3 p5 hq
        go_wp2_with (at_builtin; refine wpList_append_ints rfl _ _ rfl _ _ _ _ _ [q] rfl rfl p1 p2 p3 p4 ?_; intro v' w' hF' hg hn')
        go_roundg (L.length - (k + 1))
        case rel => exact ⟨k + 1, acc ++ [q], by omega, rfl, by go_num, by simp; omega, by rw [HST.out, List.append_assoc]; rfl, hF', P5.out _ hg⟩
        case measure => omega
      · have HST : Hid (L.map (lenF M) = acc) := by show _ = _; rw [HRR.out, List.drop_eq_nil_of_le (show L.length ≤ k by omega)]; simp
        go_wp2
        go_ret2
        exact ⟨_, by rw [HM.out]; rfl, by rw [HM.out, HST.out]; exact HF.out.mono HB2.out.size (Nat.le_refl _), HB2.out.trans (HB.out.mono HB2.out.size)⟩
  · have HM := hid (lengthsB_no t)
    go_enter Tryz.func8, Tryz.ntmps8
    go_wp2_with fail
    refine (slTree_c _ M _ h).mono ?_
    rintro e w1 ⟨rfl, hb1⟩
    rw [t]
    go_wp2
    go_ret2
    exact ⟨_, by rw [HM.out]; rfl, by rw [HM.out]; exact ints_nil _ _ _, hb1⟩

end Go.Proofs.YtnkbfgnmodfemaaGreatDoor

/- TwiceTreeLength of both programs. -/
namespace Go.Proofs.YtnkbfgnmodfemaaGreatDoor
open Go.RowKit
open Go.Lib (hid)

def sumI : List Int → Int
  | [] => 0
  | x :: xs => x + sumI xs
theorem sumI_cons (x : Int) (xs : List Int) : sumI (x :: xs) = x + sumI xs := rfl
theorem sumI_nil : sumI [] = 0 := rfl
theorem sumI_range {b : Int} : ∀ (l : List Int), (∀ x ∈ l, 0 ≤ x ∧ x ≤ b) → 0 ≤ sumI l ∧ sumI l ≤ b * l.length := by
  intro l
  induction l with
  | nil => intro _; simp [sumI]
  | cons x xs ih =>
    intro h
    have h1 := ih (fun y hy => h y (List.mem_cons_of_mem _ hy))
    have h2 := h x (List.mem_cons_self ..)
    rw [sumI_cons, List.length_cons]
    have h3 : b * ((xs.length + 1 : Nat) : Int) = b * xs.length + b := by rw [Int.natCast_add, Int.mul_add]; simp
    omega

theorem lfold_le (f : Int → Int → Int) (hf : ∀ x s, f x s ≤ s) : ∀ (l : List Int) (s : Int), lfold f l s ≤ s := by
  intro l
  induction l with
  | nil => intro s; exact Int.le_refl _
  | cons x xs ih => intro s; rw [lfold_cons]; exact Int.le_trans (ih _) (hf x s)
theorem lenF_range (M : List (List Int)) (S : List Int) : 0 ≤ lenF M S ∧ lenF M S ≤ 1000000000 := by
  have h1 := lfold_le (lenA M S (othF M.length S)) (fun a s => lfold_le _ (fun b s => lfold_le _ (fun c s => lfold_le _ (fun d s => by rw [lenD]; omega) _ s) _ s) _ s) S 1000000000
  rw [lenF]
  omega

def treeLenB (M : List (List Int)) : Int × Bool := if treeB M then (sumI ((splL M).map (lenF M)), true) else (0, false)
theorem treeLenB_yes {M : List (List Int)} (h : treeB M = true) : treeLenB M = (sumI ((splL M).map (lenF M)), true) := by rw [treeLenB, h]; rfl
theorem treeLenB_no {M : List (List Int)} (h : treeB M = false) : treeLenB M = (0, false) := by rw [treeLenB, h]; rfl

set_option maxHeartbeats 1000000 in
theorem total_c (v : Value) (l : List Int) (w : World) (h : RInts w v l) (hl : l.length ≤ 128) (hr : ∀ x ∈ l, 0 ≤ x ∧ x ≤ 1000000000) :
    Calls Tryz.prog 31 #[v] w fun e w' => e = .returned (.int .i64 (sumI l)) ∧ w = w' := by
  obtain ⟨a, cap, rfl, h1, h2, hc⟩ := h
  unfold maxLen at h2
  have HRG := hid hr
  clear hr
  go_enter Tryz.func31, Tryz.ntmps31
  go_wp2
  go_loopg [3, 8] l.length (fun gk sv iv wr => ∃ k : Nat, ∃ s : Int, k ≤ l.length ∧ gk = l.length - k ∧ iv = .int .i64 k ∧ sv = .int .i64 s ∧ sumI l = s + sumI (l.drop k) ∧ 0 ≤ s ∧ s ≤ 1000000000 * k ∧ wr = w)
  case atStart => exact ⟨0, 0, Nat.zero_le _, rfl, rfl, rfl, by simp, by omega, by omega, rfl⟩
  case round =>
    obtain ⟨k, s, hk, rfl, rfl, rfl, hr, hs0, hs1, rfl⟩ := hrel
    have HRR := hid hr
    clear hr
    by_cases hlt : k < l.length
    · have hltz : (k : Int) < (l.length : Int) := by omega
      obtain ⟨g, o, x, rfl, hcell, HD, HX⟩ := ints_at hc hlt
      have hx := HRG.out x (by rw [← HX.out]; simp [List.getD, List.getElem?_eq_getElem hlt])
      have HST : Hid (sumI l = s + x + sumI (l.drop (k + 1))) := by show _ = _; rw [HRR.out, HD.out, sumI_cons]; omega
      have HC := hid hc
      have f1 : IntKind.i64.wrap (s + x) = s + x := IntWalk.i64_in _ (by omega)
      clear hc
      go_wp2
      go_roundg (l.length - (k + 1))
      case rel => exact ⟨k + 1, s + x, by omega, rfl, by go_num, rfl, HST.out, by omega, by omega, rfl⟩
      case measure => omega
    · have HST : Hid (sumI l = s) := by show _ = _; rw [HRR.out, List.drop_eq_nil_of_le (show l.length ≤ k by omega), sumI_nil]; omega
      go_wp2
      go_ret
      exact ⟨ret_int (by rw [HST.out]), rfl⟩

theorem lens_range (M : List (List Int)) : ∀ x ∈ (splL M).map (lenF M), 0 ≤ x ∧ x ≤ 1000000000 := fun x hx => by
  obtain ⟨s, _, rfl⟩ := List.mem_map.1 hx
  exact lenF_range M s

set_option maxHeartbeats 1000000 in
theorem iTwiceTreeLength_u (v : Value) (M : List (List Int)) (w : World) (h : RMat w v M) :
    Calls Tryz.prog 9 #[v] w fun e w' => e = .returned (.tuple #[.int .i64 (treeLenB M).1, .bool (treeLenB M).2]) ∧ Below w.heap.size w w' := by
  rcases Bool.eq_false_or_eq_true (treeB M) with t | t
  · have HM := hid (treeLenB_yes t)
    have HT := hid t
    go_enter Tryz.func9, Tryz.ntmps9
    go_wp2_with fail
    refine (isTreeMetric_c _ M _ h).mono ?_
    rintro e w1 ⟨rfl, hb1⟩
    rw [t]
    have h1 := h.keep hb1
    have HB1 := hid hb1
    clear hb1
    go_wp2_with fail
    refine (splits_c _ M _ (treeB_met HT.out) h1).mono ?_
    rintro e w2 ⟨u, u2, rfl, _, hF, hb2⟩
    have HF := hid hF.r
    have HB2 := hid (HB1.out.trans (hb2.mono HB1.out.size))
    clear hF hb2
    go_wp2_with (go_at_call 31; refine (total_c _ _ _ HF.out (by rw [List.length_map]; exact (splL_small HT.out).1) (lens_range M)).mono ?_; rintro e w' ⟨rfl, rfl⟩)
    go_ret2
    exact ⟨by rw [HM.out]; rfl, HB2.out⟩
  · have HM := hid (treeLenB_no t)
    go_enter Tryz.func9, Tryz.ntmps9
    go_wp2_with fail
    refine (isTreeMetric_c _ M _ h).mono ?_
    rintro e w1 ⟨rfl, hb1⟩
    rw [t]
    go_wp2
    go_ret2
    exact ⟨by rw [HM.out]; rfl, hb1⟩

set_option maxRecDepth 100000 in
set_option maxHeartbeats 2000000 in
theorem sTwiceTreeLength_u (v : Value) (M : List (List Int)) (w : World) (h : RMat w v M) :
    Calls Tryz.prog 10 #[v] w fun e w' => e = .returned (.tuple #[.int .i64 (treeLenB M).1, .bool (treeLenB M).2]) ∧ Below w.heap.size w w' := by
  rcases Bool.eq_false_or_eq_true (treeB M) with t | t
  · have HM := hid (treeLenB_yes t)
    have HT := hid (treeB_met t)
    have HSM := hid (splL_small t).1
    go_enter Tryz.func10, Tryz.ntmps10
    go_wp2_with fail
    refine (slTree_c _ M _ h).mono ?_
    rintro e w1 ⟨rfl, hb1⟩
    rw [t]
    have H1 := hid (h.keep hb1)
    have HB1 := hid hb1
    clear hb1
    go_wp2_with fail
    refine (slOf_c _ M _ HT.out H1.out).mono ?_
    rintro e w2 ⟨u, rfl, hF, hb2⟩
    have H2 := hid (H1.out.keep hb2)
    have HB2 := hid (HB1.out.trans (hb2.mono HB1.out.size))
    obtain ⟨L, hL⟩ : ∃ L, splL M = L := ⟨_, rfl⟩
    have HIN : Hid (∀ s ∈ L, (∀ x ∈ s, 0 ≤ x ∧ x < (M.length : Int)) ∧ s.length ≤ 1048576) := fun s hs => spl_in HT.out (by rw [hL]; exact hs)
    rw [hL] at hF HM HSM
    have hsm := HSM.out
    have HFR := hid hF.r
    obtain ⟨a, cap, rfl⟩ := hF.form
    clear hF hb2 hL
    go_wp2
    go_loopg [4, 13] L.length (fun gk sv iv wr => ∃ k : Nat, ∃ s : Int, k ≤ L.length ∧ gk = L.length - k ∧ iv = .int .i64 k ∧ sv = .int .i64 s ∧ sumI (L.map (lenF M)) = s + sumI ((L.drop k).map (lenF M)) ∧ 0 ≤ s ∧ s ≤ 1000000000 * k ∧ Below w2.heap.size w2 wr)
    case atStart => exact ⟨0, 0, Nat.zero_le _, rfl, rfl, rfl, by simp, by omega, by omega, Below.refl _ _⟩
    case round =>
      obtain ⟨k, s, hk, rfl, rfl, rfl, hr, hs0, hs1, hb⟩ := hrel
      have HRR := hid hr
      have HB := hid hb
      clear hr hb
      by_cases hlt : k < L.length
      · have hltz : (k : Int) < (L.length : Int) := by omega
        obtain ⟨a', cap', hv, _, _, hc⟩ := HFR.out.keep HB.out
        simp only [Value.slice.injEq, true_and] at hv
        obtain ⟨rfl, rfl⟩ := hv
        obtain ⟨g, o, r, y, rfl, hcell, hy, HD, HX⟩ := mat_at hc hlt
        have HRZ := hid hy
        have HSI := hid (HIN.out y (by rw [← HX.out]; simp [List.getD, List.getElem?_eq_getElem hlt]))
        have H3 := H2.out.keep HB.out
        have HST : Hid (sumI (L.map (lenF M)) = s + lenF M y + sumI ((L.drop (k + 1)).map (lenF M))) := by show _ = _; rw [HRR.out, HD.out, List.map_cons, sumI_cons]; omega
        have hq := lenF_range M y
        clear hc hy
        go_wp2_with fail
        refine (slTwice_c _ _ M y _ HT.out H3 HRZ.out HSI.out.1 HSI.out.2).mono ?_
        rintro e w3 ⟨rfl, hb3⟩
        have HB3 := hid (HB.out.trans (hb3.mono HB.out.size))
        obtain ⟨q, hqq⟩ : ∃ q, lenF M y = q := ⟨_, rfl⟩
        rw [hqq] at HST hq ⊢
        have f1 : IntKind.i64.wrap (s + q) = s + q := IntWalk.i64_in _ (by omega)
        clear hb3 hcell H3 hqq
        go_wp2
        go_roundg (L.length - (k + 1))
        case rel => exact ⟨k + 1, s + q, by omega, rfl, by go_num, rfl, HST.out, by omega, by omega, HB3.out⟩
        case measure => omega
      · have HST : Hid (sumI (L.map (lenF M)) = s) := by show _ = _; rw [HRR.out, List.drop_eq_nil_of_le (show L.length ≤ k by omega)]; simp [sumI]
        go_wp2
        go_ret2
        exact ⟨by rw [HM.out, HST.out]; rfl, HB2.out.trans (HB.out.mono HB2.out.size)⟩
  · have HM := hid (treeLenB_no t)
    go_enter Tryz.func10, Tryz.ntmps10
    go_wp2_with fail
    refine (slTree_c _ M _ h).mono ?_
    rintro e w1 ⟨rfl, hb1⟩
    rw [t]
    go_wp2
    go_ret2
    exact ⟨by rw [HM.out]; rfl, hb1⟩

end Go.Proofs.YtnkbfgnmodfemaaGreatDoor

/- The contract of strings.Join and strconv.Itoa, laid at this program by the kit's own tool. -/
namespace Go.Proofs.YtnkbfgnmodfemaaGreatDoor
open Go.Shelf
def Tryz.lays156_ren : Go.Shelf.Ren := ⟨fun | 156 => 65 | 165 => 87 | 166 => 88 | 169 => 89 | 240 => 96 | 241 => 97 | 276 => 105 | 277 => 106 | n => n, fun | 31 => 75 | 9 => 9 | 3 => 3 | 4 => 4 | 0 => 0 | 20 => 20 | 72 => 87 | 76 => 91 | 70 => 85 | 37 => 22 | 75 => 90 | 127 => 102 | 164 => 108 | 5 => 5 | 80 => 93 | n => n, fun | n => n⟩
theorem Tryz.lays156 : Go.Proofs.Lays.n156 Tryz.prog Tryz.lays156_ren := {
  mixed := by kernel_rfl
  f156 := Tryz.func65.trans (congrArg some (by kernel_rfl))
  f165 := Tryz.func87.trans (congrArg some (by kernel_rfl))
  f166 := Tryz.func88.trans (congrArg some (by kernel_rfl))
  f169 := Tryz.func89.trans (congrArg some (by kernel_rfl))
  f240 := Tryz.func96.trans (congrArg some (by kernel_rfl))
  f241 := Tryz.func97.trans (congrArg some (by kernel_rfl))
  f276 := Tryz.func105.trans (congrArg some (by kernel_rfl))
  f277 := Tryz.func106.trans (congrArg some (by kernel_rfl))
  t0 := Tryz.underlying0
  a0 := Tryz.isAgg0
  z0 := Tryz.sizeOf0
  v0 := Tryz.zeroValue0
  t3 := Tryz.underlying3
  a3 := Tryz.isAgg3
  z3 := Tryz.sizeOf3
  v3 := Tryz.zeroValue3
  t4 := Tryz.underlying4
  a4 := Tryz.isAgg4
  z4 := Tryz.sizeOf4
  v4 := Tryz.zeroValue4
  t9 := Tryz.underlying9
  a9 := Tryz.isAgg9
  z9 := Tryz.sizeOf9
  v9 := Tryz.zeroValue9
  t20 := Tryz.underlying20
  a20 := Tryz.isAgg20
  z20 := Tryz.sizeOf20
  v20 := Tryz.zeroValue20
  t31 := Tryz.underlying75
  a31 := Tryz.isAgg75
  z31 := Tryz.sizeOf75
  v31 := Tryz.zeroValue75
  t37 := Tryz.underlying22
  a37 := Tryz.isAgg22
  z37 := Tryz.sizeOf22
  v37 := Tryz.zeroValue22
  t70 := Tryz.underlying85
  a70 := Tryz.isAgg85
  z70 := Tryz.sizeOf85
  v70 := Tryz.zeroValue85
  t72 := Tryz.underlying87
  a72 := Tryz.isAgg87
  z72 := Tryz.sizeOf87
  v72 := Tryz.zeroValue87
  t75 := Tryz.underlying90
  a75 := Tryz.isAgg90
  z75 := Tryz.sizeOf90
  v75 := Tryz.zeroValue90
  t76 := Tryz.underlying91
  a76 := Tryz.isAgg91
  z76 := Tryz.sizeOf91
  v76 := Tryz.zeroValue91
  t127 := Tryz.underlying102
  a127 := Tryz.isAgg102
  z127 := Tryz.sizeOf102
  v127 := Tryz.zeroValue102
  t164 := Tryz.underlying108
  a164 := Tryz.isAgg108
  z164 := Tryz.sizeOf108
  v164 := Tryz.zeroValue108 }
theorem Tryz.Builder_Extra_156 : Builder.Extra Tryz.prog Tryz.lays156_ren := {
  sizeBuilder := by kernel_rfl
  liesBuilder := by kernel_rfl
  t5 := Tryz.underlying5
  a5 := Tryz.isAgg5
  z5 := Tryz.sizeOf5
  v5 := Tryz.zeroValue5
  infoByte := by kernel_rfl
  cellsByte := by kernel_rfl
  sizeByte := by kernel_rfl
  neB5 := by decide }
open Go.RowKit in
/-- No element: the empty string; the world is as it was. (Whatever the slice's address and capacity: a nil slice too.) (LAID: no walk: one application.) -/
theorem Tryz.strings_Join_none (a : Option Addr) (c : Nat) (sep : ByteArray) (w : World) :
    Calls Tryz.prog 65 #[.slice a 0 c, .string sep] w fun e w' => e = .returned (.string ⟨#[]⟩) ∧ w' = w := Any.strings_Join_none Tryz.lays156 Tryz.Builder_Extra_156 a c sep w
open Go.RowKit in
/-- strings.Join: "Join concatenates the elements of its first argument to create a single string. The separator string sep is placed between elements in the resulting string.": HOWEVER MANY ELEMENTS. Below the heap's end the world is as it was. (LAID: no walk: one application.) -/
theorem Tryz.strings_Join (bk o c : Nat) (xs : List ByteArray) (sep : ByteArray) (w : World) (hcells : ∀ (j : Nat) x, xs[j]? = some x → w.cell? ⟨bk, o + j, none⟩ = some (.string x)) (hbk : bk < w.heap.size) (hN : xs.length ≤ 140737488355328) (hcap : xs.length ≤ c) (hlen : (Lib.join (xs.map (·.data.toList)) sep.data.toList).length ≤ 140737488355328) :
    Calls Tryz.prog 65 #[.slice (some ⟨bk, o, none⟩) xs.length c, .string sep] w fun e w' => e = .returned (.string ⟨(Lib.join (xs.map (·.data.toList)) sep.data.toList).toArray⟩) ∧ Below w.heap.size w w' := Any.strings_Join Tryz.lays156 Tryz.Builder_Extra_156 bk o c xs sep w hcells hbk hN hcap hlen
def Tryz.lays171_ren : Go.Shelf.Ren := ⟨fun | 171 => 64 | 243 => 86 | 246 => 95 | 283 => 101 | 284 => 102 | 285 => 103 | 286 => 104 | 129 => 111 | 317 => 110 | 318 => 112 | 319 => 113 | 320 => 114 | 337 => 125 | 338 => 126 | n => n, fun | 3 => 3 | 9 => 9 | 2 => 2 | 4 => 4 | 171 => 103 | 0 => 0 | 53 => 49 | 37 => 22 | 5 => 5 | 173 => 106 | 212 => 115 | 51 => 116 | 20 => 20 | 213 => 117 | 46 => 96 | 232 => 132 | 233 => 133 | n => n, fun | 17 => 0 | 18 => 2 | 19 => 3 | n => n⟩
theorem Tryz.lays171 : Go.Proofs.Lays.n171 Tryz.prog Tryz.lays171_ren := {
  mixed := by kernel_rfl
  f129 := Tryz.func111.trans (congrArg some (by kernel_rfl))
  f171 := Tryz.func64.trans (congrArg some (by kernel_rfl))
  f243 := Tryz.func86.trans (congrArg some (by kernel_rfl))
  f246 := Tryz.func95.trans (congrArg some (by kernel_rfl))
  f283 := Tryz.func101.trans (congrArg some (by kernel_rfl))
  f284 := Tryz.func102.trans (congrArg some (by kernel_rfl))
  f285 := Tryz.func103.trans (congrArg some (by kernel_rfl))
  f286 := Tryz.func104.trans (congrArg some (by kernel_rfl))
  f317 := Tryz.func110.trans (congrArg some (by kernel_rfl))
  f318 := Tryz.func112.trans (congrArg some (by kernel_rfl))
  f319 := Tryz.func113.trans (congrArg some (by kernel_rfl))
  f320 := Tryz.func114.trans (congrArg some (by kernel_rfl))
  f337 := Tryz.func125.trans (congrArg some (by kernel_rfl))
  f338 := Tryz.func126.trans (congrArg some (by kernel_rfl))
  t0 := Tryz.underlying0
  a0 := Tryz.isAgg0
  z0 := Tryz.sizeOf0
  v0 := Tryz.zeroValue0
  t2 := Tryz.underlying2
  a2 := Tryz.isAgg2
  z2 := Tryz.sizeOf2
  v2 := Tryz.zeroValue2
  t3 := Tryz.underlying3
  a3 := Tryz.isAgg3
  z3 := Tryz.sizeOf3
  v3 := Tryz.zeroValue3
  t4 := Tryz.underlying4
  a4 := Tryz.isAgg4
  z4 := Tryz.sizeOf4
  v4 := Tryz.zeroValue4
  t5 := Tryz.underlying5
  a5 := Tryz.isAgg5
  z5 := Tryz.sizeOf5
  v5 := Tryz.zeroValue5
  t9 := Tryz.underlying9
  a9 := Tryz.isAgg9
  z9 := Tryz.sizeOf9
  v9 := Tryz.zeroValue9
  t20 := Tryz.underlying20
  a20 := Tryz.isAgg20
  z20 := Tryz.sizeOf20
  v20 := Tryz.zeroValue20
  t37 := Tryz.underlying22
  a37 := Tryz.isAgg22
  z37 := Tryz.sizeOf22
  v37 := Tryz.zeroValue22
  t46 := Tryz.underlying96
  a46 := Tryz.isAgg96
  z46 := Tryz.sizeOf96
  v46 := Tryz.zeroValue96
  t51 := Tryz.underlying116
  a51 := Tryz.isAgg116
  z51 := Tryz.sizeOf116
  v51 := Tryz.zeroValue116
  t53 := Tryz.underlying49
  a53 := Tryz.isAgg49
  z53 := Tryz.sizeOf49
  v53 := Tryz.zeroValue49
  t171 := Tryz.underlying103
  a171 := Tryz.isAgg103
  z171 := Tryz.sizeOf103
  v171 := Tryz.zeroValue103
  t173 := Tryz.underlying106
  a173 := Tryz.isAgg106
  z173 := Tryz.sizeOf106
  v173 := Tryz.zeroValue106
  t212 := Tryz.underlying115
  a212 := Tryz.isAgg115
  z212 := Tryz.sizeOf115
  v212 := Tryz.zeroValue115
  t213 := Tryz.underlying117
  a213 := Tryz.isAgg117
  z213 := Tryz.sizeOf117
  t232 := Tryz.underlying132
  a232 := Tryz.isAgg132
  z232 := Tryz.sizeOf132
  v232 := Tryz.zeroValue132
  t233 := Tryz.underlying133
  a233 := Tryz.isAgg133
  z233 := Tryz.sizeOf133
  v233 := Tryz.zeroValue133
  g17 := by kernel_rfl
  g18 := by kernel_rfl
  g19 := by kernel_rfl }
open Go.RowKit Go.Sort Go.Lib in
/-- THE ROAD WITHOUT THE TABLE: 0 <= i < 100: NO PREMISE ON THE WORLD, AND THE WORLD IS AS IT WAS: a row that keeps its argument in that range need list no table ('laid = []'). (LAID: no walk: one application.) -/
theorem Tryz.strconv_Itoa_small (i : Nat) (hi : i < 100) (w : World) :
    Calls Tryz.prog 64 #[.int .i64 i] w fun e w' => e = .returned (.string ⟨(Lib.decDigits i).toArray⟩) ∧ w' = w := Any.strconv_Itoa_small Tryz.lays171 i hi w
end Go.Proofs.YtnkbfgnmodfemaaGreatDoor

/- The text of a split: both programs'. -/
namespace Go.Proofs.YtnkbfgnmodfemaaGreatDoor
open Go.RowKit
open Go.Lib (hid)

/-- a digit's letter -/
def dig (i : Nat) : UInt8 := UInt8.ofNat (48 + i)
theorem dig_nat {i : Nat} (h : i < 10) : (dig i).toNat = 48 + i := by simp [dig]; omega

set_option maxRecDepth 100000 in
set_option maxHeartbeats 1000000 in
theorem l1Num_c (i : Nat) (hi : i < 10) (w : World) :
    Calls Tryz.prog 38 #[.int .i64 i] w fun e w' => e = .returned (.string ⟨#[dig i]⟩) ∧ Below w.heap.size w w' := by
  have hiz : (i : Int) < 10 := by omega
  have hb : Below w.heap.size w (w.alloc (.cells #[.int .u8 (48 + (i : Int))] 5)) := (Below.refl _ _).alloc (Nat.le_refl _) _
  have hcv := run_convert_bytes_back (P := Tryz.prog) (w.alloc (.cells #[.int .u8 (48 + (i : Int))] 5)) 22 9 5 ⟨w.heap.size, 0, none⟩ 1 [dig i] Tryz.underlying22 Tryz.underlying5 Tryz.underlying9 (fun j hj => by
    obtain rfl : j = 0 := by simp at hj; exact hj
    rw [addr_add, cell_new]
    simp [dig_nat hi])
  have HB := hid hb
  simp only [List.length_cons, List.length_nil, Nat.zero_add] at hcv
  clear hb
  go_enter Tryz.func38, Tryz.ntmps38
  go_wp2
  go_ret
  exact ⟨rfl, HB.out⟩

/-- the letters of numbers, each behind a comma -/
def cT (l : List Nat) : List UInt8 := l.flatMap fun i => [44, dig i]
/-- the numbers below n that are in a list, that are not -/
def insL (n : Nat) (a : List Int) : List Nat := (List.range n).filter fun (i : Nat) => hasB a i
def outL (n : Nat) (a : List Int) : List Nat := (List.range n).filter fun (i : Nat) => !hasB a i
theorem ins_yes {n : Nat} {a : List Int} (h : hasB a n = true) : insL (n + 1) a = insL n a ++ [n] ∧ outL (n + 1) a = outL n a := by
  unfold insL outL
  simp [List.range_succ, List.filter_append, h]
theorem ins_no {n : Nat} {a : List Int} (h : hasB a n = false) : insL (n + 1) a = insL n a ∧ outL (n + 1) a = outL n a ++ [n] := by
  unfold insL outL
  simp [List.range_succ, List.filter_append, h]
theorem cT_app (l : List Nat) (i : Nat) : cT (l ++ [i]) = cT l ++ [44, dig i] := by simp [cT]
theorem cT_len (l : List Nat) : (cT l).length = 2 * l.length := by
  induction l with
  | nil => rfl
  | cons x xs ih => simp [cT] at ih ⊢; omega
theorem ins_len (n : Nat) (a : List Int) : (insL n a).length ≤ n ∧ (outL n a).length ≤ n := by
  unfold insL outL
  exact ⟨by have := List.length_filter_le (fun (i : Nat) => hasB a i) (List.range n); simpa using this, by have := List.length_filter_le (fun (i : Nat) => !hasB a i) (List.range n); simpa using this⟩
def bstr (l : List UInt8) : Value := .string ⟨l.toArray⟩
theorem bstr_app (f : List UInt8) (d : UInt8) : Value.string ((⟨f.toArray⟩ : ByteArray) ++ ((⟨#[44]⟩ : ByteArray) ++ (⟨#[d]⟩ : ByteArray))) = bstr (f ++ [44, d]) := by
  unfold bstr
  congr 1
theorem bstr_end (f s : List UInt8) : Value.string ((⟨f.toArray⟩ : ByteArray).extract 1 f.length ++ (⟨#[124]⟩ : ByteArray) ++ (⟨s.toArray⟩ : ByteArray).extract 1 s.length) = bstr (f.drop 1 ++ (124 :: s.drop 1)) := by
  unfold bstr
  congr 1
  apply ByteArray.ext
  apply Array.ext'
  simp [ByteArray.data_extract, List.take_of_length_le]
/-- the text of a split -/
def sTxt (n : Nat) (a : List Int) : List UInt8 := (cT (outL n a)).drop 1 ++ (124 :: (cT (insL n a)).drop 1)

set_option maxRecDepth 100000 in
set_option maxHeartbeats 1000000 in
theorem sSplitText_yes (n : Nat) (v : Value) (a : List Int) (w : World) (h : RInts w v a) (hs : splitB n a = true) (hn : n ≤ 7) (h1 : insL n a ≠ []) (h2 : outL n a ≠ []) :
    Calls Tryz.prog 16 #[.int .i64 n, v] w fun e w' => e = .returned (.tuple #[bstr (sTxt n a), .bool true]) ∧ Below w.heap.size w w' := by
  have HR := hid h
  have H1 := hid h1
  have H2 := hid h2
  clear h h1 h2
  go_enter Tryz.func16, Tryz.ntmps16
  go_wp2_with fail
  refine (slGood_c (n : Int) _ a _ HR.out).mono ?_
  rintro e w' ⟨rfl, rfl⟩
  rw [hs]
  go_wp2
  go_loopg [6, 7, 8] n (fun gk fv sv iv wr => ∃ i : Nat, ∃ (f s : List UInt8), i ≤ n ∧ gk = n - i ∧ iv = .int .i64 i ∧ fv = bstr f ∧ sv = bstr s ∧ f.length ≤ 2 * i ∧ s.length ≤ 2 * i ∧ Hid (f = cT (outL i a) ∧ s = cT (insL i a)) ∧ Hid (Below w.heap.size w wr))
  case atStart => exact ⟨0, [], [], Nat.zero_le _, rfl, rfl, rfl, rfl, by simp, by simp, hid ⟨rfl, rfl⟩, hid (Below.refl _ _)⟩
  case round =>
    obtain ⟨i, f, s, hi, rfl, rfl, rfl, rfl, hf1, hs1, HT, HB⟩ := hrel
    by_cases hlt : i < n
    · have hltz : (i : Int) < (n : Int) := by omega
      have hR := HR.out.keep HB.out
      unfold bstr
      go_wp2_with fail
      refine (l1Has_c _ a _ _ hR).mono ?_
      rintro e w' ⟨rfl, rfl⟩
      obtain ⟨q, hq⟩ : ∃ q, hasB a (i : Int) = q := ⟨_, rfl⟩
      rw [hq]
      have HQ := hid hq
      clear hq
      have hf : ¬ 9223372036854775807 < f.length + 2 := by omega
      have hg : ¬ 9223372036854775807 < s.length + 2 := by omega
      cases q
      · go_wp2_with fail
        refine (l1Num_c i (by omega) _).mono ?_
        rintro e w2 ⟨rfl, hb2⟩
        have HB2 := hid (HB.out.trans (hb2.mono HB.out.size))
        clear hb2
        go_wp2
        go_roundg (n - (i + 1))
        case rel => exact ⟨i + 1, f ++ [44, dig i], s, by omega, rfl, by go_num, bstr_app _ _, rfl, by simp; omega, by omega, hid ⟨by rw [(ins_no HQ.out).2, cT_app, HT.out.1], by rw [(ins_no HQ.out).1, HT.out.2]⟩, HB2⟩
        case measure => omega
      · go_wp2_with fail
        refine (l1Num_c i (by omega) _).mono ?_
        rintro e w2 ⟨rfl, hb2⟩
        have HB2 := hid (HB.out.trans (hb2.mono HB.out.size))
        clear hb2
        go_wp2
        go_roundg (n - (i + 1))
        case rel => exact ⟨i + 1, f, s ++ [44, dig i], by omega, rfl, by go_num, rfl, bstr_app _ _, by omega, by simp; omega, hid ⟨by rw [(ins_yes HQ.out).2, HT.out.1], by rw [(ins_yes HQ.out).1, cT_app, HT.out.2]⟩, HB2⟩
        case measure => omega
    · obtain rfl : i = n := by omega
      have p1 : 1 ≤ f.length := by
        rw [HT.out.1, cT_len]
        have := List.length_pos_iff.2 H2.out
        omega
      have p2 : 1 ≤ s.length := by
        rw [HT.out.2, cT_len]
        have := List.length_pos_iff.2 H1.out
        omega
      have g1 : ¬ 9223372036854775807 < f.length := by omega
      have g2 : ¬ 9223372036854775807 < f.length - 1 + 1 := by omega
      have g3 : ¬ 9223372036854775807 < f.length - 1 + 1 + (s.length - 1) := by omega
      unfold bstr
      go_wp2
      go_quiet (fail)
      go_wp2
      go_ret2
      have HE : bstr (f.drop 1 ++ (124 :: s.drop 1)) = bstr (sTxt i a) := by rw [sTxt, HT.out.1, HT.out.2]
      exact ⟨congrArg (fun x => Ending.returned (.tuple #[x, .bool true])) ((bstr_end f s).trans HE), ⟨HB.out.os, HB.out.tape, HB.out.output, HB.out.size, HB.out.block⟩⟩

theorem ris_all : ∀ (l : List Int) (lo hi : Int) (o : Option Int), risB lo hi o l = true → ∀ x ∈ l, lo ≤ x ∧ x ≤ hi
  | [], _, _, _, _, x, hx => by cases hx
  | y :: ys, lo, hi, o, h, x, hx => by
    rw [risB_cons] at h
    simp only [Bool.and_eq_true] at h
    rcases List.mem_cons.1 hx with e | e
    · rw [e]; exact inB_iff.1 h.1
    · exact ris_all ys lo hi _ h.2.2 x e
theorem split_ne {n : Nat} {a : List Int} (h : splitB n a = true) : insL n a ≠ [] ∧ outL n a ≠ [] ∧ n ≤ 7 := by
  unfold splitB at h
  simp only [Bool.and_eq_true, decide_eq_true_eq] at h
  obtain ⟨h1, h2, h3⟩ := h
  have h4 := inB_iff.1 h1
  have h5 := ris_all _ _ _ _ h3
  refine ⟨?_, ?_, by omega⟩
  · match a, h2 with
    | x :: xs, _ =>
      have hx := h5 x (by simp)
      have hm : x.toNat ∈ insL n (x :: xs) := by
        unfold insL
        rw [List.mem_filter]
        refine ⟨List.mem_range.2 (by omega), ?_⟩
        have : ((x.toNat : Nat) : Int) = x := by omega
        rw [this]
        simp [hasB]
      intro e
      rw [e] at hm
      cases hm
  · have hm : 0 ∈ outL n a := by
      unfold outL
      rw [List.mem_filter]
      refine ⟨List.mem_range.2 (by omega), ?_⟩
      rw [Bool.not_eq_true', hasB, List.any_eq_false]
      intro x hx
      have := h5 x hx
      simp
      omega
    intro e
    rw [e] at hm
    cases hm
/-- the answer of SplitText -/
def txtB (n : Int) (a : List Int) : List UInt8 × Bool := if splitB n a then (sTxt n.toNat a, true) else ([], false)
theorem txtB_yes {n : Int} {a : List Int} (h : splitB n a = true) : txtB n a = (sTxt n.toNat a, true) := by rw [txtB, h]; rfl
theorem txtB_no {n : Int} {a : List Int} (h : splitB n a = false) : txtB n a = ([], false) := by rw [txtB, h]; rfl

set_option maxHeartbeats 1000000 in
theorem sSplitText_u (n : Int) (v : Value) (a : List Int) (w : World) (h : RInts w v a) :
    Calls Tryz.prog 16 #[.int .i64 n, v] w fun e w' => e = .returned (.tuple #[bstr (txtB n a).1, .bool (txtB n a).2]) ∧ Below w.heap.size w w' := by
  rcases Bool.eq_false_or_eq_true (splitB n a) with t | t
  · have hr : 2 ≤ n ∧ n ≤ 7 := by
      have t2 := t
      unfold splitB at t2
      simp only [Bool.and_eq_true] at t2
      exact inB_iff.1 t2.1
    obtain ⟨m, rfl⟩ : ∃ m : Nat, n = m := ⟨n.toNat, by omega⟩
    obtain ⟨h1, h2, h3⟩ := split_ne t
    rw [txtB_yes t]
    exact sSplitText_yes m v a w h t h3 h1 h2
  · have HM := hid (txtB_no t)
    have HR := hid h
    clear h
    go_enter Tryz.func16, Tryz.ntmps16
    go_wp2_with fail
    refine (slGood_c n _ a _ HR.out).mono ?_
    rintro e w' ⟨rfl, rfl⟩
    rw [t]
    go_wp2
    go_ret2
    exact ⟨by rw [HM.out]; rfl, Below.refl _ _⟩

end Go.Proofs.YtnkbfgnmodfemaaGreatDoor

/- The text of a split: the program's. -/
namespace Go.Proofs.YtnkbfgnmodfemaaGreatDoor
open Go.RowKit
open Go.Lib (hid)

theorem Tryz.infoStr : (Tryz.prog.info? 9).map (fun i => (i.zero, i.size, i.bytes)) = some (some (.string ⟨#[]⟩), 1, 16) := by kernel_rfl

/-- v is a slice of strings, whole in a block of its own -/
def FStrs (w : World) (lo hi : Nat) (v : Value) (xs : List (List UInt8)) : Prop :=
  w.ownsRow lo 9 1 v xs.length (xs.map bstr) ∧ ∀ g, v.ownBlock = some g → g < hi
theorem FStrs.keep {w w' : World} {lo hi : Nat} {v : Value} {xs : List (List UInt8)} (h : FStrs w lo hi v xs) (hb : Below w.heap.size w w') : FStrs w' lo hi v xs :=
  ⟨own_same h.1 (fun g hg => (Same.of_below hb) g (h.1.lt g hg).1 (h.2 g hg) (h.1.lt g hg).2), h.2⟩
theorem FStrs.mono {w : World} {lo hi lo' hi' : Nat} {v : Value} {xs : List (List UInt8)} (h : FStrs w lo hi v xs) (h1 : lo' ≤ lo) (h2 : hi ≤ hi') : FStrs w lo' hi' v xs :=
  ⟨own_mono h.1 h1, fun g hg => Nat.lt_of_lt_of_le (h.2 g hg) h2⟩
theorem strs_empty (w : World) (lo : Nat) (h : lo ≤ w.heap.size) : FStrs (w.alloc (.cells #[] 9)) lo (w.heap.size + 1) (.slice (some ⟨w.heap.size, 0, none⟩) 0 0) [] :=
  ⟨World.ownsRow_made w #[] 0 h (by unfold maxLen; omega) rfl, fun g hg => by simp [Value.ownBlock] at hg; omega⟩
theorem FStrs.form {w : World} {lo hi : Nat} {v : Value} {xs : List (List UInt8)} (h : FStrs w lo hi v xs) : ∃ a cap, v = .slice a xs.length cap := by
  obtain ⟨a, cap, rfl, _⟩ := own_form h.1; exact ⟨a, cap, rfl⟩

theorem run_append_str {w : World} {lo hi : Nat} {v : Value} {xs : List (List UInt8)} {y : List UInt8} (ty : TypeId) {ad : Addr} {c : Nat} (h : FStrs w lo hi v xs) (hc : w.cell? ad = some (bstr y)) (hlen : xs.length + 1 ≤ 1048576) (hlo : lo ≤ w.heap.size) :
    ∃ v' w', (Builtin.append_ #[75, 75] ty #[v, .slice (some ad) 1 c]).run Tryz.prog w = .ok v' w' ∧ FStrs w' lo w'.heap.size v' (xs ++ [y]) ∧ w.grownBy w' v.ownBlock := by
  obtain ⟨i0, hi0, hz0, hz1, hz2⟩ := info_parts Tryz.infoStr
  obtain ⟨v', w', hr, hown, hg, hn⟩ := run_append_own (P := Tryz.prog) w lo 75 ty 9 i0 (.string ⟨#[]⟩) 1 16 Tryz.underlying75 hi0 hz0 hz1 hz2 rfl (by decide) v xs.length (xs.map bstr) h.1
    ad 1 c [bstr y] (by simp) (fun j x hx => by
      cases j with
      | zero =>
        simp at hx; subst hx
        rw [show ad.add 0 = ad by unfold Addr.add; split <;> simp_all]
        exact hc
      | succ j => simp at hx) (fun x hx => by simp at hx; subst hx; rfl) (by unfold maxLen; omega) (by omega) hlo
  refine ⟨v', w', hr, ⟨?_, fun g hg => (hown.lt g hg).2⟩, hg⟩
  rw [List.length_append, List.map_append]; exact hown

theorem wpList_append_str {w : World} {ops : Array Oper} {rest : List Oper} {o : Oper} {a : Act} {Q : Exit → Act → World → Prop} (hgd : o.guard = none) (s x : Operand)
    (ho : o.op = .call { callee := .builtin .append, args := #[s, x], argTypes := #[75, 75] }) (lo hi : Nat) (v : Value) (ad : Addr) (c : Nat) (xs : List (List UInt8)) (y : List UInt8) (hs : a.eval s = v) (hx : a.eval x = .slice (some ad) 1 c)
    (hF : FStrs w lo hi v xs) (hc : w.cell? ad = some (bstr y)) (hlen : xs.length + 1 ≤ 1048576) (hlo : lo ≤ w.heap.size)
    (h : ∀ v' w', FStrs w' lo w'.heap.size v' (xs ++ [y]) → w.grownBy w' v.ownBlock → wpList Tryz.prog ops Q rest (a.put o.dst v') w') : wpList Tryz.prog ops Q (o :: rest) a w := by
  refine wpList_plain hgd fun K hK => ?_
  obtain ⟨v', w', hr, h2, h3⟩ := run_append_str (c := c) o.type hF hc hlen hlo
  unfold Oper.wp execOp
  simp only [ho, resolve, invoke, builtin, Sem.run_bind, Sem.run_pure, Result.andThen_ok, List.map_toArray, List.map_cons, List.map_nil, hs, hx, hr]
  exact hK _ _ (h v' w' h2 h3)

/-- the letters of a list of numbers -/
def dW (l : List Int) : List (List UInt8) := l.map fun x => [dig x.toNat]
theorem join_dW : ∀ (l : List Int), Lib.join (dW l) [44] = (cT (l.map Int.toNat)).drop 1
  | [] => rfl
  | x :: xs => by
    have hj : Lib.joinTail [44] (dW xs) = cT (xs.map Int.toNat) := by
      unfold Lib.joinTail dW cT
      rw [List.map_map, List.flatMap_map, ← List.flatMap_def]
      rfl
    show Lib.join ([dig x.toNat] :: dW xs) [44] = _
    rw [Lib.join_cons, hj]
    simp [cT]
theorem dW_len (l : List Int) : (Lib.join (dW l) [44]).length ≤ 2 * l.length := by
  rw [join_dW, List.length_drop, cT_len, List.length_map]
  omega
/-- one string appended: ahead of it, and behind it -/
theorem push_str {w wr : World} {o : Value} {xs : List (List UInt8)} (y : List UInt8) (hF : FStrs wr w.heap.size wr.heap.size o xs) (hb : Below w.heap.size w wr) :
    FStrs (wr.alloc (.cells #[bstr y] 9)) w.heap.size wr.heap.size o xs ∧ w.heap.size ≤ (wr.alloc (.cells #[bstr y] 9)).heap.size ∧ (wr.alloc (.cells #[bstr y] 9)).cell? ⟨wr.heap.size, 0, none⟩ = some (bstr y) ∧
      ∀ w', (wr.alloc (.cells #[bstr y] 9)).grownBy w' o.ownBlock → Below w.heap.size w w' := by
  have ha : Below wr.heap.size wr (wr.alloc (.cells #[bstr y] 9)) := (Below.refl _ _).alloc (Nat.le_refl _) _
  have hs := hb.size
  refine ⟨hF.keep ha, by simp; omega, cell_new _ _ _, fun w' hg => (hb.trans (ha.mono hs)).grown hg (by simp; omega) (fun k hk => (hF.1.lt k hk).1)⟩

set_option maxRecDepth 100000 in
set_option maxHeartbeats 1000000 in
theorem pointsText_c (v : Value) (l : List Int) (w : World) (h : RInts w v l) (hl : l.length ≤ 1000) (hd : ∀ x ∈ l, 0 ≤ x ∧ x < 10) (hne : l ≠ []) :
    Calls Tryz.prog 34 #[v] w fun e w' => e = .returned (bstr ((cT (l.map Int.toNat)).drop 1)) ∧ Below w.heap.size w w' := by
  have HR := hid h
  have HD := hid hd
  have HNE := hid hne
  obtain ⟨a, cap, rfl, h1, h2, hc⟩ := h
  clear hc hd hne
  unfold maxLen at h2
  go_enter Tryz.func34, Tryz.ntmps34
  go_wp2
  go_loopg [3, 9] l.length (fun gk o iv wr => ∃ k : Nat, k ≤ l.length ∧ gk = l.length - k ∧ iv = .int .i64 k ∧ FStrs wr w.heap.size wr.heap.size o (dW (l.take k)) ∧ Below w.heap.size w wr)
  case atStart => exact ⟨0, Nat.zero_le _, rfl, rfl, (strs_empty w _ (Nat.le_refl _)).mono (Nat.le_refl _) (by simp), (Below.refl _ _).alloc (Nat.le_refl _) _⟩
  case round =>
    obtain ⟨k, hk, rfl, rfl, hF, hb⟩ := hrel
    by_cases hlt : k < l.length
    · have hltz : (k : Int) < (l.length : Int) := by omega
      obtain ⟨a', cap', hv, _, _, hc⟩ := HR.out.keep hb
      simp only [Value.slice.injEq, true_and] at hv
      obtain ⟨rfl, rfl⟩ := hv
      obtain ⟨g, o', x, rfl, e1, HX, HG⟩ := ints_at hc hlt
      have hx := HD.out x (by have := HG.out; rw [← this, List.getD_eq_getElem?_getD, List.getElem?_eq_getElem hlt]; exact List.getElem_mem hlt)
      obtain ⟨d, rfl⟩ : ∃ d : Nat, x = d := ⟨x.toNat, by omega⟩
      have HT : Hid (dW (l.take (k + 1)) = dW (l.take k) ++ [[dig d]]) := by
        show _ = _
        rw [show l.take (k + 1) = l.take k ++ [(d : Int)] by rw [List.take_succ_eq_append_getElem hlt]; congr 2; have := HG.out; rw [List.getD_eq_getElem?_getD, List.getElem?_eq_getElem hlt] at this; exact this]
        simp [dW]
      have hdl : (dW (l.take k)).length + 1 ≤ 1048576 := by simp [dW]; omega
      have hd10 : d < 10 := by omega
      obtain ⟨p1, p2, p3, p4⟩ := push_str [dig d] hF hb
      obtain ⟨au, cu, rfl⟩ := hF.form
      have HF := hid hF
      have HB := hid hb
      have P1 := hid p1
      have P2 := hid p2
      have P3 := hid p3
      have P4 := hid p4
      have HL := hid hdl
      clear hF hb hc p1 p2 p3 p4 hdl
      go_wp2_with fail
      refine (Tryz.strconv_Itoa_small d (by omega) _).mono ?_
      rintro e w' ⟨rfl, rfl⟩
      rw [show Lib.decDigits d = [dig d] from Lib.decDigits_one hd10]
      go_wp2_with (at_builtin; refine wpList_append_str rfl _ _ rfl _ _ _ _ _ _ [dig d] rfl rfl P1.out P3.out HL.out P2.out ?_; intro v' w' hF' hg)
      go_roundg (l.length - (k + 1))
      case rel => exact ⟨k + 1, by omega, rfl, by go_num, by rw [HT.out]; exact hF', P4.out _ hg⟩
      case measure => omega
    · obtain rfl : k = l.length := by omega
      rw [List.take_length] at hF
      have hpos : 0 < l.length := List.length_pos_iff.2 HNE.out
      have hdl : (dW l).length = l.length := by simp [dW]
      obtain ⟨ad, cp, rfl, o1, o2, o3, o4, o5⟩ := own_form hF.1
      have HB := hid hb
      rw [hdl] at o1 o5
      obtain ⟨g, rfl, o6, o7, _⟩ := o5 0 hpos
      have hj := Tryz.strings_Join g 0 cp ((dW l).map fun x => (⟨x.toArray⟩ : ByteArray)) ⟨#[44]⟩ wr (fun j x hx => by
        have hj : j < l.length := by
          by_cases hj : j < l.length
          · exact hj
          · rw [List.getElem?_eq_none (by simp [dW]; omega)] at hx; cases hx
        obtain ⟨g', hg', _, _, hc', _⟩ := o5 j hj
        cases hg'
        rw [Nat.zero_add, hc', List.getElem?_map]
        rw [List.getElem?_map] at hx
        cases hq : (dW l)[j]? with
        | none => rw [hq] at hx; cases hx
        | some q => rw [hq] at hx; simp at hx; subst hx; rfl) o7 (by simp [dW]; omega) (by simp [dW]; omega) (by
          have := dW_len l
          simp [Function.comp_def]
          omega)
      have HJ := hid hj
      clear hj hF hb o1 o2 o3 o4 o5 o6
      rw [hdl]
      go_wp2_with fail
      have hj2 := HJ.out
      rw [List.length_map, hdl] at hj2
      refine hj2.mono ?_
      rintro e w2 ⟨rfl, hb2⟩
      have HB2 := hid (HB.out.trans (hb2.mono HB.out.size))
      clear hb2 hj2
      go_wp2
      go_ret
      refine ⟨congrArg Ending.returned ?_, HB2.out⟩
      rw [bstr, ← join_dW]
      simp [Function.comp_def]

end Go.Proofs.YtnkbfgnmodfemaaGreatDoor

/- The text of a split: the program's SplitText. -/
namespace Go.Proofs.YtnkbfgnmodfemaaGreatDoor
open Go.RowKit
open Go.Lib (hid)

theorem ris_pair : ∀ (l : List Int) (lo hi : Int) (o : Option Int), risB lo hi o l = true → l.Pairwise (· < ·) ∧ ∀ y, o = some y → ∀ x ∈ l, y < x
  | [], _, _, _, _ => ⟨List.Pairwise.nil, fun _ _ x hx => by cases hx⟩
  | z :: zs, lo, hi, o, h => by
    rw [risB_cons] at h
    simp only [Bool.and_eq_true] at h
    obtain ⟨h1, h2⟩ := ris_pair zs lo hi _ h.2.2
    have h3 := h2 z rfl
    refine ⟨List.pairwise_cons.2 ⟨h3, h1⟩, fun y hy x hx => ?_⟩
    subst hy
    have h4 : y < z := by simpa using h.2.1
    rcases List.mem_cons.1 hx with e | e
    · rw [e]; exact h4
    · have := h3 x e; omega
theorem ris_filter : ∀ (d lo : Nat) (a : List Int), (∀ x ∈ a, (lo : Int) ≤ x ∧ x < (lo : Int) + d) → a.Pairwise (· < ·) → (List.range' lo d).filter (fun (i : Nat) => hasB a i) = a.map Int.toNat
  | 0, lo, a, h, _ => by
    cases a with
    | nil => rfl
    | cons x xs => have := h x (by simp); omega
  | d + 1, lo, a, h, hp => by
    rw [List.range'_succ]
    cases a with
    | nil => rw [List.filter_eq_nil_iff.2 (fun x _ => by simp [hasB])]; rfl
    | cons x xs =>
      have hx := h x (by simp)
      have hc := List.pairwise_cons.1 hp
      by_cases e : x = (lo : Int)
      · have ih := ris_filter d (lo + 1) xs (fun y hy => by have h1 := h y (by simp [hy]); have h2 := hc.1 y hy; omega) hc.2
        rw [List.filter_cons_of_pos (by simp [hasB, e])]
        rw [List.map_cons, ← ih, e]
        refine congrArg (List.cons lo) (List.filter_congr fun i hi => ?_)
        have := (List.mem_range'_1.1 hi).1
        simp [hasB]
        intro e2
        omega
      · have ih := ris_filter d (lo + 1) (x :: xs) (fun y hy => by
          have h1 := h y hy
          rcases List.mem_cons.1 hy with e2 | e2
          · omega
          · have h2 := hc.1 y e2; omega) hp
        rw [List.filter_cons_of_neg (by
          rw [hasB, Bool.not_eq_true, List.any_eq_false]
          intro y hy
          have h1 := h y hy
          rcases List.mem_cons.1 hy with e2 | e2
          · subst e2; simpa using fun q => e q
          · have h2 := hc.1 y e2
            simp
            omega)]
        exact ih
theorem split_ins {n : Nat} {a : List Int} (h : splitB n a = true) : insL n a = a.map Int.toNat := by
  unfold splitB at h
  simp only [Bool.and_eq_true] at h
  have h1 := ris_all _ _ _ _ h.2.2
  have h2 := ris_pair _ _ _ _ h.2.2
  rw [insL, List.range_eq_range']
  exact ris_filter n 0 a (fun x hx => by have := h1 x hx; omega) h2.1
theorem othR_eq (S : List Int) : ∀ (m i : Nat) (acc : List Int), othR S m i acc = acc ++ ((List.range' i m).filter fun (x : Nat) => !hasB S x).map fun (x : Nat) => (x : Int)
  | 0, _, _ => by rw [othR_zero]; simp
  | m + 1, i, acc => by
    rw [List.range'_succ]
    rcases Bool.eq_false_or_eq_true (hasB S (i : Int)) with t | t
    · rw [othR_yes t, othR_eq S m (i + 1) acc, List.filter_cons_of_neg (by simp [t])]
    · rw [othR_no t, othR_eq S m (i + 1) _, List.filter_cons_of_pos (by simp [t])]
      simp
theorem oth_out (n : Nat) (S : List Int) : othF n S = (outL n S).map fun (x : Nat) => (x : Int) := by
  rw [othF, othR_eq, outL, List.range_eq_range']; rfl
theorem oth_nat (n : Nat) (S : List Int) : (othF n S).map Int.toNat = outL n S := by rw [oth_out, List.map_map]; simp [Function.comp_def]

theorem bstr_bar (f s : List UInt8) : Value.string ((⟨f.toArray⟩ : ByteArray) ++ (⟨#[124]⟩ : ByteArray) ++ (⟨s.toArray⟩ : ByteArray)) = bstr (f ++ 124 :: s) := by
  unfold bstr
  congr 1
  apply ByteArray.ext
  apply Array.ext'
  simp

set_option maxRecDepth 100000 in
set_option maxHeartbeats 1000000 in
theorem iSplitText_yes (n : Nat) (v : Value) (a : List Int) (w : World) (h : RInts w v a) (hs : splitB n a = true) :
    Calls Tryz.prog 15 #[.int .i64 n, v] w fun e w' => e = .returned (.tuple #[bstr (sTxt n a), .bool true]) ∧ Below w.heap.size w w' := by
  have HR := hid h
  have HS := hid hs
  obtain ⟨h1, h2, h3⟩ := split_ne hs
  have ha : a ≠ [] := by rintro rfl; rw [split_ins hs] at h1; exact h1 rfl
  have hal : a.length ≤ 7 := by have := (ins_len n a).1; rw [split_ins hs, List.length_map] at this; omega
  have had : ∀ x ∈ a, 0 ≤ x ∧ x < 10 := fun x hx => by
    unfold splitB at hs
    simp only [Bool.and_eq_true] at hs
    have := ris_all _ _ _ _ hs.2.2 x hx
    omega
  have hol : (othF n a).length ≤ 7 := by have := (othF_ok n a).2; omega
  have hod : ∀ x ∈ othF n a, 0 ≤ x ∧ x < 10 := fun x hx => by have := (othF_ok n a).1 x hx; omega
  have hoe : othF n a ≠ [] := fun e => h2 (by rw [← oth_nat, e]; rfl)
  have H1 := hid h1
  have H2 := hid ha
  have H3 := hid had
  have H4 := hid hod
  have H5 := hid hoe
  clear h h1 h2 ha had hod hoe hs
  go_enter Tryz.func15, Tryz.ntmps15
  go_wp2_with fail
  refine (isSplit_c (n : Int) _ a _ HR.out).mono ?_
  rintro e w' ⟨rfl, rfl⟩
  rw [HS.out]
  go_wp2_with fail
  refine (otherSide_c n _ a _ HR.out (by omega)).mono ?_
  rintro e w1 ⟨v1, rfl, hF1, hb1⟩
  have HB1 := hid hb1
  have hR1 := hF1.r
  clear hb1 hF1
  go_wp2_with fail
  refine (pointsText_c v1 _ _ hR1 (by omega) H4.out H5.out).mono ?_
  rintro e w2 ⟨rfl, hb2⟩
  have HB2 := hid (HB1.out.trans (hb2.mono HB1.out.size))
  have hR2 := HR.out.keep HB2.out
  rw [oth_nat]
  have HL1 := hid (cT_len (outL n a))
  have HL2 := hid (cT_len (a.map Int.toNat))
  have HL3 := hid (ins_len n a)
  obtain ⟨f, hf⟩ : ∃ f, (cT (outL n a)).drop 1 = f := ⟨_, rfl⟩
  rw [hf]
  have hfl : f.length ≤ 100 := by rw [← hf, List.length_drop, HL1.out]; have := HL3.out.2; omega
  have HF := hid hf
  clear hb2 hR1 hf
  have g1 : ¬ 9223372036854775807 < f.length + 1 := by omega
  unfold bstr
  go_wp2_with fail
  refine (pointsText_c _ _ _ hR2 (by omega) H3.out H2.out).mono ?_
  rintro e w3 ⟨rfl, hb3⟩
  have HB3 := hid (HB2.out.trans (hb3.mono HB2.out.size))
  obtain ⟨s, hs⟩ : ∃ s, (cT (a.map Int.toNat)).drop 1 = s := ⟨_, rfl⟩
  rw [hs]
  have hsl : s.length ≤ 100 := by rw [← hs, List.length_drop, HL2.out, List.length_map]; omega
  have HSS := hid hs
  clear hb3 hs
  have g2 : ¬ 9223372036854775807 < f.length + 1 + s.length := by omega
  unfold bstr
  go_wp2
  go_ret2
  refine ⟨?_, HB3.out⟩
  have he : sTxt n a = f ++ (124 :: s) := by rw [sTxt, split_ins HS.out, HF.out, HSS.out]
  rw [he]
  exact congrArg (fun x => Ending.returned (.tuple #[x, .bool true])) (bstr_bar f s)

set_option maxHeartbeats 1000000 in
theorem iSplitText_u (n : Int) (v : Value) (a : List Int) (w : World) (h : RInts w v a) :
    Calls Tryz.prog 15 #[.int .i64 n, v] w fun e w' => e = .returned (.tuple #[bstr (txtB n a).1, .bool (txtB n a).2]) ∧ Below w.heap.size w w' := by
  rcases Bool.eq_false_or_eq_true (splitB n a) with t | t
  · have hr : 2 ≤ n ∧ n ≤ 7 := by
      have t2 := t
      unfold splitB at t2
      simp only [Bool.and_eq_true] at t2
      exact inB_iff.1 t2.1
    obtain ⟨m, rfl⟩ : ∃ m : Nat, n = m := ⟨n.toNat, by omega⟩
    rw [txtB_yes t]
    exact iSplitText_yes m v a w h t
  · have HM := hid (txtB_no t)
    have HR := hid h
    clear h
    go_enter Tryz.func15, Tryz.ntmps15
    go_wp2_with fail
    refine (isSplit_c n _ a _ HR.out).mono ?_
    rintro e w' ⟨rfl, rfl⟩
    rw [t]
    go_wp2
    go_ret2
    exact ⟨by rw [HM.out]; rfl, Below.refl _ _⟩

end Go.Proofs.YtnkbfgnmodfemaaGreatDoor

/- The splits of a tree metric: no two of them clash, and their lengths make up the metric again (plain facts). -/
namespace Go.Proofs.YtnkbfgnmodfemaaGreatDoor
open Go.RowKit

/-! ### A split's length -/
theorem lfold_min {L : Int} {f : Int → Int → Int} {Q : Int → Prop} (hf : ∀ x s, L ≤ f x s ↔ L ≤ s ∧ Q x) : ∀ (l : List Int) (s : Int), L ≤ lfold f l s ↔ L ≤ s ∧ ∀ x ∈ l, Q x
  | [], s => by rw [lfold_nil]; simp
  | x :: xs, s => by
    rw [lfold_cons, lfold_min hf xs, hf]
    constructor
    · rintro ⟨⟨h1, h2⟩, h3⟩
      refine ⟨h1, fun y hy => ?_⟩
      rcases List.mem_cons.1 hy with e | e
      · rw [e]; exact h2
      · exact h3 y e
    · rintro ⟨h1, h2⟩
      exact ⟨⟨h1, h2 x (by simp)⟩, fun y hy => h2 y (by simp [hy])⟩
theorem lenF_all {M : List (List Int)} {S : List Int} {L : Int} (h1 : 1 ≤ L) :
    L ≤ lenF M S ↔ L ≤ 1000000000 ∧ ∀ a ∈ S, ∀ b ∈ S, ∀ c ∈ othF M.length S, ∀ d ∈ othF M.length S, L ≤ lenV M a b c d := by
  have hD : ∀ a b c x s, L ≤ lenD M a b c x s ↔ L ≤ s ∧ L ≤ lenV M a b c x := fun a b c x s => by unfold lenD; omega
  have hC : ∀ a b c s, L ≤ lenC M (othF M.length S) a b c s ↔ L ≤ s ∧ ∀ d ∈ othF M.length S, L ≤ lenV M a b c d := fun a b c s => lfold_min (hD a b c) _ s
  have hB : ∀ a b s, L ≤ lenB M (othF M.length S) a b s ↔ L ≤ s ∧ ∀ c ∈ othF M.length S, ∀ d ∈ othF M.length S, L ≤ lenV M a b c d := fun a b s => lfold_min (hC a b) _ s
  have hA : ∀ a s, L ≤ lenA M S (othF M.length S) a s ↔ L ≤ s ∧ ∀ b ∈ S, ∀ c ∈ othF M.length S, ∀ d ∈ othF M.length S, L ≤ lenV M a b c d := fun a s => lfold_min (hB a) _ s
  have h := lfold_min hA S 1000000000
  rw [← h]
  unfold lenF
  omega
theorem lenF_pos {M : List (List Int)} {S : List Int} : 0 ≤ lenF M S := by unfold lenF; omega

/-- which side a point is on -/
def sd (S : List Int) (x : Nat) : Bool := hasB S (x : Int)
theorem sd_iff {S : List Int} {x : Nat} : sd S x = true ↔ (x : Int) ∈ S := by
  unfold sd hasB
  rw [List.any_eq_true]
  exact ⟨fun ⟨y, hy, e⟩ => by rw [← (beq_iff_eq.1 e)]; exact hy, fun h => ⟨_, h, by simp⟩⟩
def vF (m : Nat → Nat → Int) (a b c d : Nat) : Int := max (m a c + m b d) (m a d + m b c) - m a b - m c d
theorem oth_mem {n : Nat} {S : List Int} {x : Nat} : (x : Int) ∈ othF n S ↔ x < n ∧ sd S x = false := by
  rw [oth_out, outL, List.mem_map]
  constructor
  · rintro ⟨y, hy, e⟩
    obtain rfl : y = x := by omega
    have := List.mem_filter.1 hy
    exact ⟨List.mem_range.1 this.1, by unfold sd; simpa using this.2⟩
  · rintro ⟨h1, h2⟩
    exact ⟨x, List.mem_filter.2 ⟨List.mem_range.2 h1, by unfold sd at h2; simp [h2]⟩, rfl⟩
theorem lenF_iff {M : List (List Int)} {S : List Int} (hs : splitB M.length S = true) {L : Int} (h1 : 1 ≤ L) (h2 : L ≤ 1000000000) :
    L ≤ lenF M S ↔ ∀ a b c d, a < M.length → b < M.length → c < M.length → d < M.length → sd S a = true → sd S b = true → sd S c = false → sd S d = false → L ≤ vF (ent M) a b c d := by
  rw [lenF_all h1]
  constructor
  · rintro ⟨_, h⟩ a b c d ha hb hc hd pa pb pc pd
    exact h a (sd_iff.1 pa) b (sd_iff.1 pb) c (oth_mem.2 ⟨hc, pc⟩) d (oth_mem.2 ⟨hd, pd⟩)
  · intro h
    refine ⟨h2, fun a ha b hb c hc d hd => ?_⟩
    have qa := split_in hs a ha
    have qb := split_in hs b hb
    have qc := (othF_ok M.length S).1 c hc
    have qd := (othF_ok M.length S).1 d hd
    obtain ⟨a', rfl⟩ : ∃ z : Nat, a = z := ⟨a.toNat, by omega⟩
    obtain ⟨b', rfl⟩ : ∃ z : Nat, b = z := ⟨b.toNat, by omega⟩
    obtain ⟨c', rfl⟩ : ∃ z : Nat, c = z := ⟨c.toNat, by omega⟩
    obtain ⟨d', rfl⟩ : ∃ z : Nat, d = z := ⟨d.toNat, by omega⟩
    exact h a' b' c' d' (by omega) (by omega) (by omega) (by omega) (sd_iff.2 ha) (sd_iff.2 hb) (oth_mem.1 hc).2 (oth_mem.1 hd).2

/-! ### Along the way from i to k -/
def pF (m : Nat → Nat → Int) (i k x : Nat) : Int := m i x + m i k - m k x
theorem cut_one {n : Nat} {m : Nat → Nat → Int} (hm : Met n m) (ht : Tree n m) {p : Nat → Bool} {i k : Nat} (hi : i < n) (hk : k < n) (hp : p i = true) (hq : p k = false) {L : Int} (h1 : 1 ≤ L) :
    (∀ a b c d, a < n → b < n → c < n → d < n → p a = true → p b = true → p c = false → p d = false → L ≤ vF m a b c d) ↔ ∀ x y, x < n → y < n → p x = true → p y = false → L ≤ pF m i k y - pF m i k x := by
  constructor
  · intro h x y hx hy px py
    have hv := h i x k y hi hx hk hy hp px hq py
    have h4 := ht i x k y hi hx hk hy
    have e1 := hm.sym k x hk hx
    unfold vF at hv
    unfold Four at h4
    unfold pF
    omega
  · intro h a b c d ha hb hc hd pa pb pc pd
    have one : ∀ x y, x < n → y < n → p x = true → p y = false → m x y = m i y + m k x - m i k ∧ L ≤ pF m i k y - pF m i k x := fun x y hx hy px py => by
      have hv := h x y hx hy px py
      have h4 := ht i x k y hi hx hk hy
      have e1 := hm.sym k x hk hx
      unfold pF at hv ⊢
      unfold Four at h4
      omega
    have o1 := one a c ha hc pa pc
    have o2 := one a d ha hd pa pd
    have o3 := one b c hb hc pb pc
    have o4 := one b d hb hd pb pd
    have f1 := (ht a b i k ha hb hi hk).1
    have f2 := (ht c d i k hc hd hi hk).1
    have s1 := hm.sym a i ha hi
    have s2 := hm.sym b i hb hi
    have s3 := hm.sym c i hc hi
    have s4 := hm.sym d i hd hi
    have s5 := hm.sym a k ha hk
    have s6 := hm.sym b k hb hk
    have s7 := hm.sym c k hc hk
    have s8 := hm.sym d k hd hk
    unfold vF
    unfold pF at o1 o2 o3 o4
    omega
theorem vF_swap {n : Nat} {m : Nat → Nat → Int} (hm : Met n m) {a b c d : Nat} (ha : a < n) (hb : b < n) (hc : c < n) (hd : d < n) : vF m a b c d = vF m c d a b := by
  have s1 := hm.sym a c ha hc
  have s2 := hm.sym a d ha hd
  have s3 := hm.sym b c hb hc
  have s4 := hm.sym b d hb hd
  unfold vF
  omega
/-- the length of a split that parts i and k -/
theorem len_cut {M : List (List Int)} (hM : metB M = true) (hT : Tree M.length (ent M)) {S : List Int} (hs : splitB M.length S = true) {i k : Nat} (hi : i < M.length) (hk : k < M.length) (hne : sd S i ≠ sd S k) {L : Int} (h1 : 1 ≤ L) (h2 : L ≤ 1000000000) :
    L ≤ lenF M S ↔ ∀ x y, x < M.length → y < M.length → sd S x = sd S i → sd S y = sd S k → L ≤ pF (ent M) i k y - pF (ent M) i k x := by
  have hm := (met_iff.1 hM).2
  rw [lenF_iff hs h1 h2]
  cases ei : sd S i
  · have ek : sd S k = true := by cases e : sd S k; exact absurd (ei.trans e.symm) hne; rfl
    have h := cut_one hm hT (p := fun x => !sd S x) hi hk (by simp [ei]) (by simp [ek]) h1
    rw [ek]
    simp only [Bool.not_eq_true', Bool.not_eq_false'] at h
    rw [← h]
    constructor
    · intro q a b c d ha hb hc hd pa pb pc pd
      rw [vF_swap hm ha hb hc hd]
      exact q c d a b hc hd ha hb pc pd pa pb
    · intro q a b c d ha hb hc hd pa pb pc pd
      rw [vF_swap hm ha hb hc hd]
      exact q c d a b hc hd ha hb pc pd pa pb
  · have ek : sd S k = false := by cases e : sd S k; rfl; exact absurd (ei.trans e.symm) hne
    rw [ek]
    exact cut_one hm hT hi hk ei ek h1
/-- .. as an interval -/
theorem len_iv {M : List (List Int)} (hM : metB M = true) (hT : Tree M.length (ent M)) {S : List Int} (hs : splitB M.length S = true) {i k : Nat} (hi : i < M.length) (hk : k < M.length) (hne : sd S i ≠ sd S k) :
    ∃ α β : Int, 0 ≤ α ∧ β ≤ 2 * ent M i k ∧ lenF M S = max 0 (β - α) ∧ ∀ t : Int, (∀ x, x < M.length → (sd S x = sd S i ↔ pF (ent M) i k x ≤ t)) ↔ α ≤ t ∧ t < β := by
  have hm := (met_iff.1 hM).2
  obtain ⟨x0, hx0, px0, mx⟩ := max_of (n := M.length) (f := fun x => pF (ent M) i k x) (p := fun x => sd S x = sd S i) ⟨i, hi, rfl⟩
  obtain ⟨y0, hy0, py0, mn⟩ := max_of (n := M.length) (f := fun x => - pF (ent M) i k x) (p := fun x => sd S x = sd S k) ⟨k, hk, rfl⟩
  have a1 := mx i hi rfl
  have b1 := mn k hk rfl
  have di := hm.diag i hi
  have dk := hm.diag k hk
  have sy := hm.sym i k hi hk
  have far : ent M i k ≤ 10000 := by
    by_cases e : i = k
    · rw [e, dk]; omega
    · exact (hm.far i k hi hk e).2
  have e1 : pF (ent M) i k i = 0 := by unfold pF; omega
  have e2 : pF (ent M) i k k = 2 * ent M i k := by unfold pF; omega
  rw [e1] at a1
  rw [e2] at b1
  refine ⟨pF (ent M) i k x0, pF (ent M) i k y0, a1, by omega, ?_, fun t => ?_⟩
  · have hle : ∀ L, 1 ≤ L → L ≤ 1000000000 → (L ≤ lenF M S ↔ L ≤ pF (ent M) i k y0 - pF (ent M) i k x0) := fun L h1 h2 => by
      rw [len_cut hM hT hs hi hk hne h1 h2]
      constructor
      · intro h; exact h x0 y0 hx0 hy0 px0 py0
      · intro h x y hx hy px py
        have := mx x hx px
        have := mn y hy py
        omega
    have h0 := lenF_pos (M := M) (S := S)
    by_cases hp : 1 ≤ pF (ent M) i k y0 - pF (ent M) i k x0
    · have q1 := (hle _ hp (by omega)).2 (Int.le_refl _)
      have q2 := mt (hle (pF (ent M) i k y0 - pF (ent M) i k x0 + 1) (by omega) (by omega)).1 (by omega)
      omega
    · have q2 := mt (hle 1 (by omega) (by omega)).1 hp
      omega
  · constructor
    · intro h
      have h1 := (h x0 hx0).1 px0
      have h2 : ¬ pF (ent M) i k y0 ≤ t := fun q => hne (((h y0 hy0).2 q).symm.trans py0)
      omega
    · rintro ⟨h1, h2⟩ x hx
      constructor
      · intro q
        have := mx x hx q
        omega
      · intro q
        cases e : decide (sd S x = sd S i) with
        | true => exact of_decide_eq_true e
        | false =>
          have e3 := of_decide_eq_false e
          have : sd S x = sd S k := by
            generalize sd S x = u at e3
            generalize sd S i = v at e3 hne
            generalize sd S k = z at hne
            cases u <;> cases v <;> cases z <;> simp_all
          have := mn x hx this
          omega

/-! ### Counting -/
def cntT (q : Nat → Bool) : Nat → Int
  | 0 => 0
  | N + 1 => cntT q N + (if q N then 1 else 0)
theorem cnt_iv {α β : Int} (h0 : 0 ≤ α) : ∀ N : Nat, cntT (fun t => decide (α ≤ (t : Int) ∧ (t : Int) < β)) N = max 0 (min β N - α)
  | 0 => by show (0 : Int) = _; omega
  | N + 1 => by
    show cntT _ N + (if decide (α ≤ (N : Int) ∧ (N : Int) < β) = true then (1 : Int) else 0) = _
    rw [cnt_iv h0 N]
    by_cases h : α ≤ (N : Int) ∧ (N : Int) < β
    · rw [if_pos (decide_eq_true h)]; omega
    · rw [if_neg (by simpa using h)]; omega
theorem cnt_congr {q r : Nat → Bool} : ∀ N : Nat, (∀ t, t < N → q t = r t) → cntT q N = cntT r N
  | 0, _ => rfl
  | N + 1, h => by
    show cntT q N + _ = cntT r N + _
    rw [cnt_congr N (fun t ht => h t (by omega)), h N (by omega)]
theorem cnt_zero {q : Nat → Bool} : ∀ N : Nat, (∀ t, t < N → q t = false) → cntT q N = 0
  | 0, _ => rfl
  | N + 1, h => by
    show cntT q N + _ = 0
    rw [cnt_zero N (fun t ht => h t (by omega)), h N (by omega)]; rfl
def sumP (f : List Int → Int) : List (List Int) → Int
  | [] => 0
  | s :: r => f s + sumP f r
theorem sumP_add (f g : List Int → Int) : ∀ L, sumP (fun s => f s + g s) L = sumP f L + sumP g L
  | [] => rfl
  | s :: r => by show f s + g s + _ = f s + _ + (g s + _); rw [sumP_add f g r]; omega
theorem sumP_congr {f g : List Int → Int} : ∀ L : List (List Int), (∀ s ∈ L, f s = g s) → sumP f L = sumP g L
  | [], _ => rfl
  | s :: r, h => by show f s + _ = g s + _; rw [h s (by simp), sumP_congr r (fun x hx => h x (by simp [hx]))]
theorem sumP_zero {f : List Int → Int} : ∀ L : List (List Int), (∀ s ∈ L, f s = 0) → sumP f L = 0
  | [], _ => rfl
  | s :: r, h => by show f s + _ = 0; rw [h s (by simp), sumP_zero r (fun x hx => h x (by simp [hx]))]; rfl
theorem sumP_filter {f : List Int → Int} {p : List Int → Bool} : ∀ L : List (List Int), (∀ s ∈ L, p s = false → f s = 0) → sumP f (L.filter p) = sumP f L
  | [], _ => rfl
  | s :: r, h => by
    have ih := sumP_filter r (fun x hx => h x (by simp [hx]))
    rcases Bool.eq_false_or_eq_true (p s) with e | e
    · rw [List.filter_cons_of_pos e]; show f s + _ = f s + _; rw [ih]
    · rw [List.filter_cons_of_neg (by simp [e])]; show _ = f s + _; rw [ih, h s (by simp) e]; omega
theorem sum_one {c : List Int} : ∀ L : List (List Int), L.Nodup → c ∈ L → sumP (fun s => if decide (c = s) = true then (1 : Int) else 0) L = 1
  | [], _, h => by cases h
  | s :: r, hn, h => by
    have hn' := List.nodup_cons.1 hn
    show (if decide (c = s) = true then (1 : Int) else 0) + sumP _ r = 1
    by_cases e : c = s
    · rw [if_pos (by simpa using e), sumP_zero r (fun x hx => if_neg (by
        rw [decide_eq_true_eq]
        intro e2
        exact hn'.1 (by rw [← e, e2]; exact hx)))]
      rfl
    · rw [if_neg (by simpa using e), sum_one r hn'.2 (by rcases List.mem_cons.1 h with q | q; exact absurd q e; exact q)]
      rfl
theorem sum_cnt {cut : Nat → List Int} {L : List (List Int)} (hn : L.Nodup) : ∀ N : Nat, (∀ t, t < N → cut t ∈ L) → sumP (fun s => cntT (fun t => decide (cut t = s)) N) L = N
  | 0, _ => sumP_zero L (fun _ _ => rfl)
  | N + 1, h => by
    show sumP (fun s => cntT (fun t => decide (cut t = s)) N + (if decide (cut N = s) = true then (1 : Int) else 0)) L = _
    rw [sumP_add, sum_cnt hn N (fun t ht => h t (by omega)), sum_one L hn (h N (by omega))]
    omega

end Go.Proofs.YtnkbfgnmodfemaaGreatDoor

/- The splits of a tree metric: no two of them clash, and their lengths make up the metric again (plain facts, the end). -/
namespace Go.Proofs.YtnkbfgnmodfemaaGreatDoor
open Go.RowKit

/-! ### All sides -/
theorem ris_of : ∀ (l : List Int) (lo hi : Int) (o : Option Int), l.Pairwise (· < ·) → (∀ x ∈ l, lo ≤ x ∧ x ≤ hi) → (∀ y, o = some y → ∀ x ∈ l, y < x) → risB lo hi o l = true
  | [], _, _, _, _, _, _ => risB_nil _ _ _
  | z :: zs, lo, hi, o, hp, hb, ho => by
    have hc := List.pairwise_cons.1 hp
    rw [risB_cons]
    have h1 := hb z (by simp)
    have h2 := ris_of zs lo hi (some z) hc.2 (fun x hx => hb x (by simp [hx])) (fun y hy x hx => by cases hy; exact hc.1 x hx)
    rw [h2, inB_iff.2 h1]
    cases o with
    | none => rfl
    | some y => have := ho y rfl z (by simp); simp [this]
theorem sides_rise : ∀ (m i : Nat) (xs l : List Int), l ∈ sidesL m i xs → ∃ t : List Int, l = xs ++ t ∧ t ≠ [] ∧ t.Pairwise (· < ·) ∧ ∀ y ∈ t, (i : Int) ≤ y ∧ y < ((i + m : Nat) : Int)
  | 0, _, _, _, h => by rw [sidesL_zero] at h; cases h
  | m + 1, i, xs, l, h => by
    rw [sidesL_succ] at h
    rcases List.mem_cons.1 h with h | h
    · exact ⟨[(i : Int)], h, by simp, by simp, fun y hy => by simp at hy; omega⟩
    · rcases List.mem_append.1 h with h | h
      · obtain ⟨t, e, _, h1, h2⟩ := sides_rise m (i + 1) _ l h
        refine ⟨(i : Int) :: t, by rw [e]; simp, by simp, List.pairwise_cons.2 ⟨fun y hy => ?_, h1⟩, fun y hy => ?_⟩
        · have := h2 y hy; omega
        · rcases List.mem_cons.1 hy with h | h
          · omega
          · have := h2 y h; omega
      · obtain ⟨t, e, h0, h1, h2⟩ := sides_rise m (i + 1) _ l h
        exact ⟨t, e, h0, h1, fun y hy => by have := h2 y hy; omega⟩
theorem sides_all : ∀ (m i : Nat) (xs t : List Int), t ≠ [] → t.Pairwise (· < ·) → (∀ y ∈ t, (i : Int) ≤ y ∧ y < ((i + m : Nat) : Int)) → xs ++ t ∈ sidesL m i xs
  | 0, i, xs, t, h0, _, h2 => by
    cases t with
    | nil => exact absurd rfl h0
    | cons y ys => have := h2 y (by simp); omega
  | m + 1, i, xs, t, h0, h1, h2 => by
    rw [sidesL_succ]
    cases t with
    | nil => exact absurd rfl h0
    | cons y ys =>
      have hc := List.pairwise_cons.1 h1
      have hy := h2 y (by simp)
      by_cases e : y = (i : Int)
      · subst e
        cases ys with
        | nil => exact List.mem_cons_self
        | cons z zs =>
          refine List.mem_cons_of_mem _ (List.mem_append_left _ ?_)
          have := sides_all m (i + 1) (xs ++ [(i : Int)]) (z :: zs) (by simp) hc.2 (fun q hq => by have := h2 q (by simp [hq]); have := hc.1 q hq; omega)
          rw [List.append_assoc] at this
          exact this
      · refine List.mem_cons_of_mem _ (List.mem_append_right _ ?_)
        refine sides_all m (i + 1) xs (y :: ys) (by simp) h1 (fun q hq => ?_)
        have := h2 q hq
        rcases List.mem_cons.1 hq with e2 | e2
        · omega
        · have := hc.1 q e2; omega
theorem sides_split {n : Nat} (h2 : 2 ≤ n) (h7 : n ≤ 7) {S : List Int} (h : S ∈ sidesL (n - 1) 1 []) : splitB n S = true := by
  obtain ⟨t, e, h0, h1, hb⟩ := sides_rise _ _ _ _ h
  obtain rfl : S = t := by simpa using e
  unfold splitB
  rw [inB_iff.2 (by omega), decide_eq_true (List.length_pos_iff.2 h0), ris_of S 1 ((n : Int) - 1) none h1 (fun x hx => by have := hb x hx; omega) (fun y hy => by cases hy)]
  rfl
theorem split_sides {n : Nat} {S : List Int} (h : splitB n S = true) : S ∈ sidesL (n - 1) 1 [] := by
  unfold splitB at h
  simp only [Bool.and_eq_true, decide_eq_true_eq] at h
  have hn := inB_iff.1 h.1
  have h1 := ris_all _ _ _ _ h.2.2
  have h2 := ris_pair _ _ _ _ h.2.2
  have := sides_all (n - 1) 1 [] S (List.length_pos_iff.1 h.2.1) h2.1 (fun y hy => by have := h1 y hy; omega)
  simpa using this
theorem split_zero {n : Nat} {S : List Int} (h : splitB n S = true) : sd S 0 = false := by
  unfold splitB at h
  simp only [Bool.and_eq_true] at h
  have h1 := ris_all _ _ _ _ h.2.2
  unfold sd hasB
  rw [List.any_eq_false]
  intro x hx
  have := h1 x hx
  simp
  omega
theorem split_form {n : Nat} {S : List Int} (h : splitB n S = true) : S = ((List.range n).filter (sd S)).map fun (x : Nat) => (x : Int) := by
  have h1 := split_ins h
  have h2 := split_in h
  unfold insL at h1
  show S = ((List.range n).filter fun (i : Nat) => hasB S i).map _
  rw [h1, List.map_map]
  have : ∀ l : List Int, (∀ x ∈ l, 0 ≤ x) → l = l.map ((fun (x : Nat) => (x : Int)) ∘ Int.toNat) := by
    intro l
    induction l with
    | nil => intro _; rfl
    | cons y ys ih =>
      intro hl
      have := hl y (by simp)
      rw [List.map_cons, ← ih (fun x hx => hl x (by simp [hx]))]
      simp only [Function.comp]
      rw [Int.toNat_of_nonneg this]
  exact this S (fun x hx => (h2 x hx).1)

/-! ### The cut at height t -/
def cutQ (m : Nat → Nat → Int) (i k t x : Nat) : Bool := decide (pF m i k x ≤ (t : Int)) != decide (pF m i k 0 ≤ (t : Int))
def cutS (n : Nat) (m : Nat → Nat → Int) (i k t : Nat) : List Int := ((List.range n).filter (cutQ m i k t)).map fun (x : Nat) => (x : Int)
theorem cut_sd {n : Nat} {m : Nat → Nat → Int} {i k t x : Nat} (hx : x < n) : sd (cutS n m i k t) x = cutQ m i k t x := by
  rw [Bool.eq_iff_iff, sd_iff, cutS, List.mem_map]
  constructor
  · rintro ⟨y, hy, e⟩
    obtain rfl : y = x := by omega
    exact (List.mem_filter.1 hy).2
  · intro h
    exact ⟨x, List.mem_filter.2 ⟨List.mem_range.2 hx, h⟩, rfl⟩
theorem cut_eq {n : Nat} {m : Nat → Nat → Int} {i k t : Nat} {S : List Int} (hs : splitB n S = true) : cutS n m i k t = S ↔ ∀ x, x < n → sd S x = cutQ m i k t x := by
  constructor
  · intro e x hx
    rw [← e]
    exact cut_sd hx
  · intro h
    rw [split_form hs, cutS]
    congr 1
    exact List.filter_congr fun x hx => (h x (List.mem_range.1 hx)).symm
theorem cut_split {M : List (List Int)} (hM : metB M = true) {i k t : Nat} (hi : i < M.length) (hk : k < M.length) (ht : (t : Int) < 2 * ent M i k) : splitB M.length (cutS M.length (ent M) i k t) = true ∧ sd (cutS M.length (ent M) i k t) i ≠ sd (cutS M.length (ent M) i k t) k := by
  have hm := (met_iff.1 hM).2
  have h2 := hm.n2
  have h7 := hm.n7
  have di := hm.diag i hi
  have dk := hm.diag k hk
  have sy := hm.sym i k hi hk
  have q1 : decide (pF (ent M) i k i ≤ (t : Int)) = true := decide_eq_true (by unfold pF; omega)
  have q2 : decide (pF (ent M) i k k ≤ (t : Int)) = false := decide_eq_false (by unfold pF; omega)
  have hne : cutQ (ent M) i k t i ≠ cutQ (ent M) i k t k := by
    unfold cutQ
    rw [q1, q2]
    cases decide (pF (ent M) i k 0 ≤ (t : Int)) <;> simp
  have h0 : cutQ (ent M) i k t 0 = false := by unfold cutQ; simp
  refine ⟨?_, by rw [cut_sd hi, cut_sd hk]; exact hne⟩
  have hp : ((List.range M.length).filter (cutQ (ent M) i k t)).Pairwise (· < ·) := List.Pairwise.filter _ List.pairwise_lt_range
  have hpi : (cutS M.length (ent M) i k t).Pairwise (· < ·) := by
    rw [cutS, List.pairwise_map]
    exact hp.imp (by intro a b h; omega)
  have hb : ∀ x ∈ cutS M.length (ent M) i k t, 1 ≤ x ∧ x ≤ (M.length : Int) - 1 := fun x hx => by
    rw [cutS, List.mem_map] at hx
    obtain ⟨y, hy, rfl⟩ := hx
    have hf := List.mem_filter.1 hy
    have := List.mem_range.1 hf.1
    have : y ≠ 0 := fun e => by
      have h1 := hf.2
      rw [e, h0] at h1
      cases h1
    omega
  have hl : cutS M.length (ent M) i k t ≠ [] := fun e => by
    have e1 := cut_sd (m := ent M) (i := i) (k := k) (t := t) hi
    have e2 := cut_sd (m := ent M) (i := i) (k := k) (t := t) hk
    rw [e] at e1 e2
    exact hne (e1.symm.trans e2)
  unfold splitB
  rw [inB_iff.2 (by omega), decide_eq_true (List.length_pos_iff.2 hl), ris_of _ 1 ((M.length : Int) - 1) none hpi hb (fun y hy => by cases hy)]
  rfl

/-! ### The lengths make up the metric -/
theorem dec_iff {p q : Prop} [Decidable p] [Decidable q] : (p ↔ q) ↔ (decide p = decide q) := by
  by_cases h1 : p <;> by_cases h2 : q <;> simp [h1, h2]
theorem len_sum {M : List (List Int)} (hM : metB M = true) (hT : Tree M.length (ent M)) {i k : Nat} (hi : i < M.length) (hk : k < M.length) :
    sumP (fun a => if hasB a (i : Int) == hasB a (k : Int) then 0 else lenF M a) (splL M) = 2 * ent M i k := by
  have hm := (met_iff.1 hM).2
  have hnn := hm.nonneg hi hk
  rw [splL, sumP_filter _ (fun s _ hp => by
    have h1 := of_decide_eq_false hp
    have h2 := lenF_pos (M := M) (S := s)
    split
    · rfl
    · omega)]
  obtain ⟨N, hN⟩ : ∃ N : Nat, 2 * ent M i k = N := ⟨(2 * ent M i k).toNat, by omega⟩
  have hs := sum_cnt (cut := cutS M.length (ent M) i k) (sides_nodup (M.length - 1) 1 []) N (fun t ht => split_sides (cut_split hM hi hk (by omega)).1)
  rw [hN, ← hs]
  refine sumP_congr _ fun S hS => ?_
  have hsp := sides_split hm.n2 hm.n7 hS
  by_cases e : sd S i = sd S k
  · have : (hasB S (i : Int) == hasB S (k : Int)) = true := by
      have e' : hasB S (i : Int) = hasB S (k : Int) := e
      rw [e']
      simp
    rw [this, if_pos rfl]
    symm
    refine cnt_zero N fun t ht => decide_eq_false fun h => ?_
    have := (cut_split hM hi hk (t := t) (by omega)).2
    rw [h] at this
    exact this e
  · have hf : (hasB S (i : Int) == hasB S (k : Int)) = false := by
      have e' : ¬ hasB S (i : Int) = hasB S (k : Int) := e
      simpa using e'
    rw [hf, if_neg (by simp)]
    obtain ⟨α, β, h1, h2, h3, h4⟩ := len_iv hM hT hsp hi hk e
    have hz := split_zero hsp
    rw [h3, show max 0 (β - α) = max 0 (min β N - α) by omega, ← cnt_iv h1 N]
    refine cnt_congr N fun t ht => ?_
    rw [Bool.eq_iff_iff, decide_eq_true_eq, decide_eq_true_eq, ← h4 (t : Int), cut_eq hsp]
    have di := hm.diag i hi
    have q1 : decide (pF (ent M) i k i ≤ (t : Int)) = true := decide_eq_true (by unfold pF; have := hm.sym i k hi hk; omega)
    have key : ∀ x, (sd S x = sd S i ↔ pF (ent M) i k x ≤ (t : Int)) ↔ (decide (sd S x = sd S i) = decide (pF (ent M) i k x ≤ (t : Int))) := fun _ => dec_iff
    constructor
    · intro h x hx
      have a0 := (key 0).1 (h 0 (by have := hm.n2; omega))
      have ax := (key x).1 (h x hx)
      unfold cutQ
      rw [← ax, ← a0, hz]
      generalize sd S x = u
      generalize sd S i = v
      cases u <;> cases v <;> rfl
    · intro h x hx
      refine (key x).2 ?_
      have a1 := h i hi
      have ax := h x hx
      unfold cutQ at a1 ax
      rw [q1] at a1
      rw [ax, a1]
      generalize decide (pF (ent M) i k x ≤ (t : Int)) = u
      generalize decide (pF (ent M) i k 0 ≤ (t : Int)) = v
      cases u <;> cases v <;> rfl

theorem sumS_eq {f : List Int → Int} {T : List Int} {i j : Int} : ∀ (L : List (List Int)) (k : Nat) (acc : Int), T.drop k = L.map f → sumS T i j k acc L = acc + sumP (fun a => if hasB a i == hasB a j then 0 else f a) L
  | [], k, acc, _ => by rw [sumS_nil]; show acc = acc + 0; omega
  | a :: rest, k, acc, h => by
    have hk : k < T.length := by
      by_cases q : k < T.length
      · exact q
      · rw [List.drop_eq_nil_of_le (by omega)] at h; cases h
    have hd := drop_cons T 0 k hk
    rw [hd, List.map_cons] at h
    have h1 := (List.cons.inj h).1
    have h2 := (List.cons.inj h).2
    show _ = acc + ((if hasB a i == hasB a j then 0 else f a) + sumP _ rest)
    by_cases e : hasB a i = hasB a j
    · rw [sumS_same _ _ _ _ _ _ _ e, sumS_eq rest (k + 1) acc h2, if_pos (by simpa using e)]
      omega
    · rw [sumS_diff _ _ _ _ _ _ _ e, sumS_eq rest (k + 1) _ h2, if_neg (by simpa using e), h1]
      omega
theorem mosRow_some {f : Nat → Int} : ∀ (d j : Nat) (acc r : List Int), mosRow f d j acc = some r → r = acc ++ (List.range' j d).map fun j => f j / 2
  | 0, _, _, _, h => by rw [mosRow_zero] at h; cases h; simp
  | d + 1, j, acc, r, h => by
    rcases Bool.eq_false_or_eq_true (f j % 2 == 0) with t | t
    · rw [mosRow_even _ _ _ _ t] at h
      rw [mosRow_some d (j + 1) _ r h, List.range'_succ]
      simp
    · rw [mosRow_odd _ _ _ _ t] at h; cases h
theorem mosAll_some {F : Nat → Nat → Int} {n : Nat} : ∀ (d i : Nat) (acc R : List (List Int)), mosAll F n d i acc = some R → R = acc ++ (List.range' i d).map fun i => (List.range' 0 n).map fun j => F i j / 2
  | 0, _, _, _, h => by rw [mosAll_zero] at h; cases h; simp
  | d + 1, i, acc, R, h => by
    rw [mosAll_succ] at h
    cases hr : mosRow (F i) n 0 [] with
    | none => rw [hr] at h; cases h
    | some r =>
      rw [hr] at h
      have h' : mosAll F n d (i + 1) (acc ++ [r]) = some R := h
      rw [mosAll_some d (i + 1) _ R h', List.range'_succ, mosRow_some n 0 [] r hr]
      simp
theorem back_law {M : List (List Int)} (hM : metB M = true) (hT : (badF M).isNone = true) {R : List (List Int)} (h : mosB M.length (splL M) ((splL M).map (lenF M)) = (R, true)) : R = M := by
  have hT' := (isNone_iff hM).1 hT
  have hm := met_iff.1 hM
  unfold mosB at h
  split at h
  · cases hc : mosAll (mosF (splL M) ((splL M).map (lenF M))) (M.length : Int).toNat (M.length : Int).toNat 0 [] with
    | none => rw [hc, fin_none] at h; cases h
    | some Q =>
      rw [hc] at h
      rcases Bool.eq_false_or_eq_true (metB Q) with t | t
      · rw [fin_yes Q t] at h
        obtain rfl : Q = R := (Prod.mk.inj h).1
        have hq := mosAll_some _ _ _ _ hc
        rw [Int.toNat_natCast, List.nil_append] at hq
        have hl : Q.length = M.length := by rw [hq]; simp
        have hsq : sqB Q M.length = true := by rw [← hl]; exact (met_iff.1 t).1
        refine sq_ext hl hsq rfl hm.1 fun i j hi hj => ?_
        have h1 := sumS_eq (f := lenF M) (T := (splL M).map (lenF M)) (i := (i : Int)) (j := (j : Int)) (splL M) 0 0 (by simp)
        rw [len_sum hM hT' hi hj] at h1
        have h2 : ent Q i j = mosF (splL M) ((splL M).map (lenF M)) i j / 2 := by
          rw [hq]
          unfold ent
          simp [List.getD, hi, hj]
        rw [h2, mosF, h1]
        omega
      · rw [fin_no Q t] at h; cases h
  · cases h

/-! ### No two splits clash -/
theorem fit_no {a b : List Int} (h : fitB a b = false) : (∃ x, x ∈ a ∧ x ∈ b) ∧ (∃ x, x ∈ a ∧ x ∉ b) ∧ meetN a b ≠ b.length := by
  unfold fitB at h
  simp only [Bool.or_eq_false_iff, beq_eq_false_iff_ne] at h
  obtain ⟨h1, h2, h3⟩ := h
  have hin : ∀ x : Int, hasB b x = true ↔ x ∈ b := fun x => by
    unfold hasB
    rw [List.any_eq_true]
    exact ⟨fun ⟨y, hy, e⟩ => by rw [← (beq_iff_eq.1 e)]; exact hy, fun h => ⟨_, h, by simp⟩⟩
  refine ⟨?_, ?_, h3⟩
  · unfold meetN at h1
    obtain ⟨x, hx⟩ := List.exists_mem_of_length_pos (Nat.pos_of_ne_zero h1)
    have := List.mem_filter.1 hx
    exact ⟨x, this.1, (hin x).1 this.2⟩
  · refine Classical.byContradiction fun hno => h2 ?_
    unfold meetN
    rw [List.filter_eq_self.2 (fun x hx => (hin x).2 (Classical.byContradiction fun q => hno ⟨x, hx, q⟩))]
theorem nd_leI : ∀ (A B : List Int), A.Nodup → (∀ x ∈ A, x ∈ B) → A.length ≤ B.length
  | [], _, _, _ => Nat.zero_le _
  | a :: t, B, hn, hs => by
    have ha := hs a (by simp)
    have hn' := List.nodup_cons.1 hn
    have h1 := nd_leI t (B.erase a) hn'.2 (fun x hx => (List.mem_erase_of_ne (fun (e : x = a) => hn'.1 (by rw [← e]; exact hx))).2 (hs x (by simp [hx])))
    have h2 := List.length_erase_of_mem ha
    have h3 := List.length_pos_of_mem ha
    simp only [List.length_cons]
    omega
theorem fit_no2 {a b : List Int} (ha : a.Nodup) (hb : b.Nodup) (h : fitB a b = false) : ∃ x, x ∈ b ∧ x ∉ a := by
  have h3 := (fit_no h).2.2
  refine Classical.byContradiction fun hno => h3 ?_
  have hin : ∀ (l : List Int) (x : Int), hasB l x = true ↔ x ∈ l := fun l x => by
    unfold hasB
    rw [List.any_eq_true]
    exact ⟨fun ⟨y, hy, e⟩ => by rw [← (beq_iff_eq.1 e)]; exact hy, fun h => ⟨_, h, by simp⟩⟩
  have g1 : meetN a b ≤ b.length := by
    unfold meetN
    exact nd_leI _ _ (ha.filter _) (fun x hx => (hin b x).1 (List.mem_filter.1 hx).2)
  have g2 : b.length ≤ meetN a b := by
    unfold meetN
    exact nd_leI _ _ hb (fun x hx => List.mem_filter.2 ⟨Classical.byContradiction fun q => hno ⟨x, hx, q⟩, (hin b x).2 hx⟩)
  omega
theorem pair_nodup {l : List Int} (h : l.Pairwise (· < ·)) : l.Nodup := h.imp (by intro a b h e; omega)
theorem split_nodup {n : Nat} {S : List Int} (h : splitB n S = true) : S.Nodup := by
  unfold splitB at h
  simp only [Bool.and_eq_true] at h
  exact pair_nodup (ris_pair _ _ _ _ h.2.2).1
theorem spl_fit {M : List (List Int)} (hM : metB M = true) (hT : Tree M.length (ent M)) {S T : List Int} (hs : splitB M.length S = true) (ht : splitB M.length T = true) (ps : 1 ≤ lenF M S) (pt : 1 ≤ lenF M T) : fitB S T = true := by
  rcases Bool.eq_false_or_eq_true (fitB S T) with f | f
  · exact f
  · exfalso
    have hm := (met_iff.1 hM).2
    obtain ⟨⟨p, p1, p2⟩, ⟨q, q1, q2⟩, _⟩ := fit_no f
    obtain ⟨r, r1, r2⟩ := fit_no2 (split_nodup hs) (split_nodup ht) f
    have bp := split_in hs p p1
    have bq := split_in hs q q1
    have br := split_in ht r r1
    obtain ⟨p', rfl⟩ : ∃ z : Nat, p = z := ⟨p.toNat, by omega⟩
    obtain ⟨q', rfl⟩ : ∃ z : Nat, q = z := ⟨q.toNat, by omega⟩
    obtain ⟨r', rfl⟩ : ∃ z : Nat, r = z := ⟨r.toNat, by omega⟩
    have no : ∀ {l : List Int} {x : Nat}, (x : Int) ∉ l → sd l x = false := fun {l x} h => by
      cases e : sd l x
      · rfl
      · exact absurd (sd_iff.1 e) h
    have h0 : 0 < M.length := by have := hm.n2; omega
    have v1 := (lenF_iff hs (Int.le_refl 1) (by omega)).1 ps p' q' r' 0 (by omega) (by omega) (by omega) h0 (sd_iff.2 p1) (sd_iff.2 q1) (no r2) (split_zero hs)
    have v2 := (lenF_iff ht (Int.le_refl 1) (by omega)).1 pt p' r' q' 0 (by omega) (by omega) (by omega) h0 (sd_iff.2 p2) (sd_iff.2 r1) (no q2) (split_zero ht)
    have h4 := hT p' q' r' 0 (by omega) (by omega) (by omega) h0
    have sy := hm.sym r' q' (by omega) (by omega)
    unfold vF at v1 v2
    unfold Four at h4
    omega
theorem no_clash {M : List (List Int)} (hM : metB M = true) (hT : (badF M).isNone = true) : clashB M.length (splL M) = ((0, 0), false) := by
  have hT' := (isNone_iff hM).1 hT
  have hm := (met_iff.1 hM).2
  rcases Bool.eq_false_or_eq_true (splitsB M.length (splL M)) with t | t
  · cases hc : clashL 0 (splL M) with
    | none => exact clashB_none _ _ t hc
    | some p =>
      exfalso
      obtain ⟨a, b, _, h2, h3, h4⟩ := clash_found hc
      have mem : ∀ x, x < (splL M).length → splitB M.length ((splL M).getD x []) = true ∧ 1 ≤ lenF M ((splL M).getD x []) := fun x hx => by
        have h1 : (splL M).getD x [] ∈ splL M := by
          rw [List.getD_eq_getElem?_getD, List.getElem?_eq_getElem hx]
          exact List.getElem_mem hx
        generalize (splL M).getD x [] = S at h1
        rw [splL] at h1
        have h5 := List.mem_filter.1 h1
        exact ⟨sides_split hm.n2 hm.n7 h5.1, of_decide_eq_true h5.2⟩
      have ma := mem a (by omega)
      have mb := mem b h3
      rw [spl_fit hM hT' ma.1 mb.1 ma.2 mb.2] at h4
      cases h4
  · exact clashB_bad _ _ t

end Go.Proofs.YtnkbfgnmodfemaaGreatDoor

/- Drawn tree metrics, splits with numbers (printed by wip/splitdraw4.py). -/
namespace Go.Proofs.YtnkbfgnmodfemaaGreatDoor
open Go.RowKit
open Go.Lib (hid)

theorem rmat_two {w : World} {u v : Value} {c d : List Int} (h : RInts w u c) (h' : RInts w v d) : RMat (w.alloc (.cells #[u, v] 27)) (.slice (some ⟨w.heap.size, 0, none⟩) 2 2) [c, d] ∧ Below w.heap.size w (w.alloc (.cells #[u, v] 27)) := by
  have hal : Below w.heap.size w (w.alloc (.cells #[u, v] 27)) := (Below.refl _ _).alloc (Nat.le_refl _) _
  have hbx : (w.alloc (.cells #[u, v] 27)).heap[w.heap.size]? = some (.cells #[u, v] 27 (0, 0)) := heap_alloc_new _ _
  refine ⟨⟨_, 2, rfl, Nat.le_refl _, by unfold maxLen; omega, fun i hi => ?_⟩, hal⟩
  rcases (show i = 0 ∨ i = 1 by simp at hi; omega) with rfl | rfl
  · exact ⟨w.heap.size, 0, u, rfl, by rw [cell_of_row _ _ _ _ _ _ hbx]; rfl, h.keep hal⟩
  · exact ⟨w.heap.size, 0, v, rfl, by rw [cell_of_row _ _ _ _ _ _ hbx]; rfl, h'.keep hal⟩
def RetMz (w : World) (e : Ending) (w' : World) : Prop := ∃ (v : Value) (A : List (List Int)), e = .returned v ∧ 2 ≤ A.length ∧ A.length ≤ 7 ∧ RMat w' v A ∧ Below w.heap.size w w'
def RetMI (w : World) (e : Ending) (w' : World) : Prop := ∃ (v u : Value) (A : List (List Int)) (S : List Int), e = .returned (.tuple #[v, u]) ∧ RMat w' v A ∧ RInts w' u S ∧ Below w.heap.size w w'
def RetNLt (w : World) (e : Ending) (w' : World) : Prop := ∃ (n : Int) (v u : Value) (L : List (List Int)) (t : List Int), e = .returned (.tuple #[.int .i64 n, v, u]) ∧ RMat w' v L ∧ RInts w' u t ∧ Below w.heap.size w w'
theorem NS.down {w : World} {lo lo' hi : Nat} {lv uv : Value} {Z : List (Value × List Int)} {xs : List Int} (s : NS w lo hi lv uv Z xs) (h : lo' ≤ lo) : NS w lo' hi lv uv Z xs :=
  ⟨own_mono s.rows h, s.lat, s.pool.mono h (Nat.le_refl _), s.tw.mono h (Nat.le_refl _), s.pn⟩

set_option maxRecDepth 100000 in
set_option maxHeartbeats 4000000 in
theorem DrawSplitsOf_c (v : Value) (n : Nat) (w : World) (h : RBytes w v n) :
    Calls Tryz.prog 4 #[v] w (RetMz w) := by
  have HC := hid (cur_new h)
  obtain ⟨a, cap, rfl, _, _⟩ := h.form
  clear h
  obtain ⟨b, hb⟩ : ∃ b, w.heap.size = b := ⟨_, rfl⟩
  obtain ⟨w0, hw0⟩ : ∃ w0, w.alloc (.cells #[.slice a n cap, .int .i64 0, .int .u64 0] 51) = w0 := ⟨_, rfl⟩
  have HW0 := hid hw0
  have HC0 : Hid (Cur w0 b 0) := by show Cur _ _ _; rw [← hw0, ← hb]; exact HC.out
  have HB := hid hb
  obtain ⟨lo, hlo⟩ : ∃ lo, w0.heap.size = lo := ⟨_, rfl⟩
  have hlt0 := HC0.out.lt
  rw [hlo] at hlt0
  have HS0 : Hid (lo ≤ w0.heap.size) := Nat.le_of_eq hlo.symm
  have HD0 : Hid (Dr b lo w0 w0) := Dr.refl _ _ _
  have HFRESH : Hid (∀ w', Dr b lo w0 w' → Below w.heap.size w w') := fun w' hd => by
    rw [← hlo, ← hw0, ← hb] at hd; exact Dr.fresh hd
  clear hb hw0 HC hlo
  go_enter Tryz.func4, Tryz.ntmps4
  go_wp2_with fail
  rw [HB.out, HW0.out]
  refine (treeMetric_c b 0 _ HC0.out (by omega)).mono ?_
  rintro e w1 ⟨va, A, rfl, hA2, hA7, hA1, hc1, hd1⟩
  have HC1 := hid (hc1.more (show _ ≤ (0 + 2000) by omega))
  have HD1 := hid (HD0.out.trans (hd1.low HS0.out))
  have HS1 : Hid (lo ≤ w1.heap.size) := Nat.le_trans HS0.out hd1.size
  have A_1 := hid ((hA1.mono HS0.out (Nat.le_refl _)))
  obtain ⟨aa, na, ca, rfl⟩ := hA1.form3
  obtain ⟨hna, _⟩ : na = A.length ∧ True := ⟨by obtain ⟨_, _, he, _⟩ := hA1.r; simp only [Value.slice.injEq] at he; exact he.2.1, trivial⟩
  have HAL := hid (And.intro hA2 hA7)
  rw [← hna] at hA2 hA7
  clear hna hA1
  clear hc1 hd1
  go_wp2
  go_ret
  exact ⟨.slice aa na ca, A, rfl, HAL.out.1, HAL.out.2, A_1.out.r, HFRESH.out _ HD1.out⟩

set_option maxRecDepth 100000 in
set_option maxHeartbeats 4000000 in
theorem DrawTwiceLengthOf_c (v : Value) (n : Nat) (w : World) (h : RBytes w v n) :
    Calls Tryz.prog 22 #[v] w (RetMI w) := by
  have HC := hid (cur_new h)
  obtain ⟨a, cap, rfl, _, _⟩ := h.form
  clear h
  obtain ⟨b, hb⟩ : ∃ b, w.heap.size = b := ⟨_, rfl⟩
  obtain ⟨w0, hw0⟩ : ∃ w0, w.alloc (.cells #[.slice a n cap, .int .i64 0, .int .u64 0] 51) = w0 := ⟨_, rfl⟩
  have HW0 := hid hw0
  have HC0 : Hid (Cur w0 b 0) := by show Cur _ _ _; rw [← hw0, ← hb]; exact HC.out
  have HB := hid hb
  obtain ⟨lo, hlo⟩ : ∃ lo, w0.heap.size = lo := ⟨_, rfl⟩
  have hlt0 := HC0.out.lt
  rw [hlo] at hlt0
  have HS0 : Hid (lo ≤ w0.heap.size) := Nat.le_of_eq hlo.symm
  have HD0 : Hid (Dr b lo w0 w0) := Dr.refl _ _ _
  have HFRESH : Hid (∀ w', Dr b lo w0 w' → Below w.heap.size w w') := fun w' hd => by
    rw [← hlo, ← hw0, ← hb] at hd; exact Dr.fresh hd
  clear hb hw0 HC hlo
  go_enter Tryz.func22, Tryz.ntmps22
  go_wp2_with fail
  rw [HB.out, HW0.out]
  refine (treeMetric_c b 0 _ HC0.out (by omega)).mono ?_
  rintro e w1 ⟨va, A, rfl, hA2, hA7, hA1, hc1, hd1⟩
  have HC1 := hid (hc1.more (show _ ≤ (0 + 2000) by omega))
  have HD1 := hid (HD0.out.trans (hd1.low HS0.out))
  have HS1 : Hid (lo ≤ w1.heap.size) := Nat.le_trans HS0.out hd1.size
  have A_1 := hid ((hA1.mono HS0.out (Nat.le_refl _)))
  obtain ⟨aa, na, ca, rfl⟩ := hA1.form3
  obtain ⟨hna, _⟩ : na = A.length ∧ True := ⟨by obtain ⟨_, _, he, _⟩ := hA1.r; simp only [Value.slice.injEq] at he; exact he.2.1, trivial⟩
  have HAL := hid (And.intro hA2 hA7)
  rw [← hna] at hA2 hA7
  clear hna hA1
  clear hc1 hd1
  have hna7 : (na : Int) ≤ 7 := by omega
  clear hA2 hA7
  go_wp2_with fail
  refine (slTree_c _ A _ A_1.out.r).mono ?_
  rintro e w2 ⟨rfl, hb2⟩
  have HC2 := hid (HC1.out.keep hb2)
  have HD2 := hid (HD1.out.below (hb2.mono HS1.out))
  have A_2 := hid (A_1.out.grw hb2)
  have HS2 : Hid (lo ≤ w2.heap.size) := Nat.le_trans HS1.out hb2.size
  clear hb2
  rcases Bool.eq_false_or_eq_true (treeB A) with tt | tt
  · rw [tt]
    go_wp2_with fail
    refine (one_c b (0 + 2000) 2 _ HC2.out (by omega) (by omega)).mono ?_
    rintro e w3 ⟨x, rfl, hc3, ht3⟩
    have HC3 := hid (hc3.more (show _ ≤ (0 + 2002) by omega))
    have HD3 := hid (HD2.out.touch HS0.out ht3)
    have A_3 := hid (A_2.out.tch ht3 hlt0)
    have HS3 : Hid (lo ≤ w3.heap.size) := Nat.le_trans HS2.out ht3.size
    clear hc3 ht3
    cases x
    · go_wp2_with fail
      refine (side_c b (0 + 2002) (na : Int) _ HC3.out (by omega)).mono ?_
      rintro e w4 ⟨vs, S, rfl, _, hX4, hc4, hd4⟩
      have HC4 := hid (hc4.more (show _ ≤ (0 + 2102) by omega))
      have HD4 := hid (HD3.out.trans (hd4.low HS3.out))
      have A_4 := hid (A_3.out.dr hd4 hlt0)
      have HS4 : Hid (lo ≤ w4.heap.size) := Nat.le_trans HS3.out hd4.size
      have X_4 := hid ((hX4.mono HS3.out (Nat.le_refl _)))
      obtain ⟨ax, nx, cx, rfl⟩ := hX4.form3
      clear hX4
      clear hc4 hd4
      go_wp2
      go_ret2
      exact ⟨_, _, A, S, rfl, A_4.out.r, X_4.out.r, HFRESH.out _ HD4.out⟩
    · go_wp2_with fail
      refine (slOf_c _ A _ (treeB_met tt) A_3.out.r).mono ?_
      rintro e w4 ⟨vl, rfl, hL4, hb4⟩
      have HC4 := hid (HC3.out.keep hb4)
      have HD4 := hid (HD3.out.below (hb4.mono HS3.out))
      have A_4 := hid (A_3.out.grw hb4)
      have HS4 : Hid (lo ≤ w4.heap.size) := Nat.le_trans HS3.out hb4.size
      have L_4 := hid ((hL4.mono HS3.out (Nat.le_refl _)))
      obtain ⟨al, nl, cl, rfl⟩ := hL4.form3
      obtain ⟨hnl, hnl2⟩ : nl = (splL A).length ∧ nl ≤ 128 := ⟨by obtain ⟨_, _, he, _⟩ := hL4.r; simp only [Value.slice.injEq] at he; exact he.2.1, by
        obtain ⟨_, _, he, _⟩ := hL4.r
        simp only [Value.slice.injEq] at he
        rw [he.2.1]
        exact Nat.le_trans (List.length_filter_le _ _) (sidesL_small (by have := metB_parts (treeB_met tt); omega) 1 [])⟩
      clear hL4
      clear hb4
      by_cases hpos : (nl : Int) > 0
      · have HNL := hid (And.intro hnl hnl2)
        have HTT := hid tt
        have hnz : (nl : Int) ≤ 60000 := by omega
        clear hnl hnl2 tt
        have HCd : Hid (Cur w4.drew b (0 + 2002)) := HC4.out
        have LPd : Hid (FMat w4.drew lo w4.drew.heap.size (.slice al nl cl) (splL A)) := L_4.out
        have APd : Hid (FMat w4.drew lo w4.drew.heap.size (.slice aa na ca) A) := A_4.out
        have DPd : Hid (Dr b lo w0 w4.drew) := ⟨HD4.out.os, HD4.out.tape, HD4.out.output, HD4.out.size, HD4.out.block⟩
        go_wp2
        go_region_with (go_at_call 48; (with_reducible refine (pick_c b (0 + 2002) (nl : Int) _ HCd.out (by omega) hnz).mono ?_); rintro e wp ⟨y, rfl, ⟨hy1, hy2⟩, hcp, htp⟩; have LP := (LPd.out.tch htp hlt0).r; have AP := hid (APd.out.tch htp hlt0).r; have DP := hid (DPd.out.touch HS0.out htp); clear hcp htp; obtain ⟨i, rfl⟩ : ∃ i : Nat, y = i := ⟨y.toNat, by omega⟩; obtain ⟨al2, cl2, hv, _, _, hcells⟩ := LP; simp only [Value.slice.injEq] at hv; obtain ⟨rfl, -, rfl⟩ := hv; obtain ⟨gl, ol, r, rfl, hcr, hrr⟩ := hcells i (Nat.lt_of_lt_of_eq (show i < nl by omega) HNL.out.1); have RR := hid hrr; have hiz : (i : Int) < (nl : Int) := (by omega); clear hcells hrr hy1 hy2)
        all_goals
          go_wp2
          go_ret2
          exact ⟨_, r, A, _, rfl, AP.out, RR.out, HFRESH.out _ DP.out⟩
      · clear hnl hnl2
        go_wp2_with fail
        refine (side_c b (0 + 2002) (na : Int) _ HC4.out (by omega)).mono ?_
        rintro e w5 ⟨vs, S, rfl, _, hX5, hc5, hd5⟩
        have HC5 := hid (hc5.more (show _ ≤ (0 + 2102) by omega))
        have HD5 := hid (HD4.out.trans (hd5.low HS4.out))
        have A_5 := hid (A_4.out.dr hd5 hlt0)
        have HS5 : Hid (lo ≤ w5.heap.size) := Nat.le_trans HS4.out hd5.size
        have X_5 := hid ((hX5.mono HS4.out (Nat.le_refl _)))
        obtain ⟨ax, nx, cx, rfl⟩ := hX5.form3
        clear hX5
        clear hc5 hd5
        go_wp2
        go_ret2
        exact ⟨_, _, A, S, rfl, A_5.out.r, X_5.out.r, HFRESH.out _ HD5.out⟩
  · rw [tt]
    go_wp2_with fail
    refine (side_c b (0 + 2000) (na : Int) _ HC2.out (by omega)).mono ?_
    rintro e w3 ⟨vs, S, rfl, _, hX3, hc3, hd3⟩
    have HC3 := hid (hc3.more (show _ ≤ (0 + 2100) by omega))
    have HD3 := hid (HD2.out.trans (hd3.low HS2.out))
    have A_3 := hid (A_2.out.dr hd3 hlt0)
    have HS3 : Hid (lo ≤ w3.heap.size) := Nat.le_trans HS2.out hd3.size
    have X_3 := hid ((hX3.mono HS2.out (Nat.le_refl _)))
    obtain ⟨ax, nx, cx, rfl⟩ := hX3.form3
    clear hX3
    clear hc3 hd3
    go_wp2
    go_ret2
    exact ⟨_, _, A, S, rfl, A_3.out.r, X_3.out.r, HFRESH.out _ HD3.out⟩

set_option maxRecDepth 100000 in
set_option maxHeartbeats 4000000 in
theorem DrawMetricOfSplits_c (v : Value) (n : Nat) (w : World) (h : RBytes w v n) :
    Calls Tryz.prog 20 #[v] w (RetNLt w) := by
  have HC := hid (cur_new h)
  obtain ⟨a, cap, rfl, _, _⟩ := h.form
  clear h
  obtain ⟨b, hb⟩ : ∃ b, w.heap.size = b := ⟨_, rfl⟩
  obtain ⟨w0, hw0⟩ : ∃ w0, w.alloc (.cells #[.slice a n cap, .int .i64 0, .int .u64 0] 51) = w0 := ⟨_, rfl⟩
  have HW0 := hid hw0
  have HC0 : Hid (Cur w0 b 0) := by show Cur _ _ _; rw [← hw0, ← hb]; exact HC.out
  have HB := hid hb
  obtain ⟨lo, hlo⟩ : ∃ lo, w0.heap.size = lo := ⟨_, rfl⟩
  have hlt0 := HC0.out.lt
  rw [hlo] at hlt0
  have HS0 : Hid (lo ≤ w0.heap.size) := Nat.le_of_eq hlo.symm
  have HD0 : Hid (Dr b lo w0 w0) := Dr.refl _ _ _
  have HFRESH : Hid (∀ w', Dr b lo w0 w' → Below w.heap.size w w') := fun w' hd => by
    rw [← hlo, ← hw0, ← hb] at hd; exact Dr.fresh hd
  have HB1 : Hid (b + 1 = w0.heap.size) := by show _ = _; rw [← hw0, ← hb]; simp
  clear hb hw0 HC hlo
  go_enter Tryz.func20, Tryz.ntmps20
  have HLT := hid (ints_lit w0 w0.heap.size (Nat.le_refl _) [3, 4, 4, 5, 2, 7] (by simp)).r
  have HAL : Hid (Below w0.heap.size w0 _) := (Below.refl w0.heap.size w0).alloc (Nat.le_refl _) (.cells ([3, 4, 4, 5, 2, 7].map (.int .i64 ·)).toArray 3)
  go_wp2_with fail
  rw [HB.out, HW0.out, HB1.out]
  refine (among_c b 0 _ [3, 4, 4, 5, 2, 7] _ (HC0.out.keep HAL.out) (by omega) HLT.out (by simp) (by simp) (fun p hp => by simp [Value.ownBlock] at hp; have := HS0.out; omega)).mono ?_
  rintro e w1 ⟨x0, rfl, hx0, hc1, ht1⟩
  have HC1 := hid (hc1.more (show _ ≤ (0 + 2) by omega))
  have HD1 := hid ((HD0.out.below (HAL.out.mono HS0.out)).touch HS0.out ht1)
  have HS1 : Hid (lo ≤ w1.heap.size) := Nat.le_trans (Nat.le_trans HS0.out HAL.out.size) ht1.size
  clear hc1 ht1 HLT HAL
  obtain ⟨n, rfl, hn2, hn7⟩ : ∃ n : Nat, x0 = n ∧ 2 ≤ n ∧ n ≤ 7 := ⟨x0.toNat, by simp at hx0; omega, by simp at hx0; omega, by simp at hx0; omega⟩
  clear hx0
  go_wp2_with fail
  refine (nested2_c b (0 + 2) n hn7 _ HC1.out (by omega)).mono ?_
  rintro e w2 ⟨v1, v2, Z, xs, rfl, hN2, hx1, hx11, hx12, hc2, hd2⟩
  have HC2 := hid (hc2.more (show _ ≤ (0 + 1002) by omega))
  have HD2 := hid (HD1.out.trans (hd2.low HS1.out))
  have HS2 : Hid (lo ≤ w2.heap.size) := Nat.le_trans HS1.out hd2.size
  have N_2 := hid (hN2.down HS1.out)
  obtain ⟨a1, n1, c1, rfl⟩ : ∃ a n c, v1 = .slice a n c := by obtain ⟨a, c, rfl, _⟩ := hN2.r; exact ⟨a, _, c, rfl⟩
  obtain ⟨a2, n2, c2, rfl⟩ := hN2.tw.form3
  obtain rfl := fints_len3 hN2.tw
  clear hN2
  clear hc2 hd2
  go_wp2_with fail
  refine (pick_c b (0 + 1002) 16 _ HC2.out (by omega) (by omega)).mono ?_
  rintro e w3 ⟨y, rfl, ⟨hy1, hy2⟩, hc3, ht3⟩
  have HC3 := hid (hc3.more (show _ ≤ (0 + 1004) by omega))
  have HD3 := hid (HD2.out.touch HS0.out ht3)
  have N_3 := hid (N_2.out.tch ht3 hlt0)
  have HS3 : Hid (lo ≤ w3.heap.size) := Nat.le_trans HS2.out ht3.size
  clear hc3 ht3
  have hx1 : 1 ≤ xs.length := by omega
  obtain ⟨g, x, rfl, hg1, hg2, k0, k1, HX0⟩ := N_3.out.tw.at (show 0 < xs.length by omega)
  have q0 : (0 : Int) < (xs.length : Int) := by omega
  rcases Bool.eq_false_or_eq_true (y == 0) with t0 | t0
  · obtain ⟨z, hz⟩ : ∃ z, IntKind.i64.wrap (x + 1) = z := ⟨_, rfl⟩
    obtain ⟨hs1, hs2⟩ := N_3.out.setTw 0 z
    have HS1 := hid hs1
    have HBS := hid hs2
    clear hs1 hs2
    go_wp2
    go_ret3
    exact ⟨_, _, _, _, _, rfl, HS1.out.r, HS1.out.tw.r, HFRESH.out _ (HD3.out.below HBS.out)⟩
  · rcases Bool.eq_false_or_eq_true (y == 1) with t1 | t1
    · have HLT := hid (ints_lit w3 w3.heap.size (Nat.le_refl _) [0, 20000, 20002, -2] (by simp)).r
      have HAL : Hid (Below w3.heap.size w3 _) := (Below.refl w3.heap.size w3).alloc (Nat.le_refl _) (.cells ([0, 20000, 20002, -2].map (.int .i64 ·)).toArray 3)
      go_wp2_with fail
      refine (among_c b (0 + 1004) _ [0, 20000, 20002, -2] _ (HC3.out.keep HAL.out) (by omega) HLT.out (by simp) (by simp) (fun p hp => by simp [Value.ownBlock] at hp; have := HS3.out; omega)).mono ?_
      rintro e w4 ⟨z, rfl, _, hc4, ht4⟩
      have HC4 := hid (hc4.more (show _ ≤ (0 + 1006) by omega))
      have HD4 := hid ((HD3.out.below (HAL.out.mono HS3.out)).touch HS0.out ht4)
      have N_4 := hid (N_3.out.grw HAL.out |>.tch ht4 hlt0)
      have HS4 : Hid (lo ≤ w4.heap.size) := Nat.le_trans (Nat.le_trans HS3.out HAL.out.size) ht4.size
      have k04 := (ht4.cell1 (by omega) ((HAL.out.cell (p := ⟨g, 0, none⟩) (cell_lt k0)).trans k0))
      clear hc4 ht4 HLT HAL
      have HZ := N_4
      obtain ⟨g', x', he, _, _, k0', k1', _⟩ := HZ.out.tw.at (show 0 < xs.length by omega)
      simp only [Option.some.injEq, Addr.mk.injEq, and_true] at he
      subst he
      obtain ⟨hs1, hs2⟩ := HZ.out.setTw 0 z
      have HS1 := hid hs1
      have HBS := hid hs2
      clear hs1 hs2
      go_wp2
      go_ret3
      exact ⟨_, _, _, _, _, rfl, HS1.out.r, HS1.out.tw.r, HFRESH.out _ (HD4.out.below HBS.out)⟩
    · rcases Bool.eq_false_or_eq_true (y == 2) with t2 | t2
      · have q1 : (1 : Int) ≤ (xs.length : Int) := by omega
        have HT := hid (rints_drop N_3.out.tw.r hx1)
        obtain ⟨_, _, hv, hxc, hcm, _⟩ := N_3.out.tw.r
        simp only [Value.slice.injEq, true_and] at hv
        obtain ⟨-, rfl⟩ := hv
        by_cases hc1 : c2 = 1
        · subst hc1
          have hx2 : xs.length = 1 := by omega
          have HX2 : Hid (xs.length - 1 = 0 ∧ xs.drop 1 = []) := ⟨by omega, List.drop_eq_nil_of_le (by omega)⟩
          clear hx2
          go_wp2
          go_ret3
          refine ⟨_, _, _, _, [], rfl, N_3.out.r, ?_, HFRESH.out _ HD3.out⟩
          exact rints_none (w := w3) (a := some ⟨g, 0, none⟩) (cap := 0) (by unfold maxLen; omega)
        · have hc2 : 1 < c2 := by omega
          have hc3 : c2 - 1 ≠ 0 := by omega
          go_wp2
          go_ret3
          exact ⟨_, _, _, _, _, rfl, N_3.out.r, HT.out, HFRESH.out _ HD3.out⟩
      · rcases Bool.eq_false_or_eq_true (y == 3) with t3 | t3
        · clear q0 k0 k1 HX0 hx1 hx11 hx12
          go_wp2_with fail
          refine (taxa_c b (0 + 1004) _ HC3.out (by omega)).mono ?_
          rintro e w4 ⟨tx, rfl, hc4, hd4⟩
          have HC4 := hid (hc4.more (show _ ≤ (0 + 1014) by omega))
          have HD4 := hid (HD3.out.trans (hd4.low HS3.out))
          have HS4 : Hid (lo ≤ w4.heap.size) := Nat.le_trans HS3.out hd4.size
          clear hc4 hd4
          go_wp2_with fail
          refine (side_c b (0 + 1014) 5 _ HC4.out (by omega)).mono ?_
          rintro e w5 ⟨va, A, rfl, _, hX5, hc5, hd5⟩
          have HC5 := hid (hc5.more (show _ ≤ (0 + 1114) by omega))
          have HD5 := hid (HD4.out.trans (hd5.low HS4.out))
          have HS5 : Hid (lo ≤ w5.heap.size) := Nat.le_trans HS4.out hd5.size
          have X_5 := hid ((hX5.mono HS4.out (Nat.le_refl _)))
          obtain ⟨aa, na, ca, rfl⟩ := hX5.form3
          clear hX5
          clear hc5 hd5
          go_wp2_with fail
          refine (side_c b (0 + 1114) 5 _ HC5.out (by omega)).mono ?_
          rintro e w6 ⟨vb, B, rfl, _, hY6, hc6, hd6⟩
          have HC6 := hid (hc6.more (show _ ≤ (0 + 1214) by omega))
          have HD6 := hid (HD5.out.trans (hd6.low HS5.out))
          have X_6 := hid (X_5.out.dr hd6 hlt0)
          have HS6 : Hid (lo ≤ w6.heap.size) := Nat.le_trans HS5.out hd6.size
          have Y_6 := hid ((hY6.mono HS5.out (Nat.le_refl _)))
          obtain ⟨ab, nb, cb, rfl⟩ := hY6.form3
          clear hY6
          clear hc6 hd6
          obtain ⟨hp1, hp2⟩ := rmat_two X_6.out.r Y_6.out.r
          obtain ⟨W, hW⟩ : ∃ W, W = w6.alloc (.cells #[.slice aa na ca, .slice ab nb cb] 27) := ⟨_, rfl⟩
          have hsz : W.heap.size = w6.heap.size + 1 := by rw [hW]; simp
          have hl := (ints_lit W W.heap.size (Nat.le_refl _) [2, 4] (by simp)).r
          have hb2 : Below W.heap.size W (W.alloc (.cells ([2, 4].map (Value.int .i64)).toArray 3)) := (Below.refl _ _).alloc (Nat.le_refl _) _
          rw [← hW] at hp1 hp2
          have hpk := hp1.keep hb2
          have hbk := hp2.trans (hb2.mono hp2.size)
          rw [hsz] at hl
          rw [hW] at hl hpk hbk
          have HL2 := hid hl
          have HPK := hid hpk
          have HBK := hid (hbk.mono HS6.out)
          clear hp1 hp2 hl hb2 hpk hbk hsz hW
          go_wp2
          go_ret3
          exact ⟨_, _, _, _, _, rfl, HPK.out, HL2.out, HFRESH.out _ (HD6.out.below HBK.out)⟩
        · go_wp2
          go_ret3
          exact ⟨_, _, _, _, _, rfl, N_3.out.r, N_3.out.tw.r, HFRESH.out _ HD3.out⟩

end Go.Proofs.YtnkbfgnmodfemaaGreatDoor

/- Results of the functions of splits, with names for what is known. -/
namespace Go.Proofs.YtnkbfgnmodfemaaGreatDoor
open Go.RowKit
open Go.Lib (hid)

theorem RetIntsT.lp {w : World} {p : List Int × Bool} {e : Ending} {w' : World} (h : RetIntsT w p e w') {X : List Int} {b : Bool} (hp : p = (X, b)) : ∃ a n c, e = .returned (.tuple #[.slice a n c, .bool b]) ∧ RInts w' (.slice a n c) X ∧ Below w.heap.size w w' := by
  subst hp
  obtain ⟨v, rfl, hF, hb⟩ := h
  obtain ⟨a, n, c, rfl⟩ := hF.form3
  exact ⟨a, n, c, rfl, hF.r, hb⟩
theorem RetMatB.lp {w : World} {p : List (List Int) × Bool} {e : Ending} {w' : World} (h : RetMatB w p e w') {X : List (List Int)} {b : Bool} (hp : p = (X, b)) : ∃ a n c, e = .returned (.tuple #[.slice a n c, .bool b]) ∧ RMat w' (.slice a n c) X ∧ Below w.heap.size w w' := by
  subst hp
  obtain ⟨v, rfl, hF, hb⟩ := h
  obtain ⟨a, n, c, rfl⟩ := hF.form3
  exact ⟨a, n, c, rfl, hF.r, hb⟩
theorem txLp {w w' : World} {e : Ending} {p : List UInt8 × Bool} (h : e = .returned (.tuple #[bstr p.1, .bool p.2]) ∧ Below w.heap.size w w') {x : List UInt8} {b : Bool} (hp : p = (x, b)) : e = .returned (.tuple #[.string ⟨x.toArray⟩, .bool b]) ∧ Below w.heap.size w w' := by subst hp; exact h
theorem rints_n {w : World} {a : Option Addr} {n c : Nat} {M : List Int} (h : RInts w (.slice a n c) M) : n = M.length ∧ n ≤ 9223372036854775807 := by
  obtain ⟨_, _, he, h1, h2, _⟩ := h
  simp only [Value.slice.injEq] at he
  unfold maxLen at h2
  exact ⟨he.2.1, by omega⟩

set_option maxHeartbeats 1000000 in
theorem iIsMetric_b (v : Value) (M : List (List Int)) (w : World) (h : RMat w v M) :
    Calls Tryz.prog 24 #[v] w fun e w' => e = .returned (.bool (metB M)) ∧ Below w.heap.size w w' := by
  have HH := hid h
  obtain ⟨a, c, rfl, -, -, -⟩ := id h
  clear h
  go_enter Tryz.func24, Tryz.ntmps24
  go_wp2_with fail
  refine (isMetric_lift _ M _ HH.out).mono ?_
  rintro e w1 ⟨rfl, hb⟩
  have HB := hid hb
  clear hb
  go_wp2
  go_ret
  exact ⟨rfl, HB.out⟩

/-- what is carried through calls that only make memory: a cell, the way from a world -/
def KC (w : World) (g o : Nat) (v : Value) : Prop := w.cell? ⟨g, o, none⟩ = some v
theorem KC.keep {w w' : World} {g o : Nat} {v : Value} (h : KC w g o v) (hb : Below w.heap.size w w') : KC w' g o v := (hb.cell (p := ⟨g, o, none⟩) (cell_lt h)).trans h
def BF (W w : World) : Prop := Below W.heap.size W w
theorem BF.keep {W w w' : World} (h : BF W w) (hb : Below w.heap.size w w') : BF W w' := Below.trans h (hb.mono (Below.size h))
theorem sumI_sum : ∀ l : List Int, sumI l = l.sum
  | [] => rfl
  | x :: xs => by rw [sumI_cons, List.sum_cons, sumI_sum xs]
/-- what the law knows of a drawn matrix -/
structure SplK (A : List (List Int)) (L : List (List Int)) (ln : List Int) : Prop where
  len : L.length = ln.length
  small : L.length ≤ 128
  sum : smallQ ln
  one : ∀ i, i < L.length → ∃ X, lengthB A (L.getD i []) = (ln.getD i 0, true) ∧ 1 ≤ ln.getD i 0 ∧ splitB A.length (L.getD i []) = true ∧ txtB A.length (L.getD i []) = (X, true)
  clash : clashB A.length L = ((0, 0), false)
  back : ∃ R b, mosB A.length L ln = (R, b) ∧ (b = true → R = A)
theorem spl_facts (A : List (List Int)) : ∃ (L : List (List Int)) (ln : List Int) (t : Bool), splitsOfB A = (L, t) ∧ lengthsB A = (ln, t) ∧ treeLenB A = (ln.sum, t) ∧ (t = true → SplK A L ln) := by
  rcases Bool.eq_false_or_eq_true (treeB A) with t | t
  · have hm := treeB_met t
    have ht : (badF A).isNone = true := by rw [treeB, Bool.and_eq_true] at t; exact t.2
    have hM := (met_iff.1 hm).2
    refine ⟨splL A, (splL A).map (lenF A), true, by rw [splitsOfB, t]; rfl, by rw [lengthsB, t]; rfl, by rw [treeLenB_yes t, sumI_sum], fun _ => ?_⟩
    have hsm : (splL A).length ≤ 128 := Nat.le_trans (List.length_filter_le _ _) (sidesL_small (by have := hM.n7; omega) 1 [])
    refine ⟨by rw [List.length_map], hsm, ⟨by rw [List.length_map]; omega, fun x hx => by have := lens_range A x hx; omega⟩, fun i hi => ?_, no_clash hm ht, ?_⟩
    · have h1 : (splL A).getD i [] ∈ splL A := by
        rw [List.getD_eq_getElem?_getD, List.getElem?_eq_getElem hi]
        exact List.getElem_mem hi
      have h2 : ((splL A).map (lenF A)).getD i 0 = lenF A ((splL A).getD i []) := by
        rw [List.getD_eq_getElem?_getD, List.getD_eq_getElem?_getD, List.getElem?_map, List.getElem?_eq_getElem hi]
        rfl
      rw [h2]
      generalize (splL A).getD i [] = S at h1
      rw [splL] at h1
      have h5 := List.mem_filter.1 h1
      have h6 := sides_split hM.n2 hM.n7 h5.1
      exact ⟨_, lengthB_yes t h6, of_decide_eq_true h5.2, h6, txtB_yes h6⟩
    · obtain ⟨R, b, hr⟩ : ∃ R b, mosB A.length (splL A) ((splL A).map (lenF A)) = (R, b) := ⟨_, _, rfl⟩
      exact ⟨R, b, hr, fun hb => by subst hb; exact back_law hm ht hr⟩
  · exact ⟨[], [], false, by rw [splitsOfB, t]; rfl, by rw [lengthsB, t]; rfl, by rw [treeLenB_no t]; rfl, fun h => by cases h⟩

end Go.Proofs.YtnkbfgnmodfemaaGreatDoor

namespace Go.Proofs.YtnkbfgnmodfemaaGreatDoor
open Go.ChangeShapes Go.WideShapes Go.ChangeAt Go.RowKit
open Go.Lib (hid)

set_option maxRecDepth 100000 in
set_option maxHeartbeats 40000000 in
theorem FnSplits_c (v0 : Value) (x0 : Nat) (v1 : Value) (x1 : Nat) (w : World) (r0 : RBytes w v0 x0) (r1 : RBytes w v1 x1) :
    Calls Tryz.prog 3 #[v0, v1] w fun e w' => e = .returned (.bool true) ∧ Below w.heap.size w w' := by
  have R0 := hid r0
  have R1 := hid r1
  obtain ⟨a0, c0, rfl, hx0, hm0⟩ := r0.form
  obtain ⟨a1, c1, rfl, hx1, hm1⟩ := r1.form
  unfold maxLen at hm0 hm1
  clear r0 r1
  obtain ⟨z, hz⟩ : ∃ z, IntKind.i64.wrap ((x0 : Int) + (x1 : Int)) = z := ⟨_, rfl⟩
  by_cases hbig : 1048576 < z
  · go_enter Tryz.func3, Tryz.ntmps3
    go_wp2
    go_ret
    exact ⟨rfl, Below.refl _ _⟩
  go_enter Tryz.func3, Tryz.ntmps3
  go_wp2_with fail
  refine (DrawSplitsOf_c _ x0 _ R0.out).mono ?_
  rintro e w1 ⟨vA, A, rfl, hA2, hA7, hA1, hb1⟩
  have HBw1 := hid hb1
  have R1_w1 := hid (R1.out.keep hb1)
  have A_w1 := hid hA1
  obtain ⟨aA, nA, cA, rfl⟩ : ∃ a n c, vA = .slice a n c := by obtain ⟨a, c, rfl, _⟩ := hA1; exact ⟨a, _, c, rfl⟩
  have HNA : Hid (nA = A.length) := (rmat_n hA1).1
  obtain ⟨L, ln, t, h1, h2, h3, h4⟩ := spl_facts A
  have H1 := hid h1
  have H2 := hid h2
  have H3 := hid h3
  have H4 := hid h4
  clear h1 h2 h3 h4 hA2 hA7
  clear hb1 hA1
  go_wp2_with fail
  refine ((iSplitsOf_u _ A _ A_w1.out).mono fun e w' h => h.lp H1.out).mono ?_
  rintro e w2 ⟨a2, n2, c2, rfl, hp2, hb2⟩
  have HBw2 := hid (HBw1.out.trans (hb2.mono HBw1.out.size))
  have R1_w2 := hid (R1_w1.out.keep hb2)
  have A_w2 := hid (A_w1.out.keep hb2)
  have I1_w2 := hid hp2
  clear hb2 hp2
  go_wp2_with fail
  refine ((sSplitsOf_u _ A _ A_w2.out).mono fun e w' h => h.lp H1.out).mono ?_
  rintro e w3 ⟨a3, n3, c3, rfl, hp3, hb3⟩
  have HBw3 := hid (HBw2.out.trans (hb3.mono HBw2.out.size))
  have R1_w3 := hid (R1_w2.out.keep hb3)
  have A_w3 := hid (A_w2.out.keep hb3)
  have I1_w3 := hid (I1_w2.out.keep hb3)
  have I2_w3 := hid hp3
  clear hb3 hp3
  go_wp2_with fail
  refine ((iSplitLengths_u _ A _ A_w3.out).mono fun e w' h => h.lp H2.out).mono ?_
  rintro e w4 ⟨a4, n4, c4, rfl, hp4, hb4⟩
  have HBw4 := hid (HBw3.out.trans (hb4.mono HBw3.out.size))
  have R1_w4 := hid (R1_w3.out.keep hb4)
  have A_w4 := hid (A_w3.out.keep hb4)
  have I1_w4 := hid (I1_w3.out.keep hb4)
  have I2_w4 := hid (I2_w3.out.keep hb4)
  have N1_w4 := hid hp4
  clear hb4 hp4
  go_wp2_with fail
  refine ((sSplitLengths_u _ A _ A_w4.out).mono fun e w' h => h.lp H2.out).mono ?_
  rintro e w5 ⟨a5, n5, c5, rfl, hp5, hb5⟩
  have HBw5 := hid (HBw4.out.trans (hb5.mono HBw4.out.size))
  have R1_w5 := hid (R1_w4.out.keep hb5)
  have A_w5 := hid (A_w4.out.keep hb5)
  have I1_w5 := hid (I1_w4.out.keep hb5)
  have I2_w5 := hid (I2_w4.out.keep hb5)
  have N1_w5 := hid (N1_w4.out.keep hb5)
  have N2_w5 := hid hp5
  clear hb5 hp5
  go_wp2_with fail
  refine ((iTwiceTreeLength_u _ A _ A_w5.out).mono fun e w' h => zbLp h H3.out).mono ?_
  rintro e w6 ⟨rfl, hb6⟩
  have HBw6 := hid (HBw5.out.trans (hb6.mono HBw5.out.size))
  have R1_w6 := hid (R1_w5.out.keep hb6)
  have A_w6 := hid (A_w5.out.keep hb6)
  have I1_w6 := hid (I1_w5.out.keep hb6)
  have I2_w6 := hid (I2_w5.out.keep hb6)
  have N1_w6 := hid (N1_w5.out.keep hb6)
  have N2_w6 := hid (N2_w5.out.keep hb6)
  clear hb6
  go_wp2_with fail
  refine ((sTwiceTreeLength_u _ A _ A_w6.out).mono fun e w' h => zbLp h H3.out).mono ?_
  rintro e w7 ⟨rfl, hb7⟩
  have HBw7 := hid (HBw6.out.trans (hb7.mono HBw6.out.size))
  have R1_w7 := hid (R1_w6.out.keep hb7)
  have A_w7 := hid (A_w6.out.keep hb7)
  have I1_w7 := hid (I1_w6.out.keep hb7)
  have I2_w7 := hid (I2_w6.out.keep hb7)
  have N1_w7 := hid (N1_w6.out.keep hb7)
  have N2_w7 := hid (N2_w6.out.keep hb7)
  clear hb7
  cases t
  · go_wp2_with fail
    refine (qLists_y _ _ L _ I1_w7.out I2_w7.out).mono ?_
    rintro e w8 ⟨rfl, hb8⟩
    have HBw8 := hid (HBw7.out.trans (hb8.mono HBw7.out.size))
    have R1_w8 := hid (R1_w7.out.keep hb8)
    have A_w8 := hid (A_w7.out.keep hb8)
    have I1_w8 := hid (I1_w7.out.keep hb8)
    have I2_w8 := hid (I2_w7.out.keep hb8)
    have N1_w8 := hid (N1_w7.out.keep hb8)
    have N2_w8 := hid (N2_w7.out.keep hb8)
    clear hb8
    go_wp2_with fail
    refine (qInts_y _ _ ln _ N1_w8.out N2_w8.out).mono ?_
    rintro e w9 ⟨rfl, hb9⟩
    have HBw9 := hid (HBw8.out.trans (hb9.mono HBw8.out.size))
    have R1_w9 := hid (R1_w8.out.keep hb9)
    have A_w9 := hid (A_w8.out.keep hb9)
    have I1_w9 := hid (I1_w8.out.keep hb9)
    have I2_w9 := hid (I2_w8.out.keep hb9)
    have N1_w9 := hid (N1_w8.out.keep hb9)
    have N2_w9 := hid (N2_w8.out.keep hb9)
    clear hb9
    as_aux_lemma =>
      go_wp2_with fail
      refine (DrawMetricOfSplits_c _ x1 _ R1_w9.out).mono ?_
      rintro e w10 ⟨n, vl, vt, L2, t2, rfl, hl10, ht10, hb10⟩
      have HBw10 := hid (HBw9.out.trans (hb10.mono HBw9.out.size))
      have R1_w10 := hid (R1_w9.out.keep hb10)
      have L_w10 := hid hl10
      have T_w10 := hid ht10
      obtain ⟨aql, nql, cql, rfl⟩ : ∃ a n c, vl = .slice a n c := by obtain ⟨a, c, rfl, _⟩ := hl10; exact ⟨a, _, c, rfl⟩
      obtain ⟨aqt, nqt, cqt, rfl⟩ : ∃ a n c, vt = .slice a n c := by obtain ⟨a, c, rfl, _⟩ := ht10; exact ⟨a, _, c, rfl⟩
      obtain ⟨X, b5, hmo⟩ : ∃ X b5, mosB n L2 t2 = (X, b5) := ⟨_, _, rfl⟩
      have HMO := hid hmo
      clear hmo
      clear hb10 hl10 ht10
      go_wp2_with fail
      refine ((iMetricOfSplits_u n _ L2 _ t2 _ L_w10.out T_w10.out).mono fun e w' h => h.lp HMO.out).mono ?_
      rintro e w11 ⟨a11, n11, c11, rfl, hp11, hb11⟩
      have HBw11 := hid (HBw10.out.trans (hb11.mono HBw10.out.size))
      have R1_w11 := hid (R1_w10.out.keep hb11)
      have L_w11 := hid (L_w10.out.keep hb11)
      have T_w11 := hid (T_w10.out.keep hb11)
      have X1_w11 := hid hp11
      clear hb11 hp11
      go_wp2_with fail
      refine ((sMetricOfSplits_u n _ L2 _ t2 _ L_w11.out T_w11.out).mono fun e w' h => h.lp HMO.out).mono ?_
      rintro e w12 ⟨a12, n12, c12, rfl, hp12, hb12⟩
      have HBw12 := hid (HBw11.out.trans (hb12.mono HBw11.out.size))
      have R1_w12 := hid (R1_w11.out.keep hb12)
      have L_w12 := hid (L_w11.out.keep hb12)
      have T_w12 := hid (T_w11.out.keep hb12)
      have X1_w12 := hid (X1_w11.out.keep hb12)
      have X2_w12 := hid hp12
      clear hb12 hp12
      go_wp2_with fail
      refine (DrawTwiceLengthOf_c _ x1 _ R1_w12.out).mono ?_
      rintro e w13 ⟨vu, vs, U, S, rfl, hu13, hs13, hb13⟩
      have HBw13 := hid (HBw12.out.trans (hb13.mono HBw12.out.size))
      have X1_w13 := hid (X1_w12.out.keep hb13)
      have X2_w13 := hid (X2_w12.out.keep hb13)
      have U_w13 := hid hu13
      have S_w13 := hid hs13
      obtain ⟨aqu, nqu, cqu, rfl⟩ : ∃ a n c, vu = .slice a n c := by obtain ⟨a, c, rfl, _⟩ := hu13; exact ⟨a, _, c, rfl⟩
      obtain ⟨aqs, nqs, cqs, rfl⟩ : ∃ a n c, vs = .slice a n c := by obtain ⟨a, c, rfl, _⟩ := hs13; exact ⟨a, _, c, rfl⟩
      obtain ⟨k, b7, hle⟩ : ∃ k b7, lengthB U S = (k, b7) := ⟨_, _, rfl⟩
      have HLE := hid hle
      clear hle
      clear hb13 hu13 hs13
      go_wp2_with fail
      refine ((iTwiceLengthOf_u _ U _ S _ U_w13.out S_w13.out).mono fun e w' h => zbLp h HLE.out).mono ?_
      rintro e w14 ⟨rfl, hb14⟩
      have HBw14 := hid (HBw13.out.trans (hb14.mono HBw13.out.size))
      have X1_w14 := hid (X1_w13.out.keep hb14)
      have X2_w14 := hid (X2_w13.out.keep hb14)
      have U_w14 := hid (U_w13.out.keep hb14)
      have S_w14 := hid (S_w13.out.keep hb14)
      clear hb14
      go_wp2_with fail
      refine ((sTwiceLengthOf_u _ U _ S _ U_w14.out S_w14.out).mono fun e w' h => zbLp h HLE.out).mono ?_
      rintro e w15 ⟨rfl, hb15⟩
      have HBw15 := hid (HBw14.out.trans (hb15.mono HBw14.out.size))
      have X1_w15 := hid (X1_w14.out.keep hb15)
      have X2_w15 := hid (X2_w14.out.keep hb15)
      have U_w15 := hid (U_w14.out.keep hb15)
      have S_w15 := hid (S_w14.out.keep hb15)
      clear hb15
      cases b5
      · go_wp2_with fail
        refine (qLists_y _ _ X _ X1_w15.out X2_w15.out).mono ?_
        rintro e w16 ⟨rfl, hb16⟩
        have HBw16 := hid (HBw15.out.trans (hb16.mono HBw15.out.size))
        have X1_w16 := hid (X1_w15.out.keep hb16)
        have X2_w16 := hid (X2_w15.out.keep hb16)
        clear hb16
        cases b7
        all_goals
          go_wp2
          go_ret
          exact ⟨rfl, HBw16.out⟩
      · go_wp2_with fail
        refine (qLists_y _ _ X _ X1_w15.out X2_w15.out).mono ?_
        rintro e w16 ⟨rfl, hb16⟩
        have HBw16 := hid (HBw15.out.trans (hb16.mono HBw15.out.size))
        have X1_w16 := hid (X1_w15.out.keep hb16)
        have X2_w16 := hid (X2_w15.out.keep hb16)
        clear hb16
        cases b7
        all_goals
          have hmx := mos_met HMO.out
          have HMX := hid hmx
          clear hmx
          go_wp2_with fail
          refine ((iIsMetric_b _ X _ X1_w16.out).mono fun e w' h => (show e = .returned (.bool true) ∧ Below _ _ w' from ⟨by rw [h.1, HMX.out], h.2⟩)).mono ?_
          rintro e w17 ⟨rfl, hb17⟩
          have HBw17 := hid (HBw16.out.trans (hb17.mono HBw16.out.size))
          have X1_w17 := hid (X1_w16.out.keep hb17)
          have X2_w17 := hid (X2_w16.out.keep hb17)
          clear hb17
          go_wp2
          go_ret
          exact ⟨rfl, HBw17.out⟩
  · have hk := H4.out rfl
    have HK := hid hk
    clear hk
    go_wp2_with fail
    refine (qLists_y _ _ L _ I1_w7.out I2_w7.out).mono ?_
    rintro e w8 ⟨rfl, hb8⟩
    have HBw8 := hid (HBw7.out.trans (hb8.mono HBw7.out.size))
    have R1_w8 := hid (R1_w7.out.keep hb8)
    have A_w8 := hid (A_w7.out.keep hb8)
    have I1_w8 := hid (I1_w7.out.keep hb8)
    have I2_w8 := hid (I2_w7.out.keep hb8)
    have N1_w8 := hid (N1_w7.out.keep hb8)
    have N2_w8 := hid (N2_w7.out.keep hb8)
    clear hb8
    go_wp2_with fail
    refine (qInts_y _ _ ln _ N1_w8.out N2_w8.out).mono ?_
    rintro e w9 ⟨rfl, hb9⟩
    have HBw9 := hid (HBw8.out.trans (hb9.mono HBw8.out.size))
    have R1_w9 := hid (R1_w8.out.keep hb9)
    have A_w9 := hid (A_w8.out.keep hb9)
    have I1_w9 := hid (I1_w8.out.keep hb9)
    have I2_w9 := hid (I2_w8.out.keep hb9)
    have N1_w9 := hid (N1_w8.out.keep hb9)
    have N2_w9 := hid (N2_w8.out.keep hb9)
    clear hb9
    obtain ⟨nS, hnS⟩ : ∃ nS, n3 = nS := ⟨_, rfl⟩
    have HNL : Hid (nS = L.length) := by show _ = _; rw [← hnS]; exact (rmat_n I2_w9.out).1
    have hnn : n5 = nS := by rw [(rints_n N2_w9.out).1, HNL.out]; exact HK.out.len.symm
    subst hnS
    subst hnn
    have hS128 : n5 ≤ 128 := by rw [HNL.out]; exact HK.out.small
    go_wp2_with fail
    refine (qSum_c _ ln _ N2_w9.out HK.out.sum).mono ?_
    rintro e w' ⟨rfl, rfl⟩
    go_wp2
    go_loopg [136] n5 (fun gk iv wr => ∃ i : Nat, i ≤ n5 ∧ gk = n5 - i ∧ iv = .int .i64 i ∧ Hid (BF w9 wr))
    case atStart => exact ⟨0, Nat.zero_le _, rfl, rfl, hid (Below.refl _ _)⟩
    case round =>
      obtain ⟨i, hi, rfl, rfl, HBR⟩ := hrel
      obtain ⟨wq, rfl⟩ : ∃ wq : World, wq = wr := ⟨_, rfl⟩
      have hbr : Below w9.heap.size w9 wq := HBR.out
      have HBW := hid (HBw9.out.trans (hbr.mono HBw9.out.size))
      have R1_q := hid (R1_w9.out.keep hbr)
      have A_q := hid (A_w9.out.keep hbr)
      have I1_q := hid (I1_w9.out.keep hbr)
      have I2_q := hid (I2_w9.out.keep hbr)
      have N1_q := hid (N1_w9.out.keep hbr)
      have N2_q := hid (N2_w9.out.keep hbr)
      clear hbr
      by_cases hlt : i < n5
      · have hiz : (i : Int) < (n5 : Int) := by omega
        obtain ⟨X, hln, hpos, hsp, htx⟩ := HK.out.one i (by rw [← HNL.out]; exact hlt)
        obtain ⟨S, hS⟩ : ∃ S, L.getD i [] = S := ⟨_, rfl⟩
        obtain ⟨y, hy⟩ : ∃ y, ln.getD i 0 = y := ⟨_, rfl⟩
        rw [hS] at hln hsp htx
        rw [hy] at hln hpos
        rw [← HNA.out] at hsp htx
        have HLN := hid hln
        have HSP := hid hsp
        have HTX := hid htx
        obtain ⟨_, _, hv, _, _, hcells⟩ := I2_q.out
        simp only [Value.slice.injEq] at hv
        obtain ⟨rfl, -, rfl⟩ := hv
        obtain ⟨gl, ol, r, rfl, hcr, hrr⟩ := hcells i (by rw [← HNL.out]; exact hlt)
        rw [hS] at hrr
        obtain ⟨ar, nr, cr, rfl⟩ := hrr.form3
        have ROW := hid hrr
        obtain ⟨_, _, hv2, _, _, hcells2⟩ := N2_q.out
        simp only [Value.slice.injEq] at hv2
        obtain ⟨rfl, -, rfl⟩ := hv2
        obtain ⟨gn, on, rfl, hcn⟩ := hcells2 i (by rw [← HK.out.len, ← HNL.out]; exact hlt)
        rw [hy] at hcn
        have CN : Hid (KC wq gn (on + i) (.int .i64 y)) := hcn
        have hy1 : ¬ (y < 1) := by omega
        clear hcells hcells2 hS hy hln hsp htx hrr hcn
        go_wp2_with fail
        refine ((iTwiceLengthOf_u _ A _ S _ A_q.out ROW.out).mono fun e w' h => zbLp h HLN.out).mono ?_
        rintro e wq10 ⟨rfl, hb10⟩
        have HBwq10 := hid (HBW.out.trans (hb10.mono HBW.out.size))
        have A_wq10 := hid (A_q.out.keep hb10)
        have ROW_wq10 := hid (ROW.out.keep hb10)
        have CN_wq10 := hid (CN.out.keep hb10)
        have BW_wq10 := hid (HBR.out.keep hb10)
        clear hb10
        go_wp2_with fail
        refine ((iSplitText_u (nA : Int) _ S _ ROW_wq10.out).mono fun e w' h => txLp h HTX.out).mono ?_
        rintro e wq11 ⟨rfl, hb11⟩
        have HBwq11 := hid (HBwq10.out.trans (hb11.mono HBwq10.out.size))
        have ROW_wq11 := hid (ROW_wq10.out.keep hb11)
        have CN_wq11 := hid (CN_wq10.out.keep hb11)
        have BW_wq11 := hid (BW_wq10.out.keep hb11)
        clear hb11
        go_wp2_with fail
        refine ((sSplitText_u (nA : Int) _ S _ ROW_wq11.out).mono fun e w' h => txLp h HTX.out).mono ?_
        rintro e wq12 ⟨rfl, hb12⟩
        have HBwq12 := hid (HBwq11.out.trans (hb12.mono HBwq11.out.size))
        have ROW_wq12 := hid (ROW_wq11.out.keep hb12)
        have CN_wq12 := hid (CN_wq11.out.keep hb12)
        have BW_wq12 := hid (BW_wq11.out.keep hb12)
        clear hb12
        have hcn : wq12.cell? ⟨gn, on + i, none⟩ = some (.int .i64 y) := CN_wq12.out
        go_wp2_with fail
        refine ((iIsSplit_c (nA : Int) _ S _ ROW_wq12.out).mono fun e w' h => bPure h HSP.out).mono ?_
        rintro e wq13 ⟨rfl, hb13⟩
        have HBwq13 := hid (HBwq12.out.trans (hb13.mono HBwq12.out.size))
        have ROW_wq13 := hid (ROW_wq12.out.keep hb13)
        have CN_wq13 := hid (CN_wq12.out.keep hb13)
        have BW_wq13 := hid (BW_wq12.out.keep hb13)
        clear hb13
        go_wp2
        go_roundg (n5 - (i + 1))
        case rel => exact ⟨i + 1, by omega, rfl, by go_num, BW_wq13⟩
        case measure => omega
      · obtain rfl : i = n5 := by omega
        have HCLA := hid HK.out.clash
        obtain ⟨R, bb, hmos, hback⟩ := HK.out.back
        rw [← HNA.out] at hmos
        have HMS := hid hmos
        have HBACK := hid hback
        clear hmos hback
        have HCLB : Hid (clashB nA L = ((0, 0), false)) := by show _ = _; rw [HNA.out]; exact HCLA.out
        go_wp2_with fail
        refine ((iFirstClash_u (nA : Int) _ L _ I1_q.out).mono fun e w' h => zzbLp h HCLB.out).mono ?_
        rintro e wq10 ⟨rfl, hb10⟩
        have HBwq10 := hid (HBW.out.trans (hb10.mono HBW.out.size))
        have R1_wq10 := hid (R1_q.out.keep hb10)
        have A_wq10 := hid (A_q.out.keep hb10)
        have I1_wq10 := hid (I1_q.out.keep hb10)
        have N1_wq10 := hid (N1_q.out.keep hb10)
        clear hb10
        go_wp2_with fail
        refine ((iMetricOfSplits_u (nA : Int) _ L _ ln _ I1_wq10.out N1_wq10.out).mono fun e w' h => h.lp HMS.out).mono ?_
        rintro e wq11 ⟨a11, n11, c11, rfl, hp11, hb11⟩
        have HBwq11 := hid (HBwq10.out.trans (hb11.mono HBwq10.out.size))
        have R1_wq11 := hid (R1_wq10.out.keep hb11)
        have A_wq11 := hid (A_wq10.out.keep hb11)
        have I1_wq11 := hid (I1_wq10.out.keep hb11)
        have N1_wq11 := hid (N1_wq10.out.keep hb11)
        have RR_wq11 := hid hp11
        clear hb11 hp11
        cases bb
        · as_aux_lemma =>
            go_wp2_with fail
            refine (DrawMetricOfSplits_c _ x1 _ R1_wq11.out).mono ?_
            rintro e wq12 ⟨n, vl, vt, L2, t2, rfl, hl12, ht12, hb12⟩
            have HBwq12 := hid (HBwq11.out.trans (hb12.mono HBwq11.out.size))
            have R1_wq12 := hid (R1_wq11.out.keep hb12)
            have L_wq12 := hid hl12
            have T_wq12 := hid ht12
            obtain ⟨aql, nql, cql, rfl⟩ : ∃ a n c, vl = .slice a n c := by obtain ⟨a, c, rfl, _⟩ := hl12; exact ⟨a, _, c, rfl⟩
            obtain ⟨aqt, nqt, cqt, rfl⟩ : ∃ a n c, vt = .slice a n c := by obtain ⟨a, c, rfl, _⟩ := ht12; exact ⟨a, _, c, rfl⟩
            obtain ⟨X, b5, hmo⟩ : ∃ X b5, mosB n L2 t2 = (X, b5) := ⟨_, _, rfl⟩
            have HMO := hid hmo
            clear hmo
            clear hb12 hl12 ht12
            go_wp2_with fail
            refine ((iMetricOfSplits_u n _ L2 _ t2 _ L_wq12.out T_wq12.out).mono fun e w' h => h.lp HMO.out).mono ?_
            rintro e wq13 ⟨a13, n13, c13, rfl, hp13, hb13⟩
            have HBwq13 := hid (HBwq12.out.trans (hb13.mono HBwq12.out.size))
            have R1_wq13 := hid (R1_wq12.out.keep hb13)
            have L_wq13 := hid (L_wq12.out.keep hb13)
            have T_wq13 := hid (T_wq12.out.keep hb13)
            have X1_wq13 := hid hp13
            clear hb13 hp13
            go_wp2_with fail
            refine ((sMetricOfSplits_u n _ L2 _ t2 _ L_wq13.out T_wq13.out).mono fun e w' h => h.lp HMO.out).mono ?_
            rintro e wq14 ⟨a14, n14, c14, rfl, hp14, hb14⟩
            have HBwq14 := hid (HBwq13.out.trans (hb14.mono HBwq13.out.size))
            have R1_wq14 := hid (R1_wq13.out.keep hb14)
            have L_wq14 := hid (L_wq13.out.keep hb14)
            have T_wq14 := hid (T_wq13.out.keep hb14)
            have X1_wq14 := hid (X1_wq13.out.keep hb14)
            have X2_wq14 := hid hp14
            clear hb14 hp14
            go_wp2_with fail
            refine (DrawTwiceLengthOf_c _ x1 _ R1_wq14.out).mono ?_
            rintro e wq15 ⟨vu, vs, U, S, rfl, hu15, hs15, hb15⟩
            have HBwq15 := hid (HBwq14.out.trans (hb15.mono HBwq14.out.size))
            have X1_wq15 := hid (X1_wq14.out.keep hb15)
            have X2_wq15 := hid (X2_wq14.out.keep hb15)
            have U_wq15 := hid hu15
            have S_wq15 := hid hs15
            obtain ⟨aqu, nqu, cqu, rfl⟩ : ∃ a n c, vu = .slice a n c := by obtain ⟨a, c, rfl, _⟩ := hu15; exact ⟨a, _, c, rfl⟩
            obtain ⟨aqs, nqs, cqs, rfl⟩ : ∃ a n c, vs = .slice a n c := by obtain ⟨a, c, rfl, _⟩ := hs15; exact ⟨a, _, c, rfl⟩
            obtain ⟨k, b7, hle⟩ : ∃ k b7, lengthB U S = (k, b7) := ⟨_, _, rfl⟩
            have HLE := hid hle
            clear hle
            clear hb15 hu15 hs15
            go_wp2_with fail
            refine ((iTwiceLengthOf_u _ U _ S _ U_wq15.out S_wq15.out).mono fun e w' h => zbLp h HLE.out).mono ?_
            rintro e wq16 ⟨rfl, hb16⟩
            have HBwq16 := hid (HBwq15.out.trans (hb16.mono HBwq15.out.size))
            have X1_wq16 := hid (X1_wq15.out.keep hb16)
            have X2_wq16 := hid (X2_wq15.out.keep hb16)
            have U_wq16 := hid (U_wq15.out.keep hb16)
            have S_wq16 := hid (S_wq15.out.keep hb16)
            clear hb16
            go_wp2_with fail
            refine ((sTwiceLengthOf_u _ U _ S _ U_wq16.out S_wq16.out).mono fun e w' h => zbLp h HLE.out).mono ?_
            rintro e wq17 ⟨rfl, hb17⟩
            have HBwq17 := hid (HBwq16.out.trans (hb17.mono HBwq16.out.size))
            have X1_wq17 := hid (X1_wq16.out.keep hb17)
            have X2_wq17 := hid (X2_wq16.out.keep hb17)
            have U_wq17 := hid (U_wq16.out.keep hb17)
            have S_wq17 := hid (S_wq16.out.keep hb17)
            clear hb17
            cases b5
            · go_wp2_with fail
              refine (qLists_y _ _ X _ X1_wq17.out X2_wq17.out).mono ?_
              rintro e wq18 ⟨rfl, hb18⟩
              have HBwq18 := hid (HBwq17.out.trans (hb18.mono HBwq17.out.size))
              have X1_wq18 := hid (X1_wq17.out.keep hb18)
              have X2_wq18 := hid (X2_wq17.out.keep hb18)
              clear hb18
              cases b7
              all_goals
                go_wp2
                go_ret
                exact ⟨rfl, HBwq18.out⟩
            · go_wp2_with fail
              refine (qLists_y _ _ X _ X1_wq17.out X2_wq17.out).mono ?_
              rintro e wq18 ⟨rfl, hb18⟩
              have HBwq18 := hid (HBwq17.out.trans (hb18.mono HBwq17.out.size))
              have X1_wq18 := hid (X1_wq17.out.keep hb18)
              have X2_wq18 := hid (X2_wq17.out.keep hb18)
              clear hb18
              cases b7
              all_goals
                have hmx := mos_met HMO.out
                have HMX := hid hmx
                clear hmx
                go_wp2_with fail
                refine ((iIsMetric_b _ X _ X1_wq18.out).mono fun e w' h => (show e = .returned (.bool true) ∧ Below _ _ w' from ⟨by rw [h.1, HMX.out], h.2⟩)).mono ?_
                rintro e wq19 ⟨rfl, hb19⟩
                have HBwq19 := hid (HBwq18.out.trans (hb19.mono HBwq18.out.size))
                have X1_wq19 := hid (X1_wq18.out.keep hb19)
                have X2_wq19 := hid (X2_wq18.out.keep hb19)
                clear hb19
                go_wp2
                go_ret
                exact ⟨rfl, HBwq19.out⟩
        · obtain rfl := HBACK.out rfl
          go_wp2_with fail
          refine (qLists_y _ _ R _ RR_wq11.out A_wq11.out).mono ?_
          rintro e wq12 ⟨rfl, hb12⟩
          have HBwq12 := hid (HBwq11.out.trans (hb12.mono HBwq11.out.size))
          have R1_wq12 := hid (R1_wq11.out.keep hb12)
          have A_wq12 := hid (A_wq11.out.keep hb12)
          have RR_wq12 := hid (RR_wq11.out.keep hb12)
          clear hb12
          as_aux_lemma =>
            go_wp2_with fail
            refine (DrawMetricOfSplits_c _ x1 _ R1_wq12.out).mono ?_
            rintro e wq13 ⟨n, vl, vt, L2, t2, rfl, hl13, ht13, hb13⟩
            have HBwq13 := hid (HBwq12.out.trans (hb13.mono HBwq12.out.size))
            have R1_wq13 := hid (R1_wq12.out.keep hb13)
            have L_wq13 := hid hl13
            have T_wq13 := hid ht13
            obtain ⟨aql, nql, cql, rfl⟩ : ∃ a n c, vl = .slice a n c := by obtain ⟨a, c, rfl, _⟩ := hl13; exact ⟨a, _, c, rfl⟩
            obtain ⟨aqt, nqt, cqt, rfl⟩ : ∃ a n c, vt = .slice a n c := by obtain ⟨a, c, rfl, _⟩ := ht13; exact ⟨a, _, c, rfl⟩
            obtain ⟨X, b5, hmo⟩ : ∃ X b5, mosB n L2 t2 = (X, b5) := ⟨_, _, rfl⟩
            have HMO := hid hmo
            clear hmo
            clear hb13 hl13 ht13
            go_wp2_with fail
            refine ((iMetricOfSplits_u n _ L2 _ t2 _ L_wq13.out T_wq13.out).mono fun e w' h => h.lp HMO.out).mono ?_
            rintro e wq14 ⟨a14, n14, c14, rfl, hp14, hb14⟩
            have HBwq14 := hid (HBwq13.out.trans (hb14.mono HBwq13.out.size))
            have R1_wq14 := hid (R1_wq13.out.keep hb14)
            have L_wq14 := hid (L_wq13.out.keep hb14)
            have T_wq14 := hid (T_wq13.out.keep hb14)
            have X1_wq14 := hid hp14
            clear hb14 hp14
            go_wp2_with fail
            refine ((sMetricOfSplits_u n _ L2 _ t2 _ L_wq14.out T_wq14.out).mono fun e w' h => h.lp HMO.out).mono ?_
            rintro e wq15 ⟨a15, n15, c15, rfl, hp15, hb15⟩
            have HBwq15 := hid (HBwq14.out.trans (hb15.mono HBwq14.out.size))
            have R1_wq15 := hid (R1_wq14.out.keep hb15)
            have L_wq15 := hid (L_wq14.out.keep hb15)
            have T_wq15 := hid (T_wq14.out.keep hb15)
            have X1_wq15 := hid (X1_wq14.out.keep hb15)
            have X2_wq15 := hid hp15
            clear hb15 hp15
            go_wp2_with fail
            refine (DrawTwiceLengthOf_c _ x1 _ R1_wq15.out).mono ?_
            rintro e wq16 ⟨vu, vs, U, S, rfl, hu16, hs16, hb16⟩
            have HBwq16 := hid (HBwq15.out.trans (hb16.mono HBwq15.out.size))
            have X1_wq16 := hid (X1_wq15.out.keep hb16)
            have X2_wq16 := hid (X2_wq15.out.keep hb16)
            have U_wq16 := hid hu16
            have S_wq16 := hid hs16
            obtain ⟨aqu, nqu, cqu, rfl⟩ : ∃ a n c, vu = .slice a n c := by obtain ⟨a, c, rfl, _⟩ := hu16; exact ⟨a, _, c, rfl⟩
            obtain ⟨aqs, nqs, cqs, rfl⟩ : ∃ a n c, vs = .slice a n c := by obtain ⟨a, c, rfl, _⟩ := hs16; exact ⟨a, _, c, rfl⟩
            obtain ⟨k, b7, hle⟩ : ∃ k b7, lengthB U S = (k, b7) := ⟨_, _, rfl⟩
            have HLE := hid hle
            clear hle
            clear hb16 hu16 hs16
            go_wp2_with fail
            refine ((iTwiceLengthOf_u _ U _ S _ U_wq16.out S_wq16.out).mono fun e w' h => zbLp h HLE.out).mono ?_
            rintro e wq17 ⟨rfl, hb17⟩
            have HBwq17 := hid (HBwq16.out.trans (hb17.mono HBwq16.out.size))
            have X1_wq17 := hid (X1_wq16.out.keep hb17)
            have X2_wq17 := hid (X2_wq16.out.keep hb17)
            have U_wq17 := hid (U_wq16.out.keep hb17)
            have S_wq17 := hid (S_wq16.out.keep hb17)
            clear hb17
            go_wp2_with fail
            refine ((sTwiceLengthOf_u _ U _ S _ U_wq17.out S_wq17.out).mono fun e w' h => zbLp h HLE.out).mono ?_
            rintro e wq18 ⟨rfl, hb18⟩
            have HBwq18 := hid (HBwq17.out.trans (hb18.mono HBwq17.out.size))
            have X1_wq18 := hid (X1_wq17.out.keep hb18)
            have X2_wq18 := hid (X2_wq17.out.keep hb18)
            have U_wq18 := hid (U_wq17.out.keep hb18)
            have S_wq18 := hid (S_wq17.out.keep hb18)
            clear hb18
            cases b5
            · go_wp2_with fail
              refine (qLists_y _ _ X _ X1_wq18.out X2_wq18.out).mono ?_
              rintro e wq19 ⟨rfl, hb19⟩
              have HBwq19 := hid (HBwq18.out.trans (hb19.mono HBwq18.out.size))
              have X1_wq19 := hid (X1_wq18.out.keep hb19)
              have X2_wq19 := hid (X2_wq18.out.keep hb19)
              clear hb19
              cases b7
              all_goals
                go_wp2
                go_ret
                exact ⟨rfl, HBwq19.out⟩
            · go_wp2_with fail
              refine (qLists_y _ _ X _ X1_wq18.out X2_wq18.out).mono ?_
              rintro e wq19 ⟨rfl, hb19⟩
              have HBwq19 := hid (HBwq18.out.trans (hb19.mono HBwq18.out.size))
              have X1_wq19 := hid (X1_wq18.out.keep hb19)
              have X2_wq19 := hid (X2_wq18.out.keep hb19)
              clear hb19
              cases b7
              all_goals
                have hmx := mos_met HMO.out
                have HMX := hid hmx
                clear hmx
                go_wp2_with fail
                refine ((iIsMetric_b _ X _ X1_wq19.out).mono fun e w' h => (show e = .returned (.bool true) ∧ Below _ _ w' from ⟨by rw [h.1, HMX.out], h.2⟩)).mono ?_
                rintro e wq20 ⟨rfl, hb20⟩
                have HBwq20 := hid (HBwq19.out.trans (hb20.mono HBwq19.out.size))
                have X1_wq20 := hid (X1_wq19.out.keep hb20)
                have X2_wq20 := hid (X2_wq19.out.keep hb20)
                clear hb20
                go_wp2
                go_ret
                exact ⟨rfl, HBwq20.out⟩

set_option maxRecDepth 100000 in
theorem fnSplits_met (os : Os) (args : Array Value) : laidMetH Tryz.prog Rows.fnSplitsRow.laid ((World.doorLaid Tryz.prog 24 os).forCall (fun _ _ => 0) ⟨#[], args, []⟩).memory :=
  laidMetH_of_parts3 (fuel := 8) (laidMet_of_run' 8 (by kernel_rfl) (by kernel_rfl)) (by kernel_rfl) (by kernel_rfl)

set_option maxRecDepth 100000 in
theorem fnSplits_lifted (os : Os) (started : os.Started) (H : Type) (enc : TypeId × Value → H) :
    ReturnsInHanded {} Tryz.checked os 3 .any (fun w args => (Rows.fnSplitsSpec.pre enc Tryz.prog Tryz.f3 [] false w args ∧ laidMetH Tryz.prog Rows.fnSplitsRow.laid w) ∧ sizedMet enc Tryz.prog Tryz.f3 (OpenSpec.ofChange Rows.fnSplitsSpec) false w args)
      (Rows.fnSplitsSpec.post enc Tryz.prog Tryz.f3 false true false false) := by
  refine returnsInHanded_of_change_and (C := Tryz.checked) (X := fun w _ => laidMetH Tryz.prog Rows.fnSplitsRow.laid w) (fun _ _ _ hh h => h.of_heap hh) Tryz.own' started (by kernel_rfl) Tryz.func3
    (ChangeSpec.witness_shaped (enc := enc) (C := Tryz.checked) (os := os) (X := fun w _ => laidMetH Tryz.prog Rows.fnSplitsRow.laid w) false (World.doorLaid Tryz.prog 24 os) #[.slice none 0 0, .slice none 0 0] 8 rfl (World.shaped_of_RefB (by kernel_rfl) (by kernel_rfl)) (by kernel_rfl) (by kernel_rfl) (by kernel_rfl) (fnSplits_met os _)) ?_
  intro W base args ds gs before hval0 hW _ _ _ _
  have hval : ∀ (j : Nat) t v, Tryz.f3.params[j]? = some t → args[j]? = some v → Value.okWide Tryz.prog W .any base t v := hval0
  have hW' := hW
  obtain ⟨p, q, hA0, hV, rfl, hfz, hnd⟩ := hW
  have hA : DataW.TrodAll enc Tryz.prog W 0 (fun _ => true) true Tryz.f3.params.toList args.toList ds p := hA0
  rw [Tryz.params3] at hA hval
  obtain ⟨v0, vs0, d0, ds0, p0, q0, hargs, rfl, rfl, h0, t0⟩ := trodAll_cons hA
  obtain ⟨v1, vs1, d1, ds1, p1, q1, rfl, rfl, rfl, h1, t1⟩ := trodAll_cons t0
  obtain ⟨rfl, rfl, rfl⟩ := trodAll_nil t1
  obtain rfl : args = #[v0, v1] := by cases args; simp_all
  obtain ⟨rfl, rfl⟩ := trodVars_none hV
  have k0 := h0
  have lt0 := trod_blocks k0
  obtain ⟨x0, r0, i0⟩ := open_rbytes (hval 0 22 v0 rfl rfl) h0
  have k1 := h1
  have lt1 := trod_blocks k1
  obtain ⟨x1, r1, i1⟩ := open_rbytes (hval 1 22 v1 rfl rfl) h1
  clear hA0 hval0
  refine (FnSplits_c v0 x0 v1 x1 W r0 r1).mono fun e W' ⟨he, bel⟩ => ?_
  subst he
  exact ⟨_, rfl, _, _, _, [], _, [], hW', trodAll_mk1 (shut_bool Tryz.underlying4 _), (trodAll_cons_mk (Below.trod Tryz.laidOut' (by kernel_rfl) (of_decide_eq_true (by kernel_rfl)) k0 bel lt0) (trodAll_cons_mk (Below.trod Tryz.laidOut' (by kernel_rfl) (of_decide_eq_true (by kernel_rfl)) k1 bel lt1) trodAll_mk0)), rfl, bel.frame _, fun h => by cases h⟩

theorem fnSplits_row : Rows.FnSplitsSaid :=
  OpenClaim.holds_of_wide 3 Tryz.f3 rfl rfl rfl rfl rfl rfl rfl ⟨rfl, rfl, rfl, rfl, rfl⟩ rfl rfl rfl rfl rfl (by kernel_rfl) Tryz.func3 (by kernel_rfl)
    (of_decide_eq_true (by kernel_rfl)) (by unfold Func.isWrapper; first | (rw [if_pos (by decide +kernel)]; kernel_rfl) | (rw [if_neg (by decide +kernel)]; exact ⟨rfl, rfl⟩))
    (fun os started H enc _ => fnSplits_lifted os started H enc)
theorem fnSplits_card : Rows.FnSplitsCardSaid :=
  Claim7.holds_tied_plain_at .later [] [.data, .data, .data] true (true, "3a337deb6b368da2ce6d7ffe14630bf4558603cce5d35a296ee93f383c21bc12") false
    fnSplits_row (fun _ h => by cases h) (by kernel_rfl) (fun _ h => by cases h) fnSplits_row_tie rfl ⟨rfl, rfl⟩ (by kernel_rfl) rfl
    (fun f fn hf hfn => by
      obtain rfl : f = 3 := Option.some.inj ((show Tryz.prog.funcNamed "loop.example/g01056/laws.FnSplits" = some 3 by kernel_rfl).symm.trans hf) |>.symm
      obtain rfl : fn = Tryz.f3 := (Option.some.inj (Tryz.func3.symm.trans hfn)).symm
      exact ⟨by kernel_rfl, fun j t ht => by
        rw [Tryz.params3] at ht
        have hm : t ∈ [22, 22] := by simpa using Array.mem_of_getElem? ht
        have hall : ([22, 22].all fun u => !Tryz.prog.wantsStandIn u) = true := by kernel_rfl
        exact (show Tryz.prog.wantsStandIn t = false by simpa using List.all_eq_true.1 hall t hm)⟩)
    (by kernel_rfl)

end Go.Proofs.YtnkbfgnmodfemaaGreatDoor

