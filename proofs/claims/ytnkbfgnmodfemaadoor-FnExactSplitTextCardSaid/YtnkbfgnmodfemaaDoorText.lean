/- The text of a split: both programs'. -/
import Derived.Test.YtnkbfgnmodfemaaDoorTxt
import Derived.Test.YtnkbfgnmodfemaaDoorSplit
import Derived.Test.YtnkbfgnmodfemaaDoorOwn
import Derived.Laws.IdiomStrings
namespace Go.Proofs.YtnkbfgnmodfemaaDoor
open Go.RowKit
open Go.Lib (hid)

/-- a digit's letter -/
def dig (i : Nat) : UInt8 := UInt8.ofNat (48 + i)
theorem dig_nat {i : Nat} (h : i < 10) : (dig i).toNat = 48 + i := by simp [dig]; omega

set_option maxRecDepth 100000 in
set_option maxHeartbeats 1000000 in
theorem l1Num_c (i : Nat) (hi : i < 10) (w : World) :
    Calls Tryd.prog 10 #[.int .i64 i] w fun e w' => e = .returned (.string ⟨#[dig i]⟩) ∧ Below w.heap.size w w' := by
  have hiz : (i : Int) < 10 := by omega
  have hb : Below w.heap.size w (w.alloc (.cells #[.int .u8 (48 + (i : Int))] 5)) := (Below.refl _ _).alloc (Nat.le_refl _) _
  have hcv := run_convert_bytes_back (P := Tryd.prog) (w.alloc (.cells #[.int .u8 (48 + (i : Int))] 5)) 34 9 5 ⟨w.heap.size, 0, none⟩ 1 [dig i] Tryd.underlying34 Tryd.underlying5 Tryd.underlying9 (fun j hj => by
    obtain rfl : j = 0 := by simp at hj; exact hj
    rw [addr_add, cell_new]
    simp [dig_nat hi])
  have HB := hid hb
  simp only [List.length_cons, List.length_nil, Nat.zero_add] at hcv
  clear hb
  go_enter Tryd.func10, Tryd.ntmps10
  go_wp2
  go_ret
  exact ⟨rfl, HB.out⟩

/-- the letters of numbers, each behind a comma -/
def cT (l : List Nat) : List UInt8 := l.flatMap fun i => [44, dig i]
/-- the numbers below n that are in a list, that are not -/
def insL (n : Nat) (a : List Int) : List Nat := (List.range n).filter fun (i : Nat) => hasB a i
def outL (n : Nat) (a : List Int) : List Nat := (List.range n).filter fun (i : Nat) => !hasB a i
theorem ins_yes {n : Nat} {a : List Int} (h : hasB a n = true) : insL (n + 1) a = insL n a ++ [n] ∧ outL (n + 1) a = outL n a := by
  unfold insL outL
  simp [List.range_succ, List.filter_append, h]
theorem ins_no {n : Nat} {a : List Int} (h : hasB a n = false) : insL (n + 1) a = insL n a ∧ outL (n + 1) a = outL n a ++ [n] := by
  unfold insL outL
  simp [List.range_succ, List.filter_append, h]
theorem cT_app (l : List Nat) (i : Nat) : cT (l ++ [i]) = cT l ++ [44, dig i] := by simp [cT]
theorem cT_len (l : List Nat) : (cT l).length = 2 * l.length := by
  induction l with
  | nil => rfl
  | cons x xs ih => simp [cT] at ih ⊢; omega
theorem ins_len (n : Nat) (a : List Int) : (insL n a).length ≤ n ∧ (outL n a).length ≤ n := by
  unfold insL outL
  exact ⟨by have := List.length_filter_le (fun (i : Nat) => hasB a i) (List.range n); simpa using this, by have := List.length_filter_le (fun (i : Nat) => !hasB a i) (List.range n); simpa using this⟩
def bstr (l : List UInt8) : Value := .string ⟨l.toArray⟩
theorem bstr_app (f : List UInt8) (d : UInt8) : Value.string ((⟨f.toArray⟩ : ByteArray) ++ ((⟨#[44]⟩ : ByteArray) ++ (⟨#[d]⟩ : ByteArray))) = bstr (f ++ [44, d]) := by
  unfold bstr
  congr 1
theorem bstr_end (f s : List UInt8) : Value.string ((⟨f.toArray⟩ : ByteArray).extract 1 f.length ++ (⟨#[124]⟩ : ByteArray) ++ (⟨s.toArray⟩ : ByteArray).extract 1 s.length) = bstr (f.drop 1 ++ (124 :: s.drop 1)) := by
  unfold bstr
  congr 1
  apply ByteArray.ext
  apply Array.ext'
  simp [ByteArray.data_extract, List.take_of_length_le]
/-- the text of a split -/
def sTxt (n : Nat) (a : List Int) : List UInt8 := (cT (outL n a)).drop 1 ++ (124 :: (cT (insL n a)).drop 1)

set_option maxRecDepth 100000 in
set_option maxHeartbeats 1000000 in
theorem sSplitText_yes (n : Nat) (v : Value) (a : List Int) (w : World) (h : RInts w v a) (hs : splitB n a = true) (hn : n ≤ 7) (h1 : insL n a ≠ []) (h2 : outL n a ≠ []) :
    Calls Tryd.prog 4 #[.int .i64 n, v] w fun e w' => e = .returned (.tuple #[bstr (sTxt n a), .bool true]) ∧ Below w.heap.size w w' := by
  have HR := hid h
  have H1 := hid h1
  have H2 := hid h2
  clear h h1 h2
  go_enter Tryd.func4, Tryd.ntmps4
  go_wp2_with fail
  refine (slGood_c (n : Int) _ a _ HR.out).mono ?_
  rintro e w' ⟨rfl, rfl⟩
  rw [hs]
  go_wp2
  go_loopg [6, 7, 8] n (fun gk fv sv iv wr => ∃ i : Nat, ∃ (f s : List UInt8), i ≤ n ∧ gk = n - i ∧ iv = .int .i64 i ∧ fv = bstr f ∧ sv = bstr s ∧ f.length ≤ 2 * i ∧ s.length ≤ 2 * i ∧ Hid (f = cT (outL i a) ∧ s = cT (insL i a)) ∧ Hid (Below w.heap.size w wr))
  case atStart => exact ⟨0, [], [], Nat.zero_le _, rfl, rfl, rfl, rfl, by simp, by simp, hid ⟨rfl, rfl⟩, hid (Below.refl _ _)⟩
  case round =>
    obtain ⟨i, f, s, hi, rfl, rfl, rfl, rfl, hf1, hs1, HT, HB⟩ := hrel
    by_cases hlt : i < n
    · have hltz : (i : Int) < (n : Int) := by omega
      have hR := HR.out.keep HB.out
      unfold bstr
      go_wp2_with fail
      refine (l1Has_c _ a _ _ hR).mono ?_
      rintro e w' ⟨rfl, rfl⟩
      obtain ⟨q, hq⟩ : ∃ q, hasB a (i : Int) = q := ⟨_, rfl⟩
      rw [hq]
      have HQ := hid hq
      clear hq
      have hf : ¬ 9223372036854775807 < f.length + 2 := by omega
      have hg : ¬ 9223372036854775807 < s.length + 2 := by omega
      cases q
      · go_wp2_with fail
        refine (l1Num_c i (by omega) _).mono ?_
        rintro e w2 ⟨rfl, hb2⟩
        have HB2 := hid (HB.out.trans (hb2.mono HB.out.size))
        clear hb2
        go_wp2
        go_roundg (n - (i + 1))
        case rel => exact ⟨i + 1, f ++ [44, dig i], s, by omega, rfl, by go_num, bstr_app _ _, rfl, by simp; omega, by omega, hid ⟨by rw [(ins_no HQ.out).2, cT_app, HT.out.1], by rw [(ins_no HQ.out).1, HT.out.2]⟩, HB2⟩
        case measure => omega
      · go_wp2_with fail
        refine (l1Num_c i (by omega) _).mono ?_
        rintro e w2 ⟨rfl, hb2⟩
        have HB2 := hid (HB.out.trans (hb2.mono HB.out.size))
        clear hb2
        go_wp2
        go_roundg (n - (i + 1))
        case rel => exact ⟨i + 1, f, s ++ [44, dig i], by omega, rfl, by go_num, rfl, bstr_app _ _, by omega, by simp; omega, hid ⟨by rw [(ins_yes HQ.out).2, HT.out.1], by rw [(ins_yes HQ.out).1, cT_app, HT.out.2]⟩, HB2⟩
        case measure => omega
    · obtain rfl : i = n := by omega
      have p1 : 1 ≤ f.length := by
        rw [HT.out.1, cT_len]
        have := List.length_pos_iff.2 H2.out
        omega
      have p2 : 1 ≤ s.length := by
        rw [HT.out.2, cT_len]
        have := List.length_pos_iff.2 H1.out
        omega
      have g1 : ¬ 9223372036854775807 < f.length := by omega
      have g2 : ¬ 9223372036854775807 < f.length - 1 + 1 := by omega
      have g3 : ¬ 9223372036854775807 < f.length - 1 + 1 + (s.length - 1) := by omega
      unfold bstr
      go_wp2
      go_quiet (fail)
      go_wp2
      go_ret2
      have HE : bstr (f.drop 1 ++ (124 :: s.drop 1)) = bstr (sTxt i a) := by rw [sTxt, HT.out.1, HT.out.2]
      exact ⟨congrArg (fun x => Ending.returned (.tuple #[x, .bool true])) ((bstr_end f s).trans HE), ⟨HB.out.os, HB.out.tape, HB.out.output, HB.out.size, HB.out.block⟩⟩

theorem ris_all : ∀ (l : List Int) (lo hi : Int) (o : Option Int), risB lo hi o l = true → ∀ x ∈ l, lo ≤ x ∧ x ≤ hi
  | [], _, _, _, _, x, hx => by cases hx
  | y :: ys, lo, hi, o, h, x, hx => by
    rw [risB_cons] at h
    simp only [Bool.and_eq_true] at h
    rcases List.mem_cons.1 hx with e | e
    · rw [e]; exact inB_iff.1 h.1
    · exact ris_all ys lo hi _ h.2.2 x e
theorem split_ne {n : Nat} {a : List Int} (h : splitB n a = true) : insL n a ≠ [] ∧ outL n a ≠ [] ∧ n ≤ 7 := by
  unfold splitB at h
  simp only [Bool.and_eq_true, decide_eq_true_eq] at h
  obtain ⟨h1, h2, h3⟩ := h
  have h4 := inB_iff.1 h1
  have h5 := ris_all _ _ _ _ h3
  refine ⟨?_, ?_, by omega⟩
  · match a, h2 with
    | x :: xs, _ =>
      have hx := h5 x (by simp)
      have hm : x.toNat ∈ insL n (x :: xs) := by
        unfold insL
        rw [List.mem_filter]
        refine ⟨List.mem_range.2 (by omega), ?_⟩
        have : ((x.toNat : Nat) : Int) = x := by omega
        rw [this]
        simp [hasB]
      intro e
      rw [e] at hm
      cases hm
  · have hm : 0 ∈ outL n a := by
      unfold outL
      rw [List.mem_filter]
      refine ⟨List.mem_range.2 (by omega), ?_⟩
      rw [Bool.not_eq_true', hasB, List.any_eq_false]
      intro x hx
      have := h5 x hx
      simp
      omega
    intro e
    rw [e] at hm
    cases hm
/-- the answer of SplitText -/
def txtB (n : Int) (a : List Int) : List UInt8 × Bool := if splitB n a then (sTxt n.toNat a, true) else ([], false)
theorem txtB_yes {n : Int} {a : List Int} (h : splitB n a = true) : txtB n a = (sTxt n.toNat a, true) := by rw [txtB, h]; rfl
theorem txtB_no {n : Int} {a : List Int} (h : splitB n a = false) : txtB n a = ([], false) := by rw [txtB, h]; rfl

set_option maxHeartbeats 1000000 in
theorem sSplitText_u (n : Int) (v : Value) (a : List Int) (w : World) (h : RInts w v a) :
    Calls Tryd.prog 4 #[.int .i64 n, v] w fun e w' => e = .returned (.tuple #[bstr (txtB n a).1, .bool (txtB n a).2]) ∧ Below w.heap.size w w' := by
  rcases Bool.eq_false_or_eq_true (splitB n a) with t | t
  · have hr : 2 ≤ n ∧ n ≤ 7 := by
      have t2 := t
      unfold splitB at t2
      simp only [Bool.and_eq_true] at t2
      exact inB_iff.1 t2.1
    obtain ⟨m, rfl⟩ : ∃ m : Nat, n = m := ⟨n.toNat, by omega⟩
    obtain ⟨h1, h2, h3⟩ := split_ne t
    rw [txtB_yes t]
    exact sSplitText_yes m v a w h t h3 h1 h2
  · have HM := hid (txtB_no t)
    have HR := hid h
    clear h
    go_enter Tryd.func4, Tryd.ntmps4
    go_wp2_with fail
    refine (slGood_c n _ a _ HR.out).mono ?_
    rintro e w' ⟨rfl, rfl⟩
    rw [t]
    go_wp2
    go_ret2
    exact ⟨by rw [HM.out]; rfl, Below.refl _ _⟩

end Go.Proofs.YtnkbfgnmodfemaaDoor
