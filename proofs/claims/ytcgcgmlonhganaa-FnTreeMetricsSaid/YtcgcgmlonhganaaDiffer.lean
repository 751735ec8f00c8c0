/- Four different vertices: slices.Compact of a sorted list, and both programs' FourSums. -/
import Derived.Test.YtcgcgmlonhganaaCmp
import Derived.Test.YtcgcgmlonhganaaSorted
import Derived.Test.YtcgcgmlonhganaaVertices
import Derived.Test.YtcgcgmlonhganaaSums
import Derived.Test.YtcgcgmlonhganaaBad2
namespace Go.Proofs.Ytcgcgmlonhganaa
open Go.RowKit
open Go.Lib (hid)

theorem compact_len_iff {s : List Int} (hs : s.Pairwise (· ≤ ·)) : (Lib.compact s).length = s.length ↔ s.Nodup := by
  have hL : (Lib.compact s).length = ((List.range s.length).filter (Lib.keeps s.toArray)).length := by simp [Lib.compact, Lib.compactUpTo]
  have hA := List.length_filter_eq_length_iff (p := Lib.keeps s.toArray) (l := List.range s.length)
  rw [List.length_range] at hA
  rw [hL, hA, List.Nodup, List.pairwise_iff_getElem]
  rw [List.pairwise_iff_getElem] at hs
  constructor
  · intro h i j hi hj hij e
    have h1 := h (i + 1) (List.mem_range.2 (by omega))
    simp only [Lib.keeps, decide_eq_true_eq, Nat.add_sub_cancel] at h1
    rcases h1 with h1 | h1
    · omega
    rw [getElem!_pos s.toArray (i + 1) (by simp; omega), getElem!_pos s.toArray i (by simp; omega)] at h1
    simp only [List.getElem_toArray] at h1
    have h2 := hs i (i + 1) hi (by omega) (by omega)
    by_cases hj1 : j = i + 1
    · subst hj1; exact h1 e.symm
    · have h3 := hs (i + 1) j (by omega) hj (by omega)
      omega
  · intro h j hj
    have hj := List.mem_range.1 hj
    simp only [Lib.keeps, decide_eq_true_eq]
    by_cases h0 : j = 0
    · exact .inl h0
    · right
      rw [getElem!_pos s.toArray j (by simpa using hj), getElem!_pos s.toArray (j - 1) (by simp; omega)]
      simp only [List.getElem_toArray]
      exact fun e => h (j - 1) j (by omega) hj (by omega) e.symm

theorem compact_srt (l : List Int) : (((Lib.compact (srt l)).length : Int) == (l.length : Int)) = decide l.Nodup := by
  have h1 := compact_len_iff (srt_sorted l)
  rw [srt_len] at h1
  have h2 : (srt l).Nodup ↔ l.Nodup := (srt_perm l).nodup_iff
  rw [h2] at h1
  rw [Bool.eq_iff_iff, beq_iff_eq, decide_eq_true_iff, ← h1]
  omega

set_option maxRecDepth 100000 in
set_option maxHeartbeats 1000000 in
theorem areDifferent_c (v u : Value) (M : List (List Int)) (l : List Int) (w : World) (hl : l.length ≤ 1048576) (h : RMat w v M) (h' : RInts w u l) :
    Calls Try.prog 52 #[v, u] w fun e w' => e = .returned (.bool (allB l 0 (M.length - 1) && decide l.Nodup)) ∧ Below w.heap.size w w' := by
  have HM := hid h
  have HL := hid h'
  obtain ⟨au, cu, hu, hu1, hu2, _⟩ := h'
  subst hu
  clear h
  rcases Bool.eq_false_or_eq_true (allB l 0 (M.length - 1)) with t | t
  · rw [t, Bool.true_and]
    go_enter Try.func52, Try.ntmps52
    go_wp2_with fail
    refine (areVertices_c _ _ M l _ HM.out HL.out).mono ?_
    rintro e w1 ⟨rfl, hb1⟩
    rw [t]
    have hl1 := HL.out.keep hb1
    have HL1 := hid hl1
    have HB1 := hid hb1
    clear hl1 hb1
    go_wp2_with fail
    refine (slicesValues_c _ _ _ HL1.out).mono ?_
    rintro e w' ⟨rfl, rfl⟩
    go_wp2_with fail
    refine (slicesSorted_c _ _ _ HL1.out hl).mono ?_
    rintro e w2 ⟨r, rfl, hF, hb2⟩
    have HC := hid (compact_srt l)
    have HB2 := hid (HB1.out.trans (hb2.mono HB1.out.size))
    obtain ⟨hrow, hlt⟩ := hF
    rcases hrow.2 with ⟨rfl, hz⟩ | ⟨gb, cap, cur, rfl, hbase, hgb, r1, r2, r3, r4⟩
    · have hz' : l.length = 0 := by rw [← srt_len]; simpa using hz
      have hln : l = [] := List.eq_nil_of_length_eq_zero hz'
      subst hln
      clear hrow hlt hb2
      go_wp2_with fail
      refine (Try.slices_Compact_int_empty none 0 w2).mono ?_
      rintro e w' ⟨rfl, rfl⟩
      go_wp2
      go_ret
      exact ⟨ret_bool (by rfl), HB2.out⟩
    · have hH : Sort.Holds (Value.int .i64) w2 gb 0 (srt l).toArray := holds_of_block_i hgb (by simpa using r4)
      have cS := Try.slices_Compact_int gb 0 cap (srt l) w2 hH (by rw [srt_len]; omega) (by simpa using r1)
      have HCS := hid cS
      have hfin : ∀ (q : Nat) (d : Array Int), Below w.heap.size w (Sort.putRow (Value.int .i64) (Sort.ahead w2 q) gb 0 d) := by
        intro q d
        have h2 := grownBy_sorted_i (w := w2) (g := gb) (n := q) (os := #[]) d
        have h3 : Sort.grow (Sort.putRow (Value.int .i64) (Sort.ahead w2 q) gb 0 d) #[] = Sort.putRow (Value.int .i64) (Sort.ahead w2 q) gb 0 d := by simp only [Sort.grow, Array.append_empty]
        have h4 := HB2.out.grown h2 HB2.out.size (fun j hj => by cases hj; exact Nat.le_trans HB1.out.size hbase)
        have h5 := h3 ▸ h4
        exact h5
      have HFIN := hid hfin
      have HSL := hid (srt_len l)
      clear hrow hlt hgb r1 r2 r3 r4 hH cS hfin hbase hb2
      go_wp2_with fail
      rw [show ((srt l).length : Nat) = (srt l).length from rfl]
      refine HCS.out.mono ?_
      rintro e w' ⟨rfl, q, rfl⟩
      have HQ := hid (HFIN.out q (Lib.compact (srt l) ++ List.replicate ((srt l).length - (Lib.compact (srt l)).length) 0).toArray)
      go_wp2
      go_ret
      exact ⟨ret_bool HC.out, HQ.out⟩
  · rw [t, Bool.false_and]
    go_enter Try.func52, Try.ntmps52
    go_wp2_with fail
    refine (areVertices_c _ _ M l _ HM.out HL.out).mono ?_
    rintro e w1 ⟨rfl, hb1⟩
    rw [t]
    have HB1 := hid hb1
    clear hb1
    go_wp2
    go_ret
    exact ⟨rfl, HB1.out⟩

/-- the answer of FourSums -/
def fourB (M : List (List Int)) (i j k l : Int) : List Int × Bool :=
  if metB M && (allB [i, j, k, l] 0 (M.length - 1) && decide [i, j, k, l].Nodup) then (sumsL M i.toNat j.toNat k.toNat l.toNat, true) else ([], false)
theorem fourB_len (M : List (List Int)) (i j k l : Int) : (fourB M i j k l).1.length ≤ 1048576 := by
  unfold fourB
  split <;> simp [sumsL]

theorem four_ints (w : World) (a b c d : Int) : RInts (w.alloc (.cells #[.int .i64 a, .int .i64 b, .int .i64 c, .int .i64 d] 3)) (.slice (some ⟨w.heap.size, 0, none⟩) 4 4) [a, b, c, d] := by
  have := ints_lit w w.heap.size (Nat.le_refl _) [a, b, c, d] (by simp)
  exact FInts.r (by simpa using this)

theorem four_nat {i j k l : Int} {n : Nat} (h : allB [i, j, k, l] 0 ((n : Int) - 1) = true) : ∃ a b c d : Nat, i = a ∧ j = b ∧ k = c ∧ l = d ∧ a < n ∧ b < n ∧ c < n ∧ d < n := by
  simp only [allB_cons, allB_nil, inB, Bool.and_eq_true, decide_eq_true_eq] at h
  exact ⟨i.toNat, j.toNat, k.toNat, l.toNat, by omega, by omega, by omega, by omega, by omega, by omega, by omega, by omega⟩

set_option maxRecDepth 100000 in
set_option maxHeartbeats 2000000 in
theorem iFourSums_u (v : Value) (M : List (List Int)) (i j k l : Int) (w : World) (h : RMat w v M) :
    Calls Try.prog 10 #[v, .int .i64 i, .int .i64 j, .int .i64 k, .int .i64 l] w (RetIntsB2 w (fourB M i j k l)) := by
  have HR := hid h
  obtain ⟨a, cap, hv, _⟩ := h
  subst hv
  rcases Bool.eq_false_or_eq_true (metB M) with t | t
  · have ha : Below w.heap.size w (w.alloc (.cells #[.int .i64 i, .int .i64 j, .int .i64 k, .int .i64 l] 3)) := (Below.refl _ _).alloc (Nat.le_refl _) _
    clear ha
    go_enter Try.func10, Try.ntmps10
    go_wp2_with fail
    refine (isMetric_c _ M _ HR.out).mono ?_
    rintro e w1 ⟨rfl, hb1⟩
    rw [t]
    have HB1 := hid hb1
    have ha : Below w1.heap.size w1 (w1.alloc (.cells #[.int .i64 i, .int .i64 j, .int .i64 k, .int .i64 l] 3)) := (Below.refl _ _).alloc (Nat.le_refl _) _
    have HA := hid (hb1.trans (ha.mono hb1.size))
    have H4 := hid (four_ints w1 i j k l)
    have HR2 := hid (HR.out.keep (hb1.trans (ha.mono hb1.size)))
    clear hb1 ha
    go_wp2_with fail
    refine (areDifferent_c _ _ M _ _ (by simp) HR2.out H4.out).mono ?_
    rintro e w2 ⟨rfl, hb2⟩
    have HR3 := hid (HR2.out.keep hb2)
    have HB2 := hid (HA.out.trans (hb2.mono HA.out.size))
    clear hb2
    rcases Bool.eq_false_or_eq_true (allB [i, j, k, l] 0 (M.length - 1) && decide [i, j, k, l].Nodup) with q | q
    · have HF : Hid (fourB M i j k l = (sumsL M i.toNat j.toNat k.toNat l.toNat, true)) := by show _ = _; rw [fourB, t, q]; rfl
      rw [q]
      have hall := (Bool.and_eq_true _ _ ▸ q).1
      clear q
      obtain ⟨a', b', c', d', rfl, rfl, rfl, rfl, h1, h2, h3, h4⟩ := four_nat hall
      clear hall
      go_wp2_with fail
      refine (fourSums_c _ M _ t HR3.out a' b' c' d' h1 h2 h3 h4).mono ?_
      rintro e w3 ⟨u, rfl, hF, hb3⟩
      have HB3 := hid (HB2.out.trans (hb3.mono HB2.out.size))
      have HFF := hid (hF.mono HB2.out.size (Nat.le_refl _))
      clear hF hb3
      go_wp2
      go_ret2
      exact ⟨u, by rw [HF.out]; rfl, by rw [HF.out]; exact HFF.out, HB3.out⟩
    · have HF : Hid (fourB M i j k l = ([], false)) := by show _ = _; rw [fourB, t, q]; rfl
      rw [q]
      clear q
      go_wp2
      go_ret2
      exact ⟨.slice none 0 0, by rw [HF.out]; rfl, by rw [HF.out]; exact ints_nil _ _ _, HB2.out⟩
  · have HF : Hid (fourB M i j k l = ([], false)) := by show _ = _; rw [fourB, t]; rfl
    go_enter Try.func10, Try.ntmps10
    go_wp2_with fail
    refine (isMetric_c _ M _ HR.out).mono ?_
    rintro e w1 ⟨rfl, hb1⟩
    rw [t]
    have HB1 := hid hb1
    clear hb1
    go_wp2
    go_ret2
    exact ⟨.slice none 0 0, by rw [HF.out]; rfl, by rw [HF.out]; exact ints_nil _ _ _, HB1.out⟩

theorem take_nodup {L : List Int} {k : Nat} (hk : k < L.length) (h : (L.take k).Nodup) {x : Int} (hx : L.getD k 0 = x) : hasB (L.take k) x = false → (L.take (k + 1)).Nodup := by
  intro hb
  have e : L.take (k + 1) = L.take k ++ [x] := by
    rw [List.take_add_one, List.getElem?_eq_getElem hk]
    simp [List.getD_eq_getElem?_getD, hk] at hx
    simp [hx]
  rw [e, List.nodup_append]
  refine ⟨h, by simp, ?_⟩
  intro a ha b hb' e'
  simp at hb'
  subst hb' e'
  simp only [hasB, List.any_eq_false] at hb
  exact absurd (hb _ ha) (by simp)
theorem not_nodup {L : List Int} {k : Nat} (hk : k < L.length) {x : Int} (hx : L.getD k 0 = x) (hb : hasB (L.take k) x = true) : ¬ L.Nodup := by
  intro h
  simp only [hasB, List.any_eq_true, beq_iff_eq] at hb
  obtain ⟨y, hy, rfl⟩ := hb
  obtain ⟨i, hi, e⟩ := List.mem_iff_getElem.1 hy
  have hi' : i < k := by simp at hi; omega
  rw [List.getElem_take] at e
  simp [List.getD_eq_getElem?_getD, hk] at hx
  exact (List.pairwise_iff_getElem.1 h i k (by omega) hk hi') (by rw [e, hx])

set_option maxRecDepth 100000 in
set_option maxHeartbeats 2000000 in
theorem sFourSums_u (v : Value) (M : List (List Int)) (i j k l : Int) (w : World) (h : RMat w v M) :
    Calls Try.prog 8 #[v, .int .i64 i, .int .i64 j, .int .i64 k, .int .i64 l] w (RetIntsB2 w (fourB M i j k l)) := by
  have ha : Below w.heap.size w (w.alloc (.cells #[.int .i64 i, .int .i64 j, .int .i64 k, .int .i64 l] 3)) := (Below.refl _ _).alloc (Nat.le_refl _) _
  have HA := hid ha
  have HR := hid (h.keep ha)
  have hl4 := four_ints w i j k l
  have H4 := hid hl4
  have hML := h.len
  obtain ⟨L, hL⟩ : ∃ L : List Int, [i, j, k, l] = L := ⟨_, rfl⟩
  have hLl : L.length = 4 := by rw [← hL]; rfl
  obtain ⟨a, cap, rfl, _⟩ := h
  clear hl4 ha
  rcases Bool.eq_false_or_eq_true (metB M) with t | t
  · have HMT := hid t
    rcases Bool.eq_false_or_eq_true (allB [i, j, k, l] 0 (M.length - 1)) with q | q
    · obtain ⟨a', b', c', d', rfl, rfl, rfl, rfl, h1, h2, h3, h4⟩ := four_nat q
      have HF : Hid (fourB M a' b' c' d' = if decide L.Nodup then (sumsL M a' b' c' d', true) else ([], false)) := by show _ = _; rw [fourB, t, q, hL]; rfl
      go_enter Try.func8, Try.ntmps8
      go_wp2_with fail
      refine (meGood_b _ M _ HR.out).mono ?_
      rintro e w1 ⟨rfl, hb1⟩
      rw [t]
      have HRR := hid (HR.out.keep hb1)
      have h5 := H4.out.keep hb1
      rw [hL] at h5
      have H5 := hid h5
      have HB1 := hid (HA.out.trans (hb1.mono HA.out.size))
      clear hb1 h5
      go_wp2_with fail
      refine (l1All_c _ L _ _ _ H5.out).mono ?_
      rintro e w' ⟨rfl, rfl⟩
      rw [← hL, q]
      obtain ⟨ga, ca, he, _, _, hc⟩ := H5.out
      simp only [Value.slice.injEq] at he
      obtain ⟨rfl, -, rfl⟩ := he
      have HLL := hid hLl
      have HLQ := hid hL
      clear hLl hL q t
      go_wp2
      go_loop [33] (fun i => ∃ k : Nat, k ≤ 4 ∧ i = .int .i64 k ∧ (L.take k).Nodup) (fun i => 4 - (intOf i).toNat)
      case atStart => exact ⟨0, Nat.zero_le _, rfl, by simp⟩
      case round =>
        obtain ⟨k, hk, rfl, hr⟩ := hrel
        have HRD := hid hr
        clear hr
        by_cases hlt : k < 4
        · have hcell := hc k (by have := HLL.out; omega)
          obtain ⟨g, o, he, hcell⟩ := hcell
          simp only [Option.some.injEq, Addr.mk.injEq, and_true] at he
          obtain ⟨rfl, rfl⟩ := he
          obtain ⟨x, hx⟩ : ∃ x, L.getD k 0 = x := ⟨_, rfl⟩
          rw [hx, Nat.zero_add] at hcell
          have HX := hid hx
          have HC := hid hc
          clear hx hc
          rcases Bool.eq_false_or_eq_true (hasB (L.take k) x) with p | p
          · have hno := not_nodup (by have := HLL.out; omega) HX.out p
            have HNO : Hid (fourB M a' b' c' d' = ([], false)) := by show _ = _; rw [HF.out]; simp [hno]
            go_wp2_with fail
            refine (l1Has_c _ (L.take k) _ _ (rints_take H5.out (by omega))).mono ?_
            rintro e w' ⟨rfl, rfl⟩
            rw [p]
            go_wp2
            go_ret2
            exact ⟨.slice none 0 0, by rw [HNO.out]; rfl, by rw [HNO.out]; exact ints_nil _ _ _, HB1.out⟩
          · go_wp2_with fail
            refine (l1Has_c _ (L.take k) _ _ (rints_take H5.out (by omega))).mono ?_
            rintro e w' ⟨rfl, rfl⟩
            rw [p]
            go_wp2
            go_round
            case rel => exact ⟨k + 1, by omega, by go_num, take_nodup (by have := HLL.out; omega) HRD.out HX.out p⟩
            case measure => simp [intOf]; omega
        · have hk4 : k = 4 := by omega
          subst hk4
          have hnd : L.Nodup := by have := HRD.out; rwa [List.take_of_length_le (by have := HLL.out; omega)] at this
          have HYES : Hid (fourB M a' b' c' d' = (sumsL M a' b' c' d', true)) := by show _ = _; rw [HF.out]; simp [hnd]
          clear hc hnd
          go_wp2_with fail
          refine (meSums_c _ M _ HMT.out HRR.out a' b' c' d' h1 h2 h3 h4).mono ?_
          rintro e w3 ⟨u, rfl, hF, hb3⟩
          have HB3 := hid (HB1.out.trans (hb3.mono HB1.out.size))
          have HFF := hid (hF.mono HB1.out.size (Nat.le_refl _))
          clear hF hb3
          go_wp2
          go_ret2
          exact ⟨u, by rw [HYES.out]; rfl, by rw [HYES.out]; exact HFF.out, HB3.out⟩
    · have HF : Hid (fourB M i j k l = ([], false)) := by show _ = _; rw [fourB, t, q]; rfl
      go_enter Try.func8, Try.ntmps8
      go_wp2_with fail
      refine (meGood_b _ M _ HR.out).mono ?_
      rintro e w1 ⟨rfl, hb1⟩
      rw [t]
      have HB1 := hid (HA.out.trans (hb1.mono HA.out.size))
      have H5 := hid (H4.out.keep hb1)
      clear hb1
      go_wp2_with fail
      refine (l1All_c _ [i, j, k, l] _ _ _ H5.out).mono ?_
      rintro e w' ⟨rfl, rfl⟩
      rw [q]
      go_wp2
      go_ret2
      exact ⟨.slice none 0 0, by rw [HF.out]; rfl, by rw [HF.out]; exact ints_nil _ _ _, HB1.out⟩
  · have HF : Hid (fourB M i j k l = ([], false)) := by show _ = _; rw [fourB, t]; rfl
    go_enter Try.func8, Try.ntmps8
    go_wp2_with fail
    refine (meGood_b _ M _ HR.out).mono ?_
    rintro e w1 ⟨rfl, hb1⟩
    rw [t]
    have HB1 := hid (HA.out.trans (hb1.mono HA.out.size))
    clear hb1
    go_wp2
    go_ret2
    exact ⟨.slice none 0 0, by rw [HF.out]; rfl, by rw [HF.out]; exact ints_nil _ _ _, HB1.out⟩

end Go.Proofs.Ytcgcgmlonhganaa
