/- WithoutTaxon of both programs. -/
import Derived.Test.YtcgcgmlonhganaaWithout
namespace Go.Proofs.Ytcgcgmlonhganaa
open Go.RowKit
open Go.Lib (hid)

theorem retMatB_no {w w' : World} (hb : Below w.heap.size w w') {p : List (List Int) × Bool} (hp : p = ([], false)) (e : Ending) (he : e = .returned (.tuple #[.slice none 0 0, .bool false])) : RetMatB w p e w' := by
  subst hp; subst he; exact ⟨_, rfl, mat_nil _ _ _, hb⟩
theorem castL_snoc (l : List Nat) (x : Nat) : castL l ++ [(x : Int)] = castL (l ++ [x]) := by simp [castL]


set_option maxRecDepth 100000 in
set_option maxHeartbeats 2000000 in
theorem iWithoutTaxon_u (v : Value) (M : List (List Int)) (i : Int) (w : World) (h : RMat w v M) :
    Calls Try.prog 32 #[v, .int .i64 i] w (RetMatB w (wtoB M i)) := by
  have hR := h
  obtain ⟨a, cap, rfl, h1, h2, hc⟩ := h
  clear hc
  unfold maxLen at h2
  rcases Bool.eq_false_or_eq_true (metB M) with hm | hm
  · obtain ⟨hn2, hn7, hsq, hsym, _⟩ := metB_parts hm
    have HSQ := hid hsq; clear hsq hsym
    by_cases h3 : M.length < 3
    · have HB := hid (wtoB_no M i (by rw [hm, decide_eq_false (by omega)]; rfl))
      go_enter Try.func32, Try.ntmps32
      go_wp2_with fail
      refine (isMetric_c _ M _ hR).mono ?_
      rintro e w1 ⟨rfl, hb1⟩
      rw [hm]
      go_wp2
      go_ret2
      exact retMatB_no hb1 HB.out _ rfl
    · go_enter Try.func32, Try.ntmps32
      go_wp2_with fail
      refine (isMetric_c _ M _ hR).mono ?_
      rintro e w1 ⟨rfl, hb1⟩
      rw [hm]
      have hR1 := hR.keep hb1
      go_wp2_with fail
      have hbx : Below w1.heap.size w1 (w1.alloc (.cells #[.int .i64 i] 3)) := (Below.refl _ _).alloc (Nat.le_refl _) _
      refine (areVertices_c _ _ M [i] _ (hR1.keep hbx) (rints_new w1 [i] (by simp))).mono ?_
      rintro e w2 ⟨rfl, hb2⟩
      have B2 := (hb1.trans (hbx.mono hb1.size)).trans (hb2.mono (Nat.le_trans hb1.size hbx.size))
      have hR2 := hR.keep B2
      have hi2 : allB [i] 0 (M.length - 1) = inB i 0 (M.length - 1) := by simp [allB_cons, allB_nil]
      rw [hi2]
      clear hb2 hbx hR1 hR hb1 hi2
      have hs2 := B2.size
      rcases Bool.eq_false_or_eq_true (inB i 0 (M.length - 1)) with hi | hi
      · obtain ⟨hi0, hi1⟩ := inB_iff.1 hi
        obtain ⟨j, rfl⟩ := Int.eq_ofNat_of_zero_le hi0
        have hj : j < M.length := by omega
        have HB := hid (wtoB_yes M j (by rw [hm, hi, decide_eq_true (by omega)]; rfl))
        have HE := hid (ints_empty w2 w.heap.size hs2)
        have HB2 := hid B2; clear B2
        have HR2 := hid hR2; clear hR2
        rw [hi]
        go_wp2
        go_loopg [6, 26] M.length (fun gk rest i wr => ∃ k : Nat, ∃ l : List Nat, k ≤ M.length ∧ gk = M.length - k ∧ i = .int .i64 k ∧ restL M.length j 0 = l ++ restL M.length j k ∧ FInts wr w2.heap.size wr.heap.size rest (castL l) ∧ Below w2.heap.size w2 wr ∧ w2.heap.size ≤ wr.heap.size)
        case atStart => exact ⟨0, [], Nat.zero_le _, rfl, rfl, by simp, (ints_empty w2 w2.heap.size (Nat.le_refl _)).mono (Nat.le_refl _) (by simp), (Below.refl _ _).alloc (Nat.le_refl _) _, by simp⟩
        case round =>
          obtain ⟨k, l, hk, rfl, rfl, hl, hF, hb, hsz⟩ := hrel
          have HL := hid hl; clear hl
          have hll : l.length ≤ M.length := by
            have h4 := restL_len M.length j 0
            rw [HL.out, List.length_append] at h4; omega
          by_cases hlt : k < M.length
          · by_cases hkj : k = j
            · have t1 : ((k : Int) != (j : Int)) = false := bne_nat_false hkj
              have HKJ := hid hkj; clear hkj
              go_wp2
              go_roundg (M.length - (k + 1))
              case rel => exact ⟨k + 1, l, by omega, rfl, by go_num, by rw [HL.out, restL_own hlt HKJ.out], hF, hb, hsz⟩
              case measure => omega
            · have t1 : ((k : Int) != (j : Int)) = true := bne_nat_true hkj
              have HKJ := hid hkj; clear hkj
              obtain ⟨p1, p2, p3⟩ := push_pre hF (k : Int)
              have hlen : (castL l).length + [(k : Int)].length ≤ 1099511627776 := by rw [castL_len]; simp; omega
              have HP3 := hid (Nat.le_trans hsz p3); clear p3
              have HF := hid hF
              have HBB := hid hb; clear hb hF
              go_wp2_with (at_builtin; refine wpList_append_ints rfl _ _ rfl _ _ _ _ _ [(k : Int)] rfl rfl p1 p2 hlen HP3.out ?_; intro v' w' hF' hg hn)
              have ht := push_post HF.out hg
              rw [castL_snoc] at hF'
              have HO : Aside (Below w2.heap.size w2 w' ∧ w2.heap.size ≤ w'.heap.size) := ⟨HBB.out.trans (ht.below (Nat.le_refl _) hsz), Nat.le_trans hsz ht.size⟩
              clear hg hn ht p1 p2
              go_roundg (M.length - (k + 1))
              case rel => exact ⟨k + 1, _, by omega, rfl, by go_num, by rw [HL.out, restL_other hlt HKJ.out, List.append_assoc]; rfl, hF', HO.out⟩
              case measure => omega
          · obtain rfl : k = M.length := by omega
            have hl2 : restL M.length j 0 = l := by rw [HL.out, restL_end (Nat.le_refl _), List.append_nil]
            rw [← hl2] at hF
            have HMEM := hid (fun r (hr : r ∈ restL M.length j 0) => (restL_mem hr).2.1)
            have hlen := restL_len M.length j 0
            have HW := hid (without_part (i := j) HSQ.out)
            have HF := hid hF
            have HBB := hid hb
            clear hl2 hF hb HL
            go_wp2_with fail
            refine (partOf_c _ _ _ M M.length (restL M.length j 0) (restL M.length j 0) _ (HR2.out.keep HBB.out) HF.out.r HF.out.r (by omega) rfl HSQ.out HMEM.out HMEM.out (by omega) (by omega)).mono ?_
            rintro e w3 ⟨u, rfl, hu, hb3⟩
            rw [← HW.out] at hu
            obtain ⟨au, cu, rfl⟩ := hu.form
            have HU := hid hu
            have HB3 := hid hb3
            clear hu hb3
            go_wp2
            go_ret2
            have hs3 := HB3.out.size
            exact ⟨_, by rw [HB.out]; rfl, by rw [HB.out]; exact HU.out.mono (by omega) (Nat.le_refl _), (HB2.out.trans (HBB.out.mono hs2)).trans (HB3.out.mono (by omega))⟩
      · have HB := hid (wtoB_no M i (by rw [hi]; simp))
        rw [hi]
        go_wp2
        go_ret2
        exact retMatB_no B2 HB.out _ rfl
  · have HB := hid (wtoB_no M i (by rw [hm]; rfl))
    go_enter Try.func32, Try.ntmps32
    go_wp2_with fail
    refine (isMetric_c _ M _ hR).mono ?_
    rintro e w1 ⟨rfl, hb1⟩
    rw [hm]
    go_wp2
    go_ret2
    exact retMatB_no hb1 HB.out _ rfl

set_option maxRecDepth 100000 in
set_option maxHeartbeats 2000000 in
theorem sWithoutTaxon_u (v : Value) (M : List (List Int)) (i : Int) (w : World) (h : RMat w v M) :
    Calls Try.prog 33 #[v, .int .i64 i] w (RetMatB w (wtoB M i)) := by
  have hR := h
  obtain ⟨a, cap, rfl, h1, h2, hc⟩ := h
  clear hc
  unfold maxLen at h2
  rcases Bool.eq_false_or_eq_true (metB M) with hm | hm
  · obtain ⟨hn2, hn7, hsq, hsym, _⟩ := metB_parts hm
    by_cases h3 : M.length < 3
    · have HB := hid (wtoB_no M i (by rw [hm, decide_eq_false (by omega)]; rfl))
      go_enter Try.func33, Try.ntmps33
      go_wp2_with fail
      refine (meGood_b _ M _ hR).mono ?_
      rintro e w1 ⟨rfl, hb1⟩
      rw [hm]
      go_wp2
      go_ret2
      exact retMatB_no hb1 HB.out _ rfl
    · rcases Bool.eq_false_or_eq_true (inB i 0 (M.length - 1)) with hi | hi
      · obtain ⟨hi0, hi1⟩ := inB_iff.1 hi
        obtain ⟨j, rfl⟩ := Int.eq_ofNat_of_zero_le hi0
        have hj : j < M.length := by omega
        have HB := hid (wtoB_yes M j (by rw [hm, hi, decide_eq_true (by omega)]; rfl))
        have HL := hid (fun r hr => sqB_len (i := r) hsq hr)
        clear hsq hsym
        go_enter Try.func33, Try.ntmps33
        go_wp2_with fail
        refine (meGood_b _ M _ hR).mono ?_
        rintro e w2 ⟨rfl, B2⟩
        rw [hm]
        have hR2 := hR.keep B2
        have hs2 := B2.size
        have HR2 := hid hR2
        have HB2 := hid B2
        clear hR hR2 B2
        go_wp2_with (go_at_call 79; refine (l1In_c _ _ _ _).mono ?_; rintro e w' ⟨rfl, rfl⟩)
        go_loopg [6, 27] M.length (fun gk out i wr => ∃ k : Nat, ∃ L : List (List Int), k ≤ M.length ∧ gk = M.length - k ∧ i = .int .i64 k ∧ withoutB M j = L ++ (restL M.length j k).map (fun r => dropAt (M.getD r []) j) ∧ L.length ≤ k ∧ FMat wr w2.heap.size wr.heap.size out L ∧ Below w2.heap.size w2 wr ∧ w2.heap.size ≤ wr.heap.size)
        case atStart => exact ⟨0, [], Nat.zero_le _, rfl, rfl, rfl, Nat.le_refl _, mat_nil _ _ _, Below.refl _ _, Nat.le_refl _⟩
        case round =>
          obtain ⟨k, L, hk, rfl, rfl, hl, hLk, hF, hb, hsz⟩ := hrel
          have HLL := hid hl; clear hl
          by_cases hlt : k < M.length
          · have hR3 := HR2.out.keep hb
            obtain ⟨ax, cx, hv, hx1, hx2, hcx⟩ := hR3
            simp only [Value.slice.injEq, true_and] at hv
            obtain ⟨rfl, rfl⟩ := hv
            obtain ⟨g, o, r, x, rfl, hkc, hx, HD, HX⟩ := mat_at hcx hlt
            have hxl : x.length = M.length := by rw [← HX.out]; exact HL.out k hlt
            have HXL := hid hxl; clear hxl hcx hx2
            by_cases hkj : k = j
            · have t1 : ((k : Int) != (j : Int)) = false := bne_nat_false hkj
              have HKJ := hid hkj; clear hkj
              go_wp2
              go_roundg (M.length - (k + 1))
              case rel => exact ⟨k + 1, L, by omega, rfl, by go_num, by rw [HLL.out, restL_own hlt HKJ.out], by omega, hF, hb, hsz⟩
              case measure => omega
            · have t1 : ((k : Int) != (j : Int)) = true := bne_nat_true hkj
              have HKJ := hid hkj; clear hkj
              have hjx : j < x.length := by rw [HXL.out]; exact hj
              have hxs : x.length ≤ 1048576 := by rw [HXL.out]; omega
              have HF := hid hF
              have HBB := hid hb
              clear hF hb
              go_wp2_with fail
              refine (meWithout_c _ x j _ hx hjx hxs).mono ?_
              rintro e w3 ⟨u, rfl, hu, hb3⟩
              obtain ⟨au, nu, cu, rfl⟩ := hu.form3
              obtain ⟨q1, q2, q3, q4, q5⟩ := row_one HF.out HBB.out hsz hb3 hu
              have HQ4 := hid q4
              have HQ5 := hid q5
              have hkl : L.length ≤ 1099511627776 := by omega
              have HO2 := hid (own_blocks q1)
              clear q4 q5 hu hb3
              go_wp2_with (at_builtin; refine wpList_append_row rfl _ _ rfl _ _ _ _ _ _ _ _ _ _ rfl rfl q1 q2 q3 (Nat.le_refl _) hsz hkl HQ4.out ?_; intro v' w' hF' hg hn)
              have hB' := HQ5.out.grown hg HQ4.out HO2.out
              have HO : Aside (withoutB M j = (L ++ [x.take j ++ x.drop (j + 1)]) ++ (restL M.length j (k + 1)).map (fun r => dropAt (M.getD r []) j) ∧ Below w2.heap.size w2 w' ∧ w2.heap.size ≤ w'.heap.size) :=
                ⟨by rw [HLL.out, restL_other hlt HKJ.out, List.map_cons, List.append_assoc, HX.out]; rfl, hB', hB'.size⟩
              clear q1 q2 q3 hg hn hB'
              go_roundg (M.length - (k + 1))
              case rel => exact ⟨k + 1, _, by omega, rfl, by go_num, HO.out.1, by simp; omega, hF', HO.out.2⟩
              case measure => omega
          · obtain rfl : k = M.length := by omega
            have hl2 : withoutB M j = L := by rw [HLL.out, restL_end (Nat.le_refl _)]; simp
            rw [← hl2] at hF
            have HF := hid hF
            have HBB := hid hb
            clear hl2 hF hb HLL
            go_wp2
            go_ret2
            exact ⟨_, by rw [HB.out]; rfl, by rw [HB.out]; exact HF.out.mono hs2 (Nat.le_refl _), HB2.out.trans (HBB.out.mono hs2)⟩
      · have HB := hid (wtoB_no M i (by rw [hi]; simp))
        go_enter Try.func33, Try.ntmps33
        go_wp2_with fail
        refine (meGood_b _ M _ hR).mono ?_
        rintro e w1 ⟨rfl, hb1⟩
        rw [hm]
        go_wp2_with (go_at_call 79; refine (l1In_c _ _ _ _).mono ?_; rintro e w' ⟨rfl, rfl⟩)
        go_ret2
        exact retMatB_no hb1 HB.out _ rfl
  · have HB := hid (wtoB_no M i (by rw [hm]; rfl))
    go_enter Try.func33, Try.ntmps33
    go_wp2_with fail
    refine (meGood_b _ M _ hR).mono ?_
    rintro e w1 ⟨rfl, hb1⟩
    rw [hm]
    go_wp2
    go_ret2
    exact retMatB_no hb1 HB.out _ rfl

theorem wto_tot (M : List (List Int)) (i : Int) : tot (wtoB M i).1 ≤ 1099511627776 := by
  rcases Bool.eq_false_or_eq_true (metB M && (decide (3 ≤ M.length) && inB i 0 (M.length - 1))) with h | h
  · have h' := h
    simp only [Bool.and_eq_true, inB_iff] at h'
    obtain ⟨hn2, hn7, hsq, _⟩ := metB_parts h'.1
    obtain ⟨j, rfl⟩ := Int.eq_ofNat_of_zero_le h'.2.2.1
    rw [wtoB_yes M j h]
    have := tot_le (M := withoutB M j) (a := 7) (by have := restL_len M.length j 0; simp [withoutB]; omega) (fun r hr => by
      unfold withoutB at hr
      obtain ⟨k, hk, rfl⟩ := List.mem_map.1 hr
      have := sqB_len hsq (restL_mem hk).2.1
      unfold dropAt
      rw [List.length_append, List.length_take, List.length_drop]; omega)
    show tot (withoutB M j) ≤ _
    omega
  · rw [wtoB_no M i h]; simp [tot]

end Go.Proofs.Ytcgcgmlonhganaa
