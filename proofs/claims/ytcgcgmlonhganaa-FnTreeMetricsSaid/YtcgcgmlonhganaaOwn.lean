/- Copies of slices. -/
import Derived.Test.YtcgcgmlonhganaaAppend
import Derived.Deep.RegionLaw
namespace Go.Proofs.Ytcgcgmlonhganaa
open Go.RowKit
open Go.Lib (hid)

set_option maxHeartbeats 400000 in
theorem l1Own_c (v : Value) (l : List Int) (w : World) (h : RInts w v l) (hl : l.length ≤ 1048576) :
    Calls Try.prog 90 #[v] w (RetInts w l) := by
  have hb : Below w.heap.size w (w.alloc (.cells #[] 3)) := (Below.refl _ _).alloc (Nat.le_refl _) _
  have hF := ints_empty w w.heap.size (Nat.le_refl _)
  have hR := h.keep hb
  go_enter Try.func90, Try.ntmps90
  go_wp2_with (at_builtin; refine wpList_append_ints rfl _ _ rfl _ _ _ _ [] l rfl rfl hF hR (by simp; omega) (by simp) ?_; intro v' w' hF' hg hn)
  go_ret
  exact ⟨_, rfl, hF', hb.grown hg (by simp) (fun k hk => by cases hk; exact Nat.le_refl _)⟩

set_option maxHeartbeats 400000 in
theorem clone_c (v : Value) (l : List Int) (w : World) (h : RInts w v l) (hl : l.length ≤ 1048576) :
    Calls Try.prog 60 #[v] w (RetInts w l) := by
  have hb : Below w.heap.size w (w.alloc (.cells #[] 3)) := (Below.refl _ _).alloc (Nat.le_refl _) _
  have hF := ints_empty w w.heap.size (Nat.le_refl _)
  have hR := h.keep hb
  obtain ⟨a, cap, rfl, h1, h2, hc⟩ := h
  cases a with
  | none =>
    have hn : l = [] := by
      cases l with
      | nil => rfl
      | cons y ys => obtain ⟨g, o, he, _⟩ := hc 0 (by simp); cases he
    subst hn
    clear hc
    have hnil := fun w => Lib.run_eql_slice_nil (P := Try.prog) w 24 3 none 0 cap 0 0 Try.underlying24
    go_enter Try.func60, Try.ntmps60
    go_wp2
    go_ret
    exact ⟨_, rfl, ints_nil _ _ _, Below.refl _ _⟩
  | some ad =>
    clear hc
    have hnil := fun w => Lib.run_eql_slice_nil (P := Try.prog) w 24 3 (some ad) l.length cap 0 0 Try.underlying24
    go_enter Try.func60, Try.ntmps60
    go_wp2_with (at_builtin; refine wpList_append_ints rfl _ _ rfl _ _ _ _ [] l rfl rfl hF hR (by simp; omega) (by simp) ?_; intro v' w' hF' hg hn)
    go_ret
    exact ⟨_, rfl, hF', hb.grown hg (by simp) (fun k hk => by cases hk; exact Nat.le_refl _)⟩

/-- the copy of a row, appended: what the round's end holds -/
theorem row_one {w wr w1 : World} {B : Nat} {v u : Value} {L : List (List Int)} {x : List Int} (hF : FMat wr B wr.heap.size v L) (hb : Below B w wr) (hB : B ≤ wr.heap.size) (h1 : Below wr.heap.size wr w1) (hu : FInts w1 wr.heap.size w1.heap.size u x) :
    FMat (w1.alloc (.cells #[u] 24)) B wr.heap.size v L ∧ FInts (w1.alloc (.cells #[u] 24)) wr.heap.size w1.heap.size u x ∧ (w1.alloc (.cells #[u] 24)).cell? ⟨w1.heap.size, 0, none⟩ = some u ∧ B ≤ (w1.alloc (.cells #[u] 24)).heap.size ∧
      Below B w (w1.alloc (.cells #[u] 24)) := by
  have hs := h1.size
  have ha : Below w1.heap.size w1 (w1.alloc (.cells #[u] 24)) := (Below.refl _ _).alloc (Nat.le_refl _) _
  refine ⟨(hF.keep h1).keep ha, hu.keep ha, cell_new _ _ _, by simp; omega, (hb.trans (h1.mono hB)).trans (ha.mono (by omega))⟩

theorem own_blocks {w : World} {lo hi : Nat} {v : Value} {M : List (List Int)} (h : FMat w lo hi v M) : ∀ k, v.ownBlock = some k → lo ≤ k := by
  obtain ⟨vs, h0, _⟩ := h
  exact fun k hk => (h0.lt k hk).1

set_option maxHeartbeats 1000000 in
theorem mxOwn_c (v : Value) (M : List (List Int)) (w : World) (h : RMat w v M) (hl : (M.length : Int) ≤ 1048576 ∧ ∀ r ∈ M, (r.length : Int) ≤ 1048576) :
    Calls Try.prog 63 #[v] w (RetMat w M) := by
  obtain ⟨a, cap, rfl, h1, h2, hc⟩ := h
  obtain ⟨hl1, hl2⟩ := hl
  unfold maxLen at h2
  have HL := hid hl2; clear hl2
  go_enter Try.func63, Try.ntmps63
  go_wp2
  go_loopg [3, 8] M.length (fun gk out i wr => ∃ k : Nat, k ≤ M.length ∧ gk = M.length - k ∧ i = .int .i64 k ∧ FMat wr w.heap.size wr.heap.size out (M.take k) ∧ Below w.heap.size w wr ∧ w.heap.size ≤ wr.heap.size)
  case atStart =>
    exact ⟨0, Nat.zero_le _, rfl, rfl, mat_nil _ _ _, Below.refl _ _, Nat.le_refl _⟩
  case round =>
    obtain ⟨k, hk, rfl, rfl, hm, hbw, hsz⟩ := hrel
    by_cases hlt : k < M.length
    · obtain ⟨g, o, r, y, rfl, hk, hy, HD, HX⟩ := mat_at hc hlt
      have HC := hid hc; clear hc
      have hk' : wr.cell? ⟨g, o + k, none⟩ = some r := by rw [hbw.cell (p := ⟨g, o + k, none⟩) (cell_lt hk)]; exact hk
      have hy' := hy.keep hbw
      have hyl : y.length ≤ 1048576 := by
        have := HL.out y (by rw [← HX.out]; simp [List.getD, List.getElem?_eq_getElem hlt])
        omega
      have HT : Hid (M.take k ++ [y] = M.take (k + 1)) := by show _ = _; rw [take_succ_getD M k hlt, HX.out]
      clear hk hy
      go_wp2_with fail
      refine (l1Own_c _ y _ hy' hyl).mono ?_
      rintro e w1 ⟨u, rfl, hu, hb⟩
      obtain ⟨au, cu, rfl⟩ := hu.form
      obtain ⟨q1, q2, q3, q4, q5⟩ := row_one hm hbw hsz hb hu
      have HQ4 := hid q4
      have HQ5 := hid q5
      have hkl : (M.take k).length ≤ 1099511627776 := by rw [List.length_take]; omega
      clear hm hk' q4 q5 hu
      go_wp2_with (at_builtin; refine wpList_append_row rfl _ _ rfl _ _ _ _ _ _ _ _ _ y rfl rfl q1 q2 q3 (Nat.le_refl _) hsz hkl HQ4.out ?_; intro v' w' hF' hg hn)
      have hB' := HQ5.out.grown hg HQ4.out (own_blocks q1)
      rw [HT.out] at hF'
      go_roundg (M.length - (k + 1))
      case rel => exact ⟨k + 1, by omega, rfl, by go_num, hF', hB', by have := hB'.size; omega⟩
      case measure => omega
    · obtain rfl : k = M.length := by omega
      rw [List.take_length] at hm
      clear hc
      go_wp2
      go_ret
      exact ⟨_, rfl, hm, hbw⟩

set_option maxHeartbeats 1000000 in
theorem clones_c (v : Value) (M : List (List Int)) (w : World) (h : RMat w v M) (hl : (M.length : Int) ≤ 1048576 ∧ ∀ r ∈ M, (r.length : Int) ≤ 1048576) :
    Calls Try.prog 62 #[v] w (RetMat w M) := by
  obtain ⟨a, cap, rfl, h1, h2, hc⟩ := h
  obtain ⟨hl1, hl2⟩ := hl
  unfold maxLen at h2
  have HL := hid hl2; clear hl2
  go_enter Try.func62, Try.ntmps62
  go_wp2
  go_loopg [3, 9] M.length (fun gk out i wr => ∃ k : Nat, k ≤ M.length ∧ gk = M.length - k ∧ i = .int .i64 k ∧ FMat wr w.heap.size wr.heap.size out (M.take k) ∧ Below w.heap.size w wr ∧ w.heap.size ≤ wr.heap.size)
  case atStart =>
    exact ⟨0, Nat.zero_le _, rfl, rfl, by simpa using mat_empty w w.heap.size (Nat.le_refl _), (Below.refl _ _).alloc (Nat.le_refl _) _, by simp⟩
  case round =>
    obtain ⟨k, hk, rfl, rfl, hm, hbw, hsz⟩ := hrel
    by_cases hlt : k < M.length
    · obtain ⟨g, o, r, y, rfl, hk, hy, HD, HX⟩ := mat_at hc hlt
      have HC := hid hc; clear hc
      have hk' : wr.cell? ⟨g, o + k, none⟩ = some r := by rw [hbw.cell (p := ⟨g, o + k, none⟩) (cell_lt hk)]; exact hk
      have hy' := hy.keep hbw
      have hyl : y.length ≤ 1048576 := by
        have := HL.out y (by rw [← HX.out]; simp [List.getD, List.getElem?_eq_getElem hlt])
        omega
      have HT : Hid (M.take k ++ [y] = M.take (k + 1)) := by show _ = _; rw [take_succ_getD M k hlt, HX.out]
      clear hk hy
      go_wp2_with fail
      refine (clone_c _ y _ hy' hyl).mono ?_
      rintro e w1 ⟨u, rfl, hu, hb⟩
      obtain ⟨au, cu, rfl⟩ := hu.form
      obtain ⟨q1, q2, q3, q4, q5⟩ := row_one hm hbw hsz hb hu
      have HQ4 := hid q4
      have HQ5 := hid q5
      have hkl : (M.take k).length ≤ 1099511627776 := by rw [List.length_take]; omega
      clear hm hk' q4 q5 hu
      go_wp2_with (at_builtin; refine wpList_append_row rfl _ _ rfl _ _ _ _ _ _ _ _ _ y rfl rfl q1 q2 q3 (Nat.le_refl _) hsz hkl HQ4.out ?_; intro v' w' hF' hg hn)
      have hB' := HQ5.out.grown hg HQ4.out (own_blocks q1)
      rw [HT.out] at hF'
      go_roundg (M.length - (k + 1))
      case rel => exact ⟨k + 1, by omega, rfl, by go_num, hF', hB', by have := hB'.size; omega⟩
      case measure => omega
    · obtain rfl : k = M.length := by omega
      rw [List.take_length] at hm
      clear hc
      go_wp2
      go_ret
      exact ⟨_, rfl, hm, hbw⟩

end Go.Proofs.Ytcgcgmlonhganaa
