/- Small graphs and divisors: the reference's functions. -/
import Derived.Test.YtifdhapaonideaaConn
import Derived.Test.YtifdhapaonideaaGraphOf
import Derived.Test.YtifdhapaonideaaPush
namespace Go.Proofs.Ytifdhapaonideaa
open Go.RowKit
open Go.Lib (hid)

set_option maxRecDepth 100000 in
set_option maxHeartbeats 2000000 in
theorem chValences_c (n : Nat) (v : Value) (L : List Lnk) (w : World) (h : RLinks w v L) (hG : GoodL n L) :
    Calls Try.prog 84 #[.int .i64 n, v] w (RetInts w (lst n (valV n L))) := by
  have HR := hid h
  have hn8 := hG.n8
  have hn1 := hG.n1
  obtain ⟨a, cap, rfl, _, _, hcc⟩ := h
  clear hcc
  have HG := hid hG; clear hG
  go_enter Try.func84, Try.ntmps84
  go_wp2_with fail
  refine (chLaplacian_c n _ L _ HR.out HG.out).mono ?_
  rintro e w1 ⟨u, rfl, hF, hb1⟩
  have hR := hF.r
  obtain ⟨gM, oM, cM, G, O, C, rfl, hcm1, hcm2, hrow, hent⟩ := rm_open hR (by omega)
  have HROW := hid hrow
  have HENT := hid hent
  have HB1 := hid hb1
  have hsz := hb1.size
  clear hF hR hrow hent hb1
  go_wp2
  go_loopg [5, 12] n (fun gk out i wr => ∃ k : Nat, ∃ a c, out = .slice a k c ∧ k ≤ n ∧ gk = n - k ∧ i = .int .i64 k ∧ FInts wr w1.heap.size wr.heap.size (.slice a k c) (lst k (valV n L)) ∧ Below w1.heap.size w1 wr)
  case atStart => exact ⟨0, none, 0, rfl, Nat.zero_le _, rfl, rfl, ints_nil _ _ _, Below.refl _ _⟩
  case round =>
    obtain ⟨k, a', c', rfl, hk, rfl, rfl, hF, hb⟩ := hrel
    have HB := hid hb
    by_cases hlt : k < n
    · have e1 := (hb.cell (p := ⟨gM, oM + k, none⟩) (cell_lt (HROW.out k hlt))).trans (HROW.out k hlt)
      have e2 := (hb.cell (p := ⟨G k, O k + k, none⟩) (cell_lt (HENT.out k k hlt hlt))).trans (HENT.out k k hlt hlt)
      have hv : lapV n L k k = valV n L k := by unfold lapV; rw [if_pos rfl]; rfl
      rw [hv] at e2
      obtain ⟨x, hx⟩ : ∃ x, valV n L k = x := ⟨_, rfl⟩
      rw [hx] at e2
      have HX : Hid (lst k (valV n L) ++ [x] = lst (k + 1) (valV n L)) := by show _ = _; rw [lst_succ, hx]
      have hkz : (k : Int) < (n : Int) := by omega
      have hsb := hb.size
      have HF := hid hF
      have hll : (lst k (valV n L)).length = k := lst_len _ _
      have HLL := hid hll
      clear hF hb hv hx hll
      go_wp2_with (at_builtin; (refine wpList_push_r (W0 := w1) rfl _ _ rfl w1.heap.size (.slice a' k c') (lst k (valV n L)) x rfl rfl HF.out HB.out hsb k HLL (by omega) _ HX ?_; intro g4 c4 w4 hF4 hb4; have HF4 := hid hF4; have HB4 := hid hb4; clear hF4 hb4))
      go_roundg (n - (k + 1))
      case rel => exact ⟨k + 1, _, _, rfl, by omega, rfl, by go_num, HF4.out, HB4.out⟩
      case measure => omega
    · obtain rfl : k = n := by omega
      have HF := hid hF
      clear hF hb
      go_wp2
      go_ret
      exact ⟨_, rfl, HF.out.mono hsz (Nat.le_refl _), HB1.out.trans (HB.out.mono hsz)⟩

set_option maxRecDepth 100000 in
set_option maxHeartbeats 2000000 in
theorem chGenus_c (n : Nat) (v : Value) (L : List Lnk) (w : World) (h : RLinks w v L) (hG : GoodL n L) :
    Calls Try.prog 91 #[.int .i64 n, v] w fun e w' => e = .returned (.int .i64 (1 - n + edgL L)) ∧ Below w.heap.size w w' := by
  have HR := hid h
  have hn8 := hG.n8
  have hn1 := hG.n1
  obtain ⟨a, cap, rfl, _, hcm, hcc⟩ := h
  clear hcc
  unfold maxLen at hcm
  have HG := hid hG; clear hG
  go_enter Try.func91, Try.ntmps91
  go_wp2
  go_loopg [5, 12] L.length (fun gk sm i wr => ∃ j : Nat, j ≤ L.length ∧ gk = L.length - j ∧ i = .int .i64 j ∧ sm = .int .i64 (1 - n + edgL (L.take j)) ∧ Below w.heap.size w wr)
  case atStart => exact ⟨0, Nat.zero_le _, rfl, rfl, by simp [edgL], Below.refl _ _⟩
  case round =>
    obtain ⟨j, hj, rfl, rfl, rfl, hb⟩ := hrel
    have HB := hid hb
    by_cases hlt : j < L.length
    · obtain ⟨a', cap', hv, _, _, hc⟩ := HR.out.keep hb
      simp only [Value.slice.injEq, true_and] at hv
      obtain ⟨rfl, rfl⟩ := hv
      obtain ⟨g, o, x, y, z, rfl, c1, c2, c3, HD, HX⟩ := links_at hc hlt
      have htk : L.take (j + 1) = L.take j ++ [⟨x, y, z⟩] := by
        rw [List.take_succ_eq_append_getElem hlt]
        have := HX.out
        simp [List.getD, hlt] at this
        rw [this]
      have h1 := edgL_bound (HG.out.take j)
      have h2 := edgL_bound (HG.out.take (j + 1))
      have h3 := edgL_snoc (L.take j) ⟨x, y, z⟩
      rw [← htk] at h3
      obtain ⟨q, hq⟩ : ∃ q, edgL (L.take j) = q := ⟨_, rfl⟩
      rw [hq] at h1 h3
      have HE := hid h3
      have hz : -1000 ≤ z ∧ z ≤ 1000 := by dsimp only at h3; omega
      rw [hq]
      have hltz : (j : Int) < (L.length : Int) := by omega
      have hab : Below w.heap.size w (wr.alloc (.cells #[.int .i64 x, .int .i64 y, .int .i64 z] 104)) := hb.alloc hb.size _
      have HAB := hid hab
      clear hc htk hb h3 h2 hq hab
      go_wp2
      go_roundg (L.length - (j + 1))
      case rel => exact ⟨j + 1, by omega, rfl, by go_num, by rw [HE.out]; congr 1; omega, HAB.out⟩
      case measure => omega
    · obtain rfl : j = L.length := by omega
      rw [List.take_length]
      clear hb
      go_wp2
      go_ret
      exact ⟨rfl, HB.out⟩

/-- numbers of a small size -/
def smallI (l : List Int) : Prop := l.length ≤ 1000 ∧ ∀ x ∈ l, -10000 ≤ x ∧ x ≤ 10000
theorem sum_bound {l : List Int} (h : ∀ x ∈ l, -10000 ≤ x ∧ x ≤ 10000) : -10000 * (l.length : Int) ≤ l.sum ∧ l.sum ≤ 10000 * (l.length : Int) := by
  induction l with
  | nil => simp
  | cons x xs ih =>
    have h1 := h x (by simp)
    have h2 := ih (fun y hy => h y (by simp [hy]))
    rw [List.sum_cons, List.length_cons]; omega
theorem sum_take_succ (l : List Int) {k : Nat} (h : k < l.length) : (l.take (k + 1)).sum = (l.take k).sum + l.getD k 0 := by
  rw [List.take_succ_eq_append_getElem h, List.sum_append]; simp [List.getD, h]
end Go.Proofs.Ytifdhapaonideaa
