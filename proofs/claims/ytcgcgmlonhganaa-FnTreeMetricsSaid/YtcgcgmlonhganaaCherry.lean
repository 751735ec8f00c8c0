/- Whether two taxa are a cherry: both programs' functions. -/
import Derived.Test.YtcgcgmlonhganaaEnd
import Derived.Test.YtcgcgmlonhganaaMetT3
namespace Go.Proofs.Ytcgcgmlonhganaa
open Go.RowKit
open Go.Lib (hid)

/-- the first difference, if there was one -/
def stO (b : Bool) (y : Int) : Option Int := if b then none else some y
theorem cheR_succ {M : List (List Int)} {i j d k : Nat} {s : Option Int} : cheR M i j (d + 1) k s = if k = i ∨ k = j then cheR M i j d (k + 1) s else match s with
    | none => cheR M i j d (k + 1) (some (ent M i k - ent M j k))
    | some y => if ent M i k - ent M j k = y then cheR M i j d (k + 1) (some y) else false := by cases s <;> rfl
theorem cheR_skip {M : List (List Int)} {i j d k : Nat} {s : Option Int} (h : k = i ∨ k = j) : cheR M i j (d + 1) k s = cheR M i j d (k + 1) s := by rw [cheR_succ, if_pos h]
theorem cheR_first {M : List (List Int)} {i j d k : Nat} (y : Int) {z : Int} (h : ¬ (k = i ∨ k = j)) (hz : ent M i k - ent M j k = z) : cheR M i j (d + 1) k (stO true y) = cheR M i j d (k + 1) (stO false z) := by
  subst hz
  rw [cheR_succ, if_neg h]; rfl
theorem cheR_same {M : List (List Int)} {i j d k : Nat} {y z : Int} (h : ¬ (k = i ∨ k = j)) (hz : ent M i k - ent M j k = z) (e : z = y) : cheR M i j (d + 1) k (stO false y) = cheR M i j d (k + 1) (stO false y) := by
  subst hz
  rw [cheR_succ, if_neg h]
  show (if ent M i k - ent M j k = y then cheR M i j d (k + 1) (some y) else false) = _
  rw [if_pos e]; rfl
theorem cheR_other {M : List (List Int)} {i j d k : Nat} {y z : Int} (h : ¬ (k = i ∨ k = j)) (hz : ent M i k - ent M j k = z) (e : ¬ z = y) : cheR M i j (d + 1) k (stO false y) = false := by
  subst hz
  rw [cheR_succ, if_neg h]
  show (if ent M i k - ent M j k = y then cheR M i j d (k + 1) (some y) else false) = _
  rw [if_neg e]
theorem cheR_zero {M : List (List Int)} {i j k : Nat} {s : Option Int} : cheR M i j 0 k s = true := rfl

set_option maxRecDepth 100000 in
set_option maxHeartbeats 4000000 in
theorem meCherry_c (v : Value) (M : List (List Int)) (w : World) (hm : metB M = true) (h : RMat w v M) (i j : Nat) (hi : i < M.length) (hj : j < M.length) :
    Calls Try.prog 55 #[v, .int .i64 i, .int .i64 j] w fun e w' => e = .returned (.bool (cheP M i j)) ∧ Below w.heap.size w w' := by
  have hp := metB_parts hm
  have hn7 := hp.2.1
  have HSY := hid hp.2.2.2.1
  obtain ⟨g, o, cap, G, O, C, rfl, q1, q2, hsq⟩ := met_open h hm
  have HSQ := hid hsq
  have hiz : (i : Int) < (M.length : Int) := by omega
  have hjz : (j : Int) < (M.length : Int) := by omega
  clear hp hsq h hm
  go_enter Try.func55, Try.ntmps55
  go_wp2
  go_loopg [7, 8, 12] M.length (fun gk a7 a8 kv wr => ∃ k : Nat, ∃ (b : Bool) (y : Int), k ≤ M.length ∧ gk = M.length - k ∧ kv = .int .i64 k ∧ a7 = .bool b ∧ a8 = .int .i64 y ∧ cheP M i j = cheR M i j (M.length - k) k (stO b y) ∧ Below w.heap.size w wr)
  case atStart => exact ⟨0, true, 0, Nat.zero_le _, rfl, rfl, rfl, rfl, rfl, Below.refl _ _⟩
  case round =>
    obtain ⟨k, b, y, hk, rfl, rfl, rfl, rfl, hr, hb⟩ := hrel
    have HR := hid hr
    have HB := hid hb
    clear hr
    by_cases hlt : k < M.length
    · have hltz : (k : Int) < (M.length : Int) := by omega
      have hs := HSQ.out.keep hb
      have ri := hs.row i hi
      have rj := hs.row j hj
      have b1 := symB_bound HSY.out hi hlt
      have b2 := symB_bound HSY.out hj hlt
      have c1 := hs.at_ i k hi hlt
      have c2 := hs.at_ j k hj hlt
      obtain ⟨x1, h1⟩ : ∃ x, ent M i k = x := ⟨_, rfl⟩
      obtain ⟨x2, h2⟩ : ∃ x, ent M j k = x := ⟨_, rfl⟩
      rw [h1] at c1 b1
      rw [h2] at c2 b2
      have hd : ent M i k - ent M j k = x1 - x2 := by rw [h1, h2]
      have HD := hid hd
      have HLT := hid (show M.length - k = (M.length - (k + 1)) + 1 by omega)
      clear h1 h2 hs hb hd
      by_cases hc : k = i ∨ k = j
      · have HST : Hid (cheP M i j = cheR M i j (M.length - (k + 1)) (k + 1) (stO b y)) := by show _ = _; rw [HR.out, HLT.out, cheR_skip hc]
        clear c1 c2 ri rj
        by_cases h1 : k = i
        · have t1 := beq_nat_true h1
          clear hc h1
          go_wp2
          go_roundg (M.length - (k + 1))
          case rel => exact ⟨k + 1, b, y, by omega, rfl, by go_num, rfl, rfl, HST.out, HB.out⟩
          case measure => omega
        · have t1 := beq_nat_false h1
          have t2 := beq_nat_true (show k = j by omega)
          clear hc h1
          go_wp2
          go_roundg (M.length - (k + 1))
          case rel => exact ⟨k + 1, b, y, by omega, rfl, by go_num, rfl, rfl, HST.out, HB.out⟩
          case measure => omega
      · have t1 := beq_nat_false (show ¬ k = i by omega)
        have t2 := beq_nat_false (show ¬ k = j by omega)
        have f1 : IntKind.i64.wrap (x1 - x2) = x1 - x2 := IntWalk.i64_in _ (by omega)
        have HC := hid hc
        clear hc
        cases b
        · by_cases hq : x1 - x2 = y
          · have HST : Hid (cheP M i j = cheR M i j (M.length - (k + 1)) (k + 1) (stO false y)) := by show _ = _; rw [HR.out, HLT.out, cheR_same HC.out HD.out hq]
            have t3 : (x1 - x2 != y) = false := by simp [hq]
            have HQ := hid hq
            clear hq
            go_wp2
            go_quiet (fail)
            go_wp2
            go_roundg (M.length - (k + 1))
            case rel => exact ⟨k + 1, false, y, by omega, rfl, by go_num, rfl, rfl, HST.out, below_dn2 HB.out _⟩
            case measure => omega
          · have HST : Hid (cheP M i j = false) := by show _ = _; rw [HR.out, HLT.out, cheR_other HC.out HD.out hq]
            have t3 : (x1 - x2 != y) = true := by simp [hq]
            clear hq
            go_wp2
            go_quiet (fail)
            go_wp2
            go_ret
            exact ⟨ret_bool HST.out.symm, below_dn2 HB.out _⟩
        · have HST : Hid (cheP M i j = cheR M i j (M.length - (k + 1)) (k + 1) (stO false (x1 - x2))) := by show _ = _; rw [HR.out, HLT.out, cheR_first y HC.out HD.out]
          have t3 : (x1 - x2 != x1 - x2) = false := by simp
          go_wp2
          go_quiet (fail)
          go_wp2
          go_quiet (fail)
          go_wp2
          go_roundg (M.length - (k + 1))
          case rel => exact ⟨k + 1, false, x1 - x2, by omega, rfl, by go_num, rfl, rfl, HST.out, below_dn2 HB.out _⟩
          case measure => omega
    · have HST : Hid (cheP M i j = true) := by show _ = _; rw [HR.out, show M.length - k = 0 by omega, cheR_zero]
      clear hb
      go_wp2
      go_ret
      exact ⟨ret_bool HST.out.symm, HB.out⟩

set_option maxRecDepth 100000 in
set_option maxHeartbeats 4000000 in
theorem isCherry_c (v : Value) (M : List (List Int)) (w : World) (hm : metB M = true) (h : RMat w v M) (i j : Nat) (hi : i < M.length) (hj : j < M.length) :
    Calls Try.prog 59 #[v, .int .i64 i, .int .i64 j] w fun e w' => e = .returned (.bool (cheP M i j)) ∧ Below w.heap.size w w' := by
  have hp := metB_parts hm
  have hn7 := hp.2.1
  have HSY := hid hp.2.2.2.1
  obtain ⟨g, o, cap, G, O, C, rfl, q1, q2, hsq⟩ := met_open h hm
  have HSQ := hid hsq
  have hiz : (i : Int) < (M.length : Int) := by omega
  have hjz : (j : Int) < (M.length : Int) := by omega
  clear hp hsq h hm
  go_enter Try.func59, Try.ntmps59
  go_wp2
  go_loopg [7, 8, 12] M.length (fun gk a7 a8 kv wr => ∃ k : Nat, ∃ (b : Bool) (y : Int), k ≤ M.length ∧ gk = M.length - k ∧ kv = .int .i64 k ∧ a8 = .bool b ∧ a7 = .int .i64 y ∧ cheP M i j = cheR M i j (M.length - k) k (stO (!b) y) ∧ Below w.heap.size w wr)
  case atStart => exact ⟨0, false, 0, Nat.zero_le _, rfl, rfl, rfl, rfl, rfl, Below.refl _ _⟩
  case round =>
    obtain ⟨k, b, y, hk, rfl, rfl, rfl, rfl, hr, hb⟩ := hrel
    have HR := hid hr
    have HB := hid hb
    clear hr
    by_cases hlt : k < M.length
    · have hltz : (k : Int) < (M.length : Int) := by omega
      have hs := HSQ.out.keep hb
      have ri := hs.row i hi
      have rj := hs.row j hj
      have b1 := symB_bound HSY.out hi hlt
      have b2 := symB_bound HSY.out hj hlt
      have c1 := hs.at_ i k hi hlt
      have c2 := hs.at_ j k hj hlt
      obtain ⟨x1, h1⟩ : ∃ x, ent M i k = x := ⟨_, rfl⟩
      obtain ⟨x2, h2⟩ : ∃ x, ent M j k = x := ⟨_, rfl⟩
      rw [h1] at c1 b1
      rw [h2] at c2 b2
      have hd : ent M i k - ent M j k = x1 - x2 := by rw [h1, h2]
      have HD := hid hd
      have HLT := hid (show M.length - k = (M.length - (k + 1)) + 1 by omega)
      clear h1 h2 hs hb hd
      by_cases hc : k = i ∨ k = j
      · have HST : Hid (cheP M i j = cheR M i j (M.length - (k + 1)) (k + 1) (stO (!b) y)) := by show _ = _; rw [HR.out, HLT.out, cheR_skip hc]
        clear c1 c2 ri rj
        by_cases h1 : k = i
        · have t1 := beq_nat_true h1
          clear hc h1
          go_wp2
          go_roundg (M.length - (k + 1))
          case rel => exact ⟨k + 1, b, y, by omega, rfl, by go_num, rfl, rfl, HST.out, HB.out⟩
          case measure => omega
        · have t1 := beq_nat_false h1
          have t2 := beq_nat_true (show k = j by omega)
          clear hc h1
          go_wp2
          go_roundg (M.length - (k + 1))
          case rel => exact ⟨k + 1, b, y, by omega, rfl, by go_num, rfl, rfl, HST.out, HB.out⟩
          case measure => omega
      · have t1 := beq_nat_false (show ¬ k = i by omega)
        have t2 := beq_nat_false (show ¬ k = j by omega)
        have f1 : IntKind.i64.wrap (x1 - x2) = x1 - x2 := IntWalk.i64_in _ (by omega)
        have HC := hid hc
        clear hc
        rcases Bool.eq_false_or_eq_true b with rfl | rfl
        · have HR : Hid (cheP M i j = cheR M i j (M.length - k) k (stO false y)) := HR
          by_cases hq : x1 - x2 = y
          · have HST : Hid (cheP M i j = cheR M i j (M.length - (k + 1)) (k + 1) (stO false y)) := by show _ = _; rw [HR.out, HLT.out, cheR_same HC.out HD.out hq]
            have t3 : (x1 - x2 != y) = false := by simp [hq]
            have HQ := hid hq
            clear hq
            go_wp2
            go_quiet (fail)
            go_wp2
            go_quiet (fail)
            go_wp2
            go_roundg (M.length - (k + 1))
            case rel => exact ⟨k + 1, true, (x1 - x2), by omega, rfl, by go_num, rfl, rfl, (by rw [HQ.out]; exact HST.out), below_dn2 HB.out _⟩
            case measure => omega
          · have HST : Hid (cheP M i j = false) := by show _ = _; rw [HR.out, HLT.out, cheR_other HC.out HD.out hq]
            have t3 : (x1 - x2 != y) = true := by simp [hq]
            clear hq
            go_wp2
            go_quiet (fail)
            go_wp2
            go_ret
            exact ⟨ret_bool HST.out.symm, below_dn2 HB.out _⟩
        · have HR : Hid (cheP M i j = cheR M i j (M.length - k) k (stO true y)) := HR
          have HST : Hid (cheP M i j = cheR M i j (M.length - (k + 1)) (k + 1) (stO false (x1 - x2))) := by show _ = _; rw [HR.out, HLT.out, cheR_first y HC.out HD.out]
          go_wp2
          go_quiet (fail)
          go_wp2
          go_quiet (fail)
          go_wp2
          go_roundg (M.length - (k + 1))
          case rel => exact ⟨k + 1, true, x1 - x2, by omega, rfl, by go_num, rfl, rfl, HST.out, below_dn2 HB.out _⟩
          case measure => omega
    · have HST : Hid (cheP M i j = true) := by show _ = _; rw [HR.out, show M.length - k = 0 by omega, cheR_zero]
      clear hb
      go_wp2
      go_ret
      exact ⟨ret_bool HST.out.symm, HB.out⟩

end Go.Proofs.Ytcgcgmlonhganaa
