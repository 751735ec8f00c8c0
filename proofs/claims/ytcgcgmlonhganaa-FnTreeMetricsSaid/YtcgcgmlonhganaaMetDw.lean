/- Drawn metrics: the cursor's function (printed by wip/metdraw.py). -/
import Derived.Test.YtcgcgmlonhganaaMetD
import Derived.Deep.RegionHeld3
namespace Go.Proofs.Ytcgcgmlonhganaa
open Go.RowKit
open Go.Lib (hid)

/-- a drawn matrix -/
def RetMet (b k lo : Nat) (w : World) (e : Ending) (w' : World) : Prop := ∃ (v : Value) (M : List (List Int)), e = .returned v ∧ 1 ≤ M.length ∧ M.length ≤ 7 ∧ (∀ r ∈ M, r.length ≤ 7) ∧ LMat w' lo v M ∧ Cur w' b k ∧ Dr b lo w w'
theorem retMet_mk {b k lo n : Nat} {w w' : World} {v : Value} {M : List (List Int)} (hl : M.length = n) (hs : sqB M n = true) (h2 : 2 ≤ n) (h7 : n ≤ 7) (hF : FMat w' lo w'.heap.size v M) (hc : Cur w' b k) (hd : Dr b lo w w') : RetMet b k lo w (.returned v) w' :=
  ⟨v, M, rfl, by omega, by omega, fun r hr => by have := sqB_iff.1 hs r hr; omega, .inl hF, hc, hd⟩
theorem retMet_tail {b k lo n : Nat} {w w' : World} {g cap : Nat} {M : List (List Int)} (hl : M.length = n + 1) (hs : sqB M (n + 1) = true) (h2 : 2 ≤ n + 1) (h7 : n + 1 ≤ 7) (hF : FMat w' lo w'.heap.size (.slice (some ⟨g, 0, none⟩) (n + 1) cap) M) (hc : Cur w' b k) (hd : Dr b lo w w') : RetMet b k lo w (.returned (.slice (some ⟨g, 1, none⟩) n (cap - 1))) w' := by
  cases M with
  | nil => simp at hl
  | cons r M =>
    simp at hl
    exact ⟨_, M, rfl, by omega, by omega, fun x hx => by have := sqB_iff.1 hs x (by simp [hx]); omega, .inr ⟨g, n, cap, r, rfl, hF⟩, hc, hd⟩
/-- what is known of the entries so far -/
def MetP (n : Nat) (kd : Int) (i k : Nat) (M : List (List Int)) : Prop := 0 < kd → ∀ a c, a < n → c < n → ent M a c = if (a < c ∧ (a < i ∨ (a = i ∧ c < k))) ∨ (c < a ∧ (c < i ∨ (c = i ∧ a < k))) then bdF a c else 0
theorem metP_next {n i : Nat} {kd : Int} {M : List (List Int)} (h : MetP n kd i n M) : MetP n kd (i + 1) (i + 2) M := fun hk a c ha hc => by
  rw [h hk a c ha hc]
  by_cases x : (a < c ∧ (a < i ∨ (a = i ∧ c < n))) ∨ (c < a ∧ (c < i ∨ (c = i ∧ a < n)))
  · rw [if_pos x, if_pos (by omega)]
  · rw [if_neg x, if_neg (by omega)]
theorem metP_set {n i k : Nat} {kd d : Int} {M : List (List Int)} (h7 : n ≤ 7) (h : MetP n kd i k M) (hl : M.length = n) (hs : sqB M n = true) (hik : i < k) (hk : k < n) (hd : 0 < kd → d = bdF i k) : MetP n kd i (k + 1) (setEnt (setEnt M i k d) k i d) := fun hkd a c ha hc => by
  have hi : i < n := by omega
  rw [ent_setEnt (setEnt_sq hs hl hi _ _) (by rw [setEnt_len]; exact hl) hk hi, ent_setEnt hs hl hi hk, h hkd a c ha hc]
  by_cases e1 : a = k ∧ c = i
  · rw [if_pos e1, if_pos (by omega), hd hkd, e1.1, e1.2]
    exact (bd_met (n := 7) (by decide) (by decide)).sym i k (by omega) (by omega)
  · rw [if_neg e1]
    by_cases e2 : a = i ∧ c = k
    · rw [if_pos e2, if_pos (by omega), hd hkd, e2.1, e2.2]
    · rw [if_neg e2]
      by_cases x : (a < c ∧ (a < i ∨ (a = i ∧ c < k))) ∨ (c < a ∧ (c < i ∨ (c = i ∧ a < k)))
      · rw [if_pos x, if_pos (by omega)]
      · rw [if_neg x, if_neg (by omega)]
theorem metP_end {n : Nat} {kd : Int} {M : List (List Int)} {k : Nat} (h : MetP n kd n k M) (hk : 0 < kd) : ∀ i j, i < n → j < n → ent M i j = bdF i j := fun i j hi hj => by
  rw [h hk i j hi hj]
  by_cases e : i = j
  · rw [if_neg (by omega), e]; unfold bdF; rw [if_pos rfl]
  · rw [if_pos (by omega)]

set_option maxRecDepth 100000 in
set_option maxHeartbeats 8000000 in
theorem metric_c (b k : Nat) (w : World) (h : Cur w b k) (hk : k ≤ 700000000000) :
    Calls Try.prog 69 #[.pointer (some ⟨b, 0, none⟩)] w (RetMet b (k + 3000) w.heap.size w) := by
  have HC0 := hid h
  have hlt0 := h.lt
  obtain ⟨lo, hlo⟩ : ∃ lo, w.heap.size = lo := ⟨_, rfl⟩
  rw [hlo] at hlt0
  have HLO := hid hlo
  have HS0 : Hid (lo ≤ w.heap.size) := Nat.le_of_eq hlo.symm
  have HD0 : Hid (Dr b lo w w) := Dr.refl _ _ _
  have HF0 : Hid (FMat w lo w.heap.size (.slice none 0 0) []) := mat_nil _ _ _
  clear h hlo
  rw [HLO.out]
  go_enter Try.func69, Try.ntmps69
  go_wp2_with fail
  refine (pick_c b (k) 4 _ HC0.out (by omega) (by omega)).mono ?_
  rintro e w1 ⟨n0, rfl, ⟨hn01, hn02⟩, hc1, ht1⟩
  have HC1 := hid hc1
  have HD1 := hid (HD0.out.touch HS0.out ht1)
  have HF1 := hid (HF0.out.tch ht1 hlt0)
  have HS1 : Hid (lo ≤ w1.heap.size) := Nat.le_trans HS0.out ht1.size
  clear hc1 ht1
  have f1 : IntKind.i64.wrap (2 + n0) = 2 + n0 := IntWalk.i64_in _ (by omega)
  go_wp2_with fail
  refine (one_c b (k + 2) 12 _ HC1.out (by omega) (by omega)).mono ?_
  rintro e w2 ⟨x0, rfl, hc2, ht2⟩
  have HC2 := hid hc2
  have HD2 := hid (HD1.out.touch HS0.out ht2)
  have HF2 := hid (HF1.out.tch ht2 hlt0)
  have HS2 : Hid (lo ≤ w2.heap.size) := Nat.le_trans HS1.out ht2.size
  clear hc2 ht2
  cases x0
  case' false => obtain ⟨n, hn, hn2, hn7⟩ : ∃ n : Nat, 2 + n0 = n ∧ 2 ≤ n ∧ n ≤ 7 := ⟨(2 + n0).toNat, by omega, by omega, by omega⟩
  case' true => obtain ⟨n, hn, hn2, hn7⟩ : ∃ n : Nat, (7 : Int) = n ∧ 2 ≤ n ∧ n ≤ 7 := ⟨7, rfl, by omega, by omega⟩
  all_goals
    have hmk := run_make_row' (P := Try.prog) 24 3 (.int .i64 0) 8 Try.underlying24 Try.infoInt rfl .i64 .i64 n (by omega) (by omega)
    go_wp2
    try rw [hn]
    clear hn f1
    go_loopg [4, 5] n (fun gk ov iv wr => ∃ (j : Nat) (u : Value), j ≤ n ∧ gk = n - j ∧ iv = .int .i64 j ∧ ov = u ∧ FMat wr lo wr.heap.size u (List.replicate j (List.replicate n 0)) ∧ Below lo w2 wr ∧ lo ≤ wr.heap.size)
    case atStart => exact ⟨0, _, Nat.zero_le _, rfl, rfl, rfl, mat_nil _ _ _, Below.refl _ _, HS2.out⟩
    case round =>
      obtain ⟨j, uf, hj, rfl, rfl, rfl, hm, hbw, hsz⟩ := hrel
      by_cases hlt : j < n
      · have hjz : (j : Int) < (n : Int) := by omega
        have hb1 : Below wr.heap.size wr (wr.alloc (.cells (madeCells #[.int .i64 0] n) 3)) := (Below.refl _ _).alloc (Nat.le_refl _) _
        have hu := ints_zero wr n (by omega)
        have hu' : FInts (wr.alloc (.cells (madeCells #[.int .i64 0] n) 3)) wr.heap.size (wr.alloc (.cells (madeCells #[.int .i64 0] n) 3)).heap.size (.slice (some ⟨wr.heap.size, 0, none⟩) n n) (List.replicate n 0) := by simp; exact hu
        obtain ⟨q1, q2, q3, q4, q5⟩ := row_one hm hbw hsz hb1 hu'
        have q3' : ((wr.alloc (.cells (madeCells #[.int .i64 0] n) 3)).alloc (.cells #[.slice (some ⟨wr.heap.size, 0, none⟩) n n] 24)).cell? ⟨wr.heap.size + 1, 0, none⟩ = some (.slice (some ⟨wr.heap.size, 0, none⟩) n n) := by rw [← q3]; simp
        have HQ4 := hid q4
        have HQ5 := hid q5
        have HQ1 := hid q1
        have HQ2 := hid q2
        have HQ3 := hid q3'
        have HT := hid (rep_succ n j)
        have hkl : (List.replicate j (List.replicate n (0 : Int))).length ≤ 1099511627776 := by simp; omega
        clear hm hu hu' hb1 q1 q2 q3 q3' q4 q5
        go_wp2_with (at_builtin; refine wpList_append_row rfl _ _ rfl _ _ _ _ _ _ _ _ _ (List.replicate n 0) rfl rfl HQ1.out HQ2.out HQ3.out (Nat.le_refl _) hsz hkl HQ4.out ?_; intro v' w' hF' hg hn)
        have hB' := HQ5.out.grown hg HQ4.out (own_blocks HQ1.out)
        rw [HT.out] at hF'
        go_roundg (n - (j + 1))
        case rel => exact ⟨j + 1, _, by omega, rfl, by go_num, rfl, hF', hB', Nat.le_trans HS2.out hB'.size⟩
        case measure => omega
      · obtain rfl : n = j := by omega
        clear hmk
        obtain ⟨z1, z2, z3⟩ := rep_sq n
        obtain ⟨g, cap, rfl, hlo2, hhi2⟩ := hm.form_some (by rw [z1]; omega)
        obtain ⟨M, hM⟩ : ∃ M, List.replicate n (List.replicate n (0 : Int)) = M := ⟨_, rfl⟩
        rw [hM] at z1 z2 z3 hm
        rw [z1] at hm
        have hnl : (List.replicate n (List.replicate n (0 : Int))).length = n := by simp
        rw [hnl]
        obtain ⟨w3, rfl⟩ : ∃ w3 : World, w3 = wr := ⟨_, rfl⟩
        have HF3 := hid hm
        have HC3 := hid (HC2.out.low (hbw.mono hlt0))
        have HD3 := hid (HD2.out.below hbw)
        have HS3 : Hid (lo ≤ w3.heap.size) := hsz
        have HZ := hid (And.intro z1 (And.intro z2 z3))
        clear hm hbw hsz z1 z2 z3 hM hnl
        go_wp2_with fail
        refine (pick_c b (k + 4) 3 _ HC3.out (by omega) (by omega)).mono ?_
        rintro e w4 ⟨kd, rfl, ⟨hkd1, hkd2⟩, hc4, ht4⟩
        have HC4 := hid hc4
        have HD4 := hid (HD3.out.touch HS0.out ht4)
        have HF4 := hid (HF3.out.tch ht4 hlt0)
        have HS4 : Hid (lo ≤ w4.heap.size) := Nat.le_trans HS3.out ht4.size
        clear hc4 ht4
        go_wp2
        go_loopg [7] n (fun gk iv wr => ∃ (i : Nat) (M : List (List Int)) (s : Nat), i ≤ n ∧ gk = n - i ∧ iv = .int .i64 i ∧ M.length = n ∧ sqB M n = true ∧ Hid (MetP n kd i (i + 1) M) ∧ s ≤ k + 6 + 20 * i ∧ FMat wr lo wr.heap.size (.slice (some ⟨g, 0, none⟩) n cap) M ∧ Cur wr b s ∧ Dr b lo w wr ∧ lo ≤ wr.heap.size)
        case atStart => exact ⟨0, M, k + 6, Nat.zero_le _, rfl, rfl, HZ.out.1, HZ.out.2.1, hid (fun _ a c _ _ => by rw [HZ.out.2.2 a c, if_neg (by omega)]), by omega, HF4.out, HC4.out, HD4.out, HS4.out⟩
        case round =>
          obtain ⟨i, M, s, hi, rfl, rfl, hml, hmsq, HMP, hs, hF, hc, hd, hsz⟩ := hrel
          obtain ⟨w5, rfl⟩ : ∃ w5 : World, w5 = wr := ⟨_, rfl⟩
          have HF5 := hid hF
          have HC5 := hid hc
          have HD5 := hid hd
          have HS5 := hid hsz
          clear hF hc hd hsz
          by_cases hlt : i < n
          · have hiz : (i : Int) < (n : Int) := by omega
            have f2 : IntKind.i64.wrap ((i : Int) + 1) = (i : Int) + 1 := IntWalk.i64_in _ (by omega)
            have HML := hid hml
            have HMS := hid hmsq
            go_wp2
            go_loopg [8] (n - (i + 1)) (fun gk kv wr => ∃ (q : Nat) (M : List (List Int)) (s : Nat), i < q ∧ q ≤ n ∧ gk = n - q ∧ kv = .int .i64 q ∧ M.length = n ∧ sqB M n = true ∧ Hid (MetP n kd i q M) ∧ s ≤ k + 6 + 20 * i + 2 * q ∧ FMat wr lo wr.heap.size (.slice (some ⟨g, 0, none⟩) n cap) M ∧ Cur wr b s ∧ Dr b lo w wr ∧ lo ≤ wr.heap.size)
            case atStart => exact ⟨i + 1, M, s, by omega, by omega, rfl, by go_num, HML.out, HMS.out, HMP, by omega, HF5.out, HC5.out, HD5.out, HS5.out⟩
            case round =>
              clear HF5 HC5 HD5 HS5 HMP HML HMS hml hmsq f2
              obtain ⟨q, M, s2, hiq, hq, rfl, rfl, hml, hmsq, HMP, hs2, hF, hc, hd, hsz⟩ := hrel
              obtain ⟨w6, rfl⟩ : ∃ w6 : World, w6 = wr := ⟨_, rfl⟩
              have HF6 := hid hF
              have HC6 := hid hc
              have HD6 := hid hd
              have HS6 := hid hsz
              clear hF hc hd hsz
              by_cases hltq : q < n
              · have hqz : (q : Int) < (n : Int) := by omega
                go_wp2_with fail
                refine (pick_c b (s2) 6 _ HC6.out (by omega) (by omega)).mono ?_
                rintro e w7 ⟨y, rfl, ⟨hy1, hy2⟩, hc7, ht7⟩
                have HC7 := hid hc7
                have HD7 := hid (HD6.out.touch HS0.out ht7)
                have HF7 := hid (HF6.out.tch ht7 hlt0)
                have HS7 : Hid (lo ≤ w7.heap.size) := Nat.le_trans HS6.out ht7.size
                clear hc7 ht7
                have f3 : IntKind.i64.wrap (5 + y) = 5 + y := IntWalk.i64_in _ (by omega)
                by_cases hkd : 0 < kd
                · go_wp2
                  go_loopg [9, 10, 11] 3 (fun gk dv xv yv wr => ∃ (f : Nat) (x z d : Int), f = gk ∧ f ≤ 3 ∧ dv = .int .i64 d ∧ xv = .int .i64 x ∧ yv = .int .i64 z ∧ (0 ≤ x ∧ x ≤ 8) ∧ (0 ≤ z ∧ z ≤ 8) ∧ Hid (x.toNat < 2 ^ f ∧ z.toNat < 2 ^ f) ∧ Hid (d + bdS f x.toNat z.toNat = bdF i q) ∧ 4 ≤ d ∧ d ≤ 12 - 2 * f ∧ w7 = wr)
                  case atStart => exact ⟨3, (i : Int), (q : Int), 4, rfl, Nat.le_refl _, rfl, rfl, rfl, by omega, by omega, hid (by constructor <;> simp <;> omega), hid (by simp only [Int.toNat_natCast]; unfold bdF; rw [if_neg (by omega), Nat.min_eq_left (by omega), Nat.max_eq_right (by omega)]), by omega, by omega, rfl⟩
                  case round =>
                    obtain ⟨f, x, z, d, rfl, hf, rfl, rfl, rfl, hx, hz, HXZ, HBD, hd4, hd12, rfl⟩ := hrel
                    by_cases hxz : x / 2 = z / 2
                    · have t : ((x / 2) != (z / 2)) = false := by rw [hxz]; simp
                      have HDE : Hid (d = bdF i q) := by
                        have h := HBD.out
                        show _ = _
                        cases f with
                        | zero => simp only [bdS] at h; omega
                        | succ f => rw [bdS, if_pos (by omega)] at h; omega
                      clear hxz HBD HXZ
                      obtain ⟨G8, C8, hcl8, hcs8, hset8⟩ := fm_open HF7.out hml hmsq (by omega)
                      have ea8 := hcl8 i hlt
                      obtain ⟨eb8, ef8⟩ := hcs8 i q hlt hltq
                      have hst8 := hset8 i q d hlt hltq
                      obtain ⟨gr8, hgr8⟩ : ∃ gr, G8 i = gr := ⟨_, rfl⟩
                      obtain ⟨cr8, hcr8⟩ : ∃ cr, C8 i = cr := ⟨_, rfl⟩
                      rw [hgr8] at ea8 eb8 ef8 hst8
                      rw [hcr8] at ea8
                      have hbl8 := hst8.2.below (Nat.le_refl lo) HS7.out
                      have HF8 := hid (hst8.1.mono (Nat.le_refl _) hst8.2.size)
                      have HD8 := hid (HD7.out.below hbl8)
                      have HC8 := hid (HC7.out.low (hbl8.mono hlt0))
                      have HS8 : Hid (lo ≤ (w7.setCell ⟨gr8, q, none⟩ (.int .i64 (d))).heap.size) := Nat.le_trans HS7.out hbl8.size
                      clear hcl8 hcs8 hset8 hst8 hgr8 hcr8 hbl8
                      have hml2 : (setEnt M i q (d)).length = n := by rw [setEnt_len]; exact hml
                      have hmsq2 := setEnt_sq hmsq hml hlt q (d)
                      obtain ⟨G9, C9, hcl9, hcs9, hset9⟩ := fm_open HF8.out hml2 hmsq2 (by omega)
                      have ea9 := hcl9 q hltq
                      obtain ⟨eb9, ef9⟩ := hcs9 q i hltq hlt
                      have hst9 := hset9 q i d hltq hlt
                      obtain ⟨gr9, hgr9⟩ : ∃ gr, G9 q = gr := ⟨_, rfl⟩
                      obtain ⟨cr9, hcr9⟩ : ∃ cr, C9 q = cr := ⟨_, rfl⟩
                      rw [hgr9] at ea9 eb9 ef9 hst9
                      rw [hcr9] at ea9
                      have hbl9 := hst9.2.below (Nat.le_refl lo) HS8.out
                      have HF9 := hid (hst9.1.mono (Nat.le_refl _) hst9.2.size)
                      have HD9 := hid (HD8.out.below hbl9)
                      have HC9 := hid (HC8.out.low (hbl9.mono hlt0))
                      have HS9 : Hid (lo ≤ ((w7.setCell ⟨gr8, q, none⟩ (.int .i64 (d))).setCell ⟨gr9, i, none⟩ (.int .i64 (d))).heap.size) := Nat.le_trans HS8.out hbl9.size
                      clear hcl9 hcs9 hset9 hst9 hgr9 hcr9 hbl9
                      have HNP := hid (metP_set hn7 HMP.out hml hmsq hiq hltq (d := d) (fun _ => HDE.out))
                      have HN1 : Hid ((setEnt (setEnt M i q (d)) q i (d)).length = n) := by show _ = _; rw [setEnt_len, setEnt_len]; exact hml
                      have HN2 := hid (setEnt_sq hmsq2 hml2 hltq i (d))
                      clear hml2 hmsq2 hml hmsq HMP
                      go_wp2
                      go_roundg (n - (q + 1))
                      case rel => exact ⟨q + 1, _, s2 + 2, by omega, by omega, rfl, by go_num, HN1.out, HN2.out, HNP, by omega, HF9.out, HC9.out, HD9.out, HS9.out⟩
                      case measure => omega
                    · have t : ((x / 2) != (z / 2)) = true := by simp [hxz]
                      cases f with
                      | zero => exfalso; have := HXZ.out; simp at this; omega
                      | succ f =>
                        have HB2 : Hid (d + 2 + bdS f (x / 2).toNat (z / 2).toNat = bdF i q) := by
                          have h := HBD.out
                          rw [bdS, if_neg (by omega)] at h
                          show _ = _
                          rw [show (x / 2).toNat = x.toNat / 2 by omega, show (z / 2).toNat = z.toNat / 2 by omega]
                          omega
                        have f4 : IntKind.i64.wrap (d + 2) = d + 2 := IntWalk.i64_in _ (by omega)
                        have HX2 : Hid ((x / 2).toNat < 2 ^ f ∧ (z / 2).toNat < 2 ^ f) := by
                          have h := HXZ.out
                          rw [Nat.pow_succ] at h
                          show _ ∧ _
                          omega
                        clear hxz HBD HXZ
                        go_wp2
                        go_roundg f
                        case rel => exact ⟨f, x / 2, z / 2, d + 2, rfl, by omega, rfl, rfl, rfl, by omega, by omega, HX2, HB2, by omega, by omega, rfl⟩
                        case measure => omega
                · obtain ⟨G8, C8, hcl8, hcs8, hset8⟩ := fm_open HF7.out hml hmsq (by omega)
                  have ea8 := hcl8 i hlt
                  obtain ⟨eb8, ef8⟩ := hcs8 i q hlt hltq
                  have hst8 := hset8 i q (5 + y) hlt hltq
                  obtain ⟨gr8, hgr8⟩ : ∃ gr, G8 i = gr := ⟨_, rfl⟩
                  obtain ⟨cr8, hcr8⟩ : ∃ cr, C8 i = cr := ⟨_, rfl⟩
                  rw [hgr8] at ea8 eb8 ef8 hst8
                  rw [hcr8] at ea8
                  have hbl8 := hst8.2.below (Nat.le_refl lo) HS7.out
                  have HF8 := hid (hst8.1.mono (Nat.le_refl _) hst8.2.size)
                  have HD8 := hid (HD7.out.below hbl8)
                  have HC8 := hid (HC7.out.low (hbl8.mono hlt0))
                  have HS8 : Hid (lo ≤ (w7.setCell ⟨gr8, q, none⟩ (.int .i64 ((5 + y)))).heap.size) := Nat.le_trans HS7.out hbl8.size
                  clear hcl8 hcs8 hset8 hst8 hgr8 hcr8 hbl8
                  have hml2 : (setEnt M i q ((5 + y))).length = n := by rw [setEnt_len]; exact hml
                  have hmsq2 := setEnt_sq hmsq hml hlt q ((5 + y))
                  obtain ⟨G9, C9, hcl9, hcs9, hset9⟩ := fm_open HF8.out hml2 hmsq2 (by omega)
                  have ea9 := hcl9 q hltq
                  obtain ⟨eb9, ef9⟩ := hcs9 q i hltq hlt
                  have hst9 := hset9 q i (5 + y) hltq hlt
                  obtain ⟨gr9, hgr9⟩ : ∃ gr, G9 q = gr := ⟨_, rfl⟩
                  obtain ⟨cr9, hcr9⟩ : ∃ cr, C9 q = cr := ⟨_, rfl⟩
                  rw [hgr9] at ea9 eb9 ef9 hst9
                  rw [hcr9] at ea9
                  have hbl9 := hst9.2.below (Nat.le_refl lo) HS8.out
                  have HF9 := hid (hst9.1.mono (Nat.le_refl _) hst9.2.size)
                  have HD9 := hid (HD8.out.below hbl9)
                  have HC9 := hid (HC8.out.low (hbl9.mono hlt0))
                  have HS9 : Hid (lo ≤ ((w7.setCell ⟨gr8, q, none⟩ (.int .i64 ((5 + y)))).setCell ⟨gr9, i, none⟩ (.int .i64 ((5 + y)))).heap.size) := Nat.le_trans HS8.out hbl9.size
                  clear hcl9 hcs9 hset9 hst9 hgr9 hcr9 hbl9
                  have HNP := hid (metP_set hn7 HMP.out hml hmsq hiq hltq (d := (5 + y)) (fun h => (hkd h).elim))
                  have HN1 : Hid ((setEnt (setEnt M i q ((5 + y))) q i ((5 + y))).length = n) := by show _ = _; rw [setEnt_len, setEnt_len]; exact hml
                  have HN2 := hid (setEnt_sq hmsq2 hml2 hltq i ((5 + y)))
                  clear hml2 hmsq2 hml hmsq HMP
                  go_wp2
                  go_roundg (n - (q + 1))
                  case rel => exact ⟨q + 1, _, s2 + 2, by omega, by omega, rfl, by go_num, HN1.out, HN2.out, HNP, by omega, HF9.out, HC9.out, HD9.out, HS9.out⟩
                  case measure => omega
              · obtain rfl : q = n := by omega
                have HNP := hid (metP_next HMP.out)
                clear HMP
                go_wp2
                go_roundg (q - (i + 1))
                case rel => exact ⟨i + 1, M, s2, by omega, rfl, by go_num, hml, hmsq, HNP, by omega, HF6.out, HC6.out, HD6.out, HS6.out⟩
                case measure => omega
          · obtain rfl : n = i := by omega
            have HCX := hid (HC5.out.more (show s ≤ k + 200 by omega))
            have HME : Hid (0 < kd → ∀ i j, i < n → j < n → ent M i j = bdF i j) := fun h => metP_end HMP.out h
            have hcap : n ≤ cap := by
              obtain ⟨_, _, he, h1, _⟩ := HF5.out.r
              simp only [Value.slice.injEq] at he
              omega
            clear HMP HC5 hlt hi hs HZ HF4 HC4 HD4 HS4 HF3 HC3 HD3 HS3
            by_cases hk2 : kd = 2
            · subst hk2
              obtain ⟨l1, hl1⟩ : ∃ l1, w5.heap.size = l1 := ⟨_, rfl⟩
              have HLL := hid hl1
              have hlt1 : b < l1 := by have := HS5.out; omega
              have HSB : Hid (l1 ≤ w5.heap.size) := Nat.le_of_eq hl1.symm
              have HME2 := hid (HME.out (by decide))
              have HMLL := hid (And.intro hml hmsq)
              clear hl1 HME
              go_wp2
              go_loopg [12, 78] n (fun gk bv iv wr => ∃ (a : Option Addr) (p c : Nat) (xs : List Int), bv = .slice a p c ∧ iv = .int .i64 p ∧ p ≤ n ∧ gk = n - p ∧ xs.length = p ∧ Hid (∀ x ∈ xs, 0 ≤ x ∧ x ≤ 3) ∧ FInts wr l1 wr.heap.size (.slice a p c) xs ∧ Cur wr b (k + 200 + 2 * p) ∧ Dr b l1 w5 wr ∧ l1 ≤ wr.heap.size)
              case atStart => exact ⟨none, 0, 0, [], rfl, rfl, Nat.zero_le _, rfl, rfl, hid (by simp), ints_nil _ _ _, HCX.out, Dr.refl _ _ _, HSB.out⟩
              case round =>
                obtain ⟨a3, p, c3, xs, rfl, rfl, hp, rfl, hlk, HXS, hF, hc, hd, hsz⟩ := hrel
                obtain ⟨w6, rfl⟩ : ∃ w6 : World, w6 = wr := ⟨_, rfl⟩
                have HFr := hid hF
                have HCr := hid hc
                have HDr := hid hd
                have HSr : Hid (l1 ≤ w6.heap.size) := hsz
                have HLK := hid hlk
                clear hF hc hd hsz hlk
                by_cases hltp : p < n
                · have hpz : (p : Int) < (n : Int) := by omega
                  go_wp2_with fail
                  refine (pick_c b (k + 200 + 2 * p) 4 _ HCr.out (by omega) (by omega)).mono ?_
                  rintro e w7 ⟨y, rfl, ⟨hy1, hy2⟩, hc7, ht7⟩
                  have HC7 := hid hc7
                  have HD7 := hid (HDr.out.touch HSB.out ht7)
                  have HF7 := hid (HFr.out.tch ht7 hlt1)
                  have HS7 : Hid (l1 ≤ w7.heap.size) := Nat.le_trans HSr.out ht7.size
                  clear hc7 ht7
                  go_wp2_with (at_builtin; (refine wpList_push_dr (W0 := w5) rfl _ _ rfl b (k := k + 200 + 2 * p + 2) l1 (.slice a3 p c3) xs y rfl rfl HF7.out HD7.out HC7.out hlt1 HS7.out p HLK ?_ ?_))
                  · omega
                  intro g8 c8 w8 hF8 hd8 hc8 hs8
                  have HF8 := hid hF8; have HD8 := hid hd8; have HC8 := hid hc8; have HS8 := hid hs8
                  clear hF8 hd8 hc8 hs8
                  go_wp2
                  go_roundg (n - (p + 1))
                  case rel => exact ⟨_, p + 1, _, xs ++ [y], rfl, by go_num, by omega, by omega, by rw [List.length_append, HLK.out]; rfl, hid (fun z hz => by
                    rcases List.mem_append.1 hz with h | h
                    · exact HXS.out z h
                    · rw [List.mem_singleton] at h; omega), HF8.out, HC8.out.more (by omega), HD8.out, HS8.out⟩
                  case measure => omega
                · obtain rfl : n = p := by omega
                  have hdq : Dr b w5.heap.size w5 w6 := by rw [HLL.out]; exact HDr.out
                  obtain ⟨p1, p2, p3⟩ := bd_pend hn2 hn7 HMLL.out.1 HMLL.out.2 HME2.out HLK.out HXS.out
                  have HFM := hid (HF5.out.dr hdq hlt0)
                  have HD6 := hid (HD5.out.trans (hdq.low HS5.out))
                  have HS6 : Hid (lo ≤ w6.heap.size) := Nat.le_trans HS5.out hdq.size
                  have HP1 := hid p1
                  have HP := hid (And.intro p2 p3)
                  clear hdq p1 p2 p3
                  go_wp2_with fail
                  refine (sAddPendants_u _ M _ xs _ HFM.out.r HFr.out.r).mono ?_
                  rintro e w9 ⟨v9, rfl, hF9, hb9⟩
                  rw [HP1.out] at hF9 ⊢
                  obtain ⟨MM, hMM⟩ : ∃ MM, addM xs M = MM := ⟨_, rfl⟩
                  have hPP := HP.out
                  rw [hMM] at hPP
                  have hF9 : FMat w9 w6.heap.size w9.heap.size v9 MM := by rw [← hMM]; exact hF9
                  obtain ⟨hml, hmsq⟩ := hPP
                  obtain ⟨g, cap, rfl, _, _⟩ := hF9.form_some (by omega)
                  rw [hml] at hF9 ⊢
                  have hcap : n ≤ cap := by
                    obtain ⟨_, _, he, h1, _⟩ := hF9.r
                    simp only [Value.slice.injEq] at he
                    omega
                  have HF10 := hid (hF9.mono (lo' := lo) (hi' := w9.heap.size) HS6.out (Nat.le_refl _))
                  have HC10 := hid ((HCr.out.keep hb9).more (show _ ≤ k + 300 by omega))
                  have HD10 := hid (HD6.out.below (hb9.mono HS6.out))
                  have HS10 : Hid (lo ≤ w9.heap.size) := Nat.le_trans HS6.out hb9.size
                  clear hF9 hb9 hMM HP HP1
                  go_wp2_with fail
                  refine (pick_c b (k + 300) 24 _ HC10.out (by omega) (by omega)).mono ?_
                  rintro e w20 ⟨x, rfl, ⟨hx1, hx2⟩, hc20, ht20⟩
                  have HC20 := hid hc20
                  have HD20 := hid (HD10.out.touch HS0.out ht20)
                  have HF20 := hid (HF10.out.tch ht20 hlt0)
                  have HS20 : Hid (lo ≤ w20.heap.size) := Nat.le_trans HS10.out ht20.size
                  clear hc20 ht20
                  rcases Bool.eq_false_or_eq_true (x == 0) with t0 | t0
                  · obtain ⟨gr, cr, e1, hr1, hr2, hg1, hg2, hcs⟩ := fm_rowM HF20.out hml hmsq (show 0 < n by omega)
                    obtain ⟨p, hp, hpn⟩ : ∃ p : Nat, (n : Int) - 1 = p ∧ p < n := ⟨n - 1, by omega, by omega⟩
                    obtain ⟨e2, e3⟩ := hcs p hpn
                    have f9 : IntKind.i64.wrap ((n : Int) - 1) = (p : Int) := by rw [hp]; exact IntWalk.i64_in _ (by omega)
                    have hpz : (p : Int) < (n : Int) := by omega
                    have hq0 : (0 : Int) < (n : Int) := by omega
                    have hq00 : 0 < n := by omega
                    have hal : Below w20.heap.size w20 (w20.alloc (.cells #[.int .i64 0, .int .i64 1, .int .i64 25, .int .i64 10000, .int .i64 10001] 3)) := (Below.refl _ _).alloc (Nat.le_refl _) _
                    have HLT : Hid (RInts (w20.alloc (.cells #[.int .i64 0, .int .i64 1, .int .i64 25, .int .i64 10000, .int .i64 10001] 3)).drew (.slice (some ⟨w20.heap.size, 0, none⟩) 5 5) [0, 1, 25, 10000, 10001]) := (ints_lit w20 w20.heap.size (Nat.le_refl _) [0, 1, 25, 10000, 10001] (by simp)).r
                    have HCA := hid (HC20.out.keep hal.drew)
                    have HFR : Hid (∀ p, (Value.slice (some ⟨w20.heap.size, 0, none⟩) 5 5).ownBlock = some p → p ≠ b) := fun p hp => by simp [Value.ownBlock] at hp; have := HS20.out; omega
                    have HAL := hid hal
                    have HBK : Hid (∀ w', Touch b (b + 1) (w20.alloc (.cells #[.int .i64 0, .int .i64 1, .int .i64 25, .int .i64 10000, .int .i64 10001] 3)).drew w' → w'.heap[g]? = w20.heap[g]? ∧ w'.heap[gr]? = w20.heap[gr]?) := fun w' ht => ⟨(ht.block g (Nat.lt_of_lt_of_le hg2 hal.size) (by omega)).trans (hal.drew.block g hg2), (ht.block gr (Nat.lt_of_lt_of_le hr2 hal.size) (by omega)).trans (hal.drew.block gr hr2)⟩
                    clear hcs hal hp
                    go_wp2
                    go_region_held3 (fun w' => w'.cell? ⟨g, 0, none⟩ = some (.slice (some ⟨gr, 0, none⟩) n cr))
                      (first | go_keep | exact k1 | exact k4)
                      ((go_at_call 70; (with_reducible refine (among_c b (k + 300 + 2) _ [0, 1, 25, 10000, 10001] _ HCA.out (by omega) HLT.out (by simp) (by simp) HFR.out).mono ?_); rintro e w21 ⟨y, rfl, _, hc, ht⟩; have hbk := HBK.out _ ht; have k1 := (World.cell?_of_block (a := ⟨g, 0, none⟩) hbk.1).trans e1; have k2 := (World.cell?_of_block (a := ⟨gr, p, none⟩) hbk.2).trans e2; have k3 := (World.frozen?_of_block (a := ⟨gr, p, none⟩) hbk.2).trans e3; have HC21 := hid hc; have HD21 := hid ((HD20.out.below (HAL.out.mono HS20.out)).touch HS0.out (show Touch b (b + 1) (w20.alloc (.cells #[.int .i64 0, .int .i64 1, .int .i64 25, .int .i64 10000, .int .i64 10001] 3)) w21 from ⟨ht.os, ht.tape, ht.output, ht.size, ht.block⟩)); have HF21 := hid ((HF20.out.grw HAL.out).tch (show Touch b (b + 1) (w20.alloc (.cells #[.int .i64 0, .int .i64 1, .int .i64 25, .int .i64 10000, .int .i64 10001] 3)) w21 from ⟨ht.os, ht.tape, ht.output, ht.size, ht.block⟩) hlt0); have HS21 : Hid (lo ≤ w21.heap.size) := Nat.le_trans (Nat.le_trans HS20.out HAL.out.size) ht.size; have k4 := (fm_setM HF21.out hml hmsq (show 0 < n by omega) hpn k1 y).2.2; clear hc hbk))
                    all_goals
                      obtain ⟨s1, s2, _⟩ := fm_setM HF21.out hml hmsq (show 0 < n by omega) hpn k1 y
                      have hbl := s2.below (Nat.le_refl lo) HS21.out
                      have HF9 := hid (s1.mono (Nat.le_refl _) s2.size)
                      have HD9 := hid (HD21.out.below hbl)
                      have HC9 := hid (HC21.out.low (hbl.mono hlt0))
                      have h9 : (setEnt MM 0 p y).length = n := by rw [setEnt_len]; exact hml
                      have h8 := setEnt_sq hmsq hml (show 0 < n by omega) p y
                      clear s1 s2 hbl
                      go_wp2
                      go_ret
                      exact retMet_mk h9 h8 hn2 hn7 HF9.out (HC9.out.more (by omega)) HD9.out
                  · rcases Bool.eq_false_or_eq_true (x == 1) with t1 | t1
                    · obtain ⟨G8, C8, hcl8, hcs8, hset8⟩ := fm_open HF20.out hml hmsq (by omega)
                      have ea8 := hcl8 0 (show 0 < n by omega)
                      obtain ⟨eb8, ef8⟩ := hcs8 0 1 (show 0 < n by omega) (show 1 < n by omega)
                      have hst8 := hset8 0 1 9 (show 0 < n by omega) (show 1 < n by omega)
                      obtain ⟨gr8, hgr8⟩ : ∃ gr, G8 0 = gr := ⟨_, rfl⟩
                      obtain ⟨cr8, hcr8⟩ : ∃ cr, C8 0 = cr := ⟨_, rfl⟩
                      rw [hgr8] at ea8 eb8 ef8 hst8
                      rw [hcr8] at ea8
                      have hbl8 := hst8.2.below (Nat.le_refl lo) HS20.out
                      have HF8 := hid (hst8.1.mono (Nat.le_refl _) hst8.2.size)
                      have HD8 := hid (HD20.out.below hbl8)
                      have HC8 := hid (HC20.out.low (hbl8.mono hlt0))
                      have HS8 : Hid (lo ≤ (w20.setCell ⟨gr8, 1, none⟩ (.int .i64 (9))).heap.size) := Nat.le_trans HS20.out hbl8.size
                      clear hcl8 hcs8 hset8 hst8 hgr8 hcr8 hbl8
                      have hml2 : (setEnt MM 0 1 9).length = n := by rw [setEnt_len]; exact hml
                      have hmsq2 := setEnt_sq hmsq hml (show 0 < n by omega) 1 9
                      obtain ⟨G9, C9, hcl9, hcs9, hset9⟩ := fm_open HF8.out hml2 hmsq2 (by omega)
                      have ea9 := hcl9 1 (show 1 < n by omega)
                      obtain ⟨eb9, ef9⟩ := hcs9 1 0 (show 1 < n by omega) (show 0 < n by omega)
                      have hst9 := hset9 1 0 9 (show 1 < n by omega) (show 0 < n by omega)
                      obtain ⟨gr9, hgr9⟩ : ∃ gr, G9 1 = gr := ⟨_, rfl⟩
                      obtain ⟨cr9, hcr9⟩ : ∃ cr, C9 1 = cr := ⟨_, rfl⟩
                      rw [hgr9] at ea9 eb9 ef9 hst9
                      rw [hcr9] at ea9
                      have hbl9 := hst9.2.below (Nat.le_refl lo) HS8.out
                      have HF9 := hid (hst9.1.mono (Nat.le_refl _) hst9.2.size)
                      have HD9 := hid (HD8.out.below hbl9)
                      have HC9 := hid (HC8.out.low (hbl9.mono hlt0))
                      have HS9 : Hid (lo ≤ ((w20.setCell ⟨gr8, 1, none⟩ (.int .i64 (9))).setCell ⟨gr9, 0, none⟩ (.int .i64 (9))).heap.size) := Nat.le_trans HS8.out hbl9.size
                      clear hcl9 hcs9 hset9 hst9 hgr9 hcr9 hbl9
                      have h9 : (setEnt (setEnt MM 0 1 9) 1 0 9).length = n := by rw [setEnt_len]; exact hml2
                      have h8 := setEnt_sq hmsq2 hml2 (show 1 < n by omega) 0 9
                      have q1 : (1 : Int) < (n : Int) := by omega
                      have q0 : (0 : Int) < (n : Int) := by omega
                      go_wp2
                      go_ret
                      exact retMet_mk h9 h8 hn2 hn7 HF9.out (HC9.out.more (by omega)) HD9.out
                    · rcases Bool.eq_false_or_eq_true (x == 2) with t2 | t2
                      · have q1 : (1 : Int) ≤ (n : Int) := by omega
                        have q2 : (n : Int) ≤ (cap : Int) := by omega
                        have q3 : ¬ cap = 1 := by omega
                        obtain ⟨p, rfl⟩ : ∃ p, n = p + 1 := ⟨n - 1, by omega⟩
                        have HML := hid hml
                        have HMS := hid hmsq
                        clear hml hmsq
                        go_wp2
                        go_ret
                        exact retMet_tail HML.out HMS.out hn2 hn7 HF20.out (HC20.out.more (by omega)) HD20.out
                      · rcases Bool.eq_false_or_eq_true (x == 3) with t3 | t3
                        · obtain ⟨G8, C8, hcl8, hcs8, hset8⟩ := fm_open HF20.out hml hmsq (by omega)
                          have ea8 := hcl8 0 (show 0 < n by omega)
                          obtain ⟨eb8, ef8⟩ := hcs8 0 0 (show 0 < n by omega) (show 0 < n by omega)
                          have hst8 := hset8 0 0 1 (show 0 < n by omega) (show 0 < n by omega)
                          obtain ⟨gr8, hgr8⟩ : ∃ gr, G8 0 = gr := ⟨_, rfl⟩
                          obtain ⟨cr8, hcr8⟩ : ∃ cr, C8 0 = cr := ⟨_, rfl⟩
                          rw [hgr8] at ea8 eb8 ef8 hst8
                          rw [hcr8] at ea8
                          have hbl8 := hst8.2.below (Nat.le_refl lo) HS20.out
                          have HF8 := hid (hst8.1.mono (Nat.le_refl _) hst8.2.size)
                          have HD8 := hid (HD20.out.below hbl8)
                          have HC8 := hid (HC20.out.low (hbl8.mono hlt0))
                          have HS8 : Hid (lo ≤ (w20.setCell ⟨gr8, 0, none⟩ (.int .i64 (1))).heap.size) := Nat.le_trans HS20.out hbl8.size
                          clear hcl8 hcs8 hset8 hst8 hgr8 hcr8 hbl8
                          have h9 : (setEnt MM 0 0 1).length = n := by rw [setEnt_len]; exact hml
                          have h8 := setEnt_sq hmsq hml (show 0 < n by omega) 0 1
                          have q0 : (0 : Int) < (n : Int) := by omega
                          go_wp2
                          go_ret
                          exact retMet_mk h9 h8 hn2 hn7 HF8.out (HC8.out.more (by omega)) HD8.out
                        · go_wp2
                          go_ret
                          exact retMet_mk hml hmsq hn2 hn7 HF20.out (HC20.out.more (by omega)) HD20.out
            · obtain ⟨MM, rfl⟩ : ∃ MM, MM = M := ⟨_, rfl⟩
              have HCW := HCX
              have HC5 := hid (HCX.out.more (show _ ≤ k + 300 by omega))
              have t9 : (kd == 2) = false := by simp [hk2]
              clear HME HCX HCW
              go_wp2_with fail
              refine (pick_c b (k + 300) 24 _ HC5.out (by omega) (by omega)).mono ?_
              rintro e w20 ⟨x, rfl, ⟨hx1, hx2⟩, hc20, ht20⟩
              have HC20 := hid hc20
              have HD20 := hid (HD5.out.touch HS0.out ht20)
              have HF20 := hid (HF5.out.tch ht20 hlt0)
              have HS20 : Hid (lo ≤ w20.heap.size) := Nat.le_trans HS5.out ht20.size
              clear hc20 ht20
              rcases Bool.eq_false_or_eq_true (x == 0) with t0 | t0
              · obtain ⟨gr, cr, e1, hr1, hr2, hg1, hg2, hcs⟩ := fm_rowM HF20.out hml hmsq (show 0 < n by omega)
                obtain ⟨p, hp, hpn⟩ : ∃ p : Nat, (n : Int) - 1 = p ∧ p < n := ⟨n - 1, by omega, by omega⟩
                obtain ⟨e2, e3⟩ := hcs p hpn
                have f9 : IntKind.i64.wrap ((n : Int) - 1) = (p : Int) := by rw [hp]; exact IntWalk.i64_in _ (by omega)
                have hpz : (p : Int) < (n : Int) := by omega
                have hq0 : (0 : Int) < (n : Int) := by omega
                have hq00 : 0 < n := by omega
                have hal : Below w20.heap.size w20 (w20.alloc (.cells #[.int .i64 0, .int .i64 1, .int .i64 25, .int .i64 10000, .int .i64 10001] 3)) := (Below.refl _ _).alloc (Nat.le_refl _) _
                have HLT : Hid (RInts (w20.alloc (.cells #[.int .i64 0, .int .i64 1, .int .i64 25, .int .i64 10000, .int .i64 10001] 3)).drew (.slice (some ⟨w20.heap.size, 0, none⟩) 5 5) [0, 1, 25, 10000, 10001]) := (ints_lit w20 w20.heap.size (Nat.le_refl _) [0, 1, 25, 10000, 10001] (by simp)).r
                have HCA := hid (HC20.out.keep hal.drew)
                have HFR : Hid (∀ p, (Value.slice (some ⟨w20.heap.size, 0, none⟩) 5 5).ownBlock = some p → p ≠ b) := fun p hp => by simp [Value.ownBlock] at hp; have := HS20.out; omega
                have HAL := hid hal
                have HBK : Hid (∀ w', Touch b (b + 1) (w20.alloc (.cells #[.int .i64 0, .int .i64 1, .int .i64 25, .int .i64 10000, .int .i64 10001] 3)).drew w' → w'.heap[g]? = w20.heap[g]? ∧ w'.heap[gr]? = w20.heap[gr]?) := fun w' ht => ⟨(ht.block g (Nat.lt_of_lt_of_le hg2 hal.size) (by omega)).trans (hal.drew.block g hg2), (ht.block gr (Nat.lt_of_lt_of_le hr2 hal.size) (by omega)).trans (hal.drew.block gr hr2)⟩
                clear hcs hal hp
                go_wp2
                go_region_held3 (fun w' => w'.cell? ⟨g, 0, none⟩ = some (.slice (some ⟨gr, 0, none⟩) n cr))
                  (first | go_keep | exact k1 | exact k4)
                  ((go_at_call 70; (with_reducible refine (among_c b (k + 300 + 2) _ [0, 1, 25, 10000, 10001] _ HCA.out (by omega) HLT.out (by simp) (by simp) HFR.out).mono ?_); rintro e w21 ⟨y, rfl, _, hc, ht⟩; have hbk := HBK.out _ ht; have k1 := (World.cell?_of_block (a := ⟨g, 0, none⟩) hbk.1).trans e1; have k2 := (World.cell?_of_block (a := ⟨gr, p, none⟩) hbk.2).trans e2; have k3 := (World.frozen?_of_block (a := ⟨gr, p, none⟩) hbk.2).trans e3; have HC21 := hid hc; have HD21 := hid ((HD20.out.below (HAL.out.mono HS20.out)).touch HS0.out (show Touch b (b + 1) (w20.alloc (.cells #[.int .i64 0, .int .i64 1, .int .i64 25, .int .i64 10000, .int .i64 10001] 3)) w21 from ⟨ht.os, ht.tape, ht.output, ht.size, ht.block⟩)); have HF21 := hid ((HF20.out.grw HAL.out).tch (show Touch b (b + 1) (w20.alloc (.cells #[.int .i64 0, .int .i64 1, .int .i64 25, .int .i64 10000, .int .i64 10001] 3)) w21 from ⟨ht.os, ht.tape, ht.output, ht.size, ht.block⟩) hlt0); have HS21 : Hid (lo ≤ w21.heap.size) := Nat.le_trans (Nat.le_trans HS20.out HAL.out.size) ht.size; have k4 := (fm_setM HF21.out hml hmsq (show 0 < n by omega) hpn k1 y).2.2; clear hc hbk))
                all_goals
                  obtain ⟨s1, s2, _⟩ := fm_setM HF21.out hml hmsq (show 0 < n by omega) hpn k1 y
                  have hbl := s2.below (Nat.le_refl lo) HS21.out
                  have HF9 := hid (s1.mono (Nat.le_refl _) s2.size)
                  have HD9 := hid (HD21.out.below hbl)
                  have HC9 := hid (HC21.out.low (hbl.mono hlt0))
                  have h9 : (setEnt MM 0 p y).length = n := by rw [setEnt_len]; exact hml
                  have h8 := setEnt_sq hmsq hml (show 0 < n by omega) p y
                  clear s1 s2 hbl
                  go_wp2
                  go_ret
                  exact retMet_mk h9 h8 hn2 hn7 HF9.out (HC9.out.more (by omega)) HD9.out
              · rcases Bool.eq_false_or_eq_true (x == 1) with t1 | t1
                · obtain ⟨G8, C8, hcl8, hcs8, hset8⟩ := fm_open HF20.out hml hmsq (by omega)
                  have ea8 := hcl8 0 (show 0 < n by omega)
                  obtain ⟨eb8, ef8⟩ := hcs8 0 1 (show 0 < n by omega) (show 1 < n by omega)
                  have hst8 := hset8 0 1 9 (show 0 < n by omega) (show 1 < n by omega)
                  obtain ⟨gr8, hgr8⟩ : ∃ gr, G8 0 = gr := ⟨_, rfl⟩
                  obtain ⟨cr8, hcr8⟩ : ∃ cr, C8 0 = cr := ⟨_, rfl⟩
                  rw [hgr8] at ea8 eb8 ef8 hst8
                  rw [hcr8] at ea8
                  have hbl8 := hst8.2.below (Nat.le_refl lo) HS20.out
                  have HF8 := hid (hst8.1.mono (Nat.le_refl _) hst8.2.size)
                  have HD8 := hid (HD20.out.below hbl8)
                  have HC8 := hid (HC20.out.low (hbl8.mono hlt0))
                  have HS8 : Hid (lo ≤ (w20.setCell ⟨gr8, 1, none⟩ (.int .i64 (9))).heap.size) := Nat.le_trans HS20.out hbl8.size
                  clear hcl8 hcs8 hset8 hst8 hgr8 hcr8 hbl8
                  have hml2 : (setEnt MM 0 1 9).length = n := by rw [setEnt_len]; exact hml
                  have hmsq2 := setEnt_sq hmsq hml (show 0 < n by omega) 1 9
                  obtain ⟨G9, C9, hcl9, hcs9, hset9⟩ := fm_open HF8.out hml2 hmsq2 (by omega)
                  have ea9 := hcl9 1 (show 1 < n by omega)
                  obtain ⟨eb9, ef9⟩ := hcs9 1 0 (show 1 < n by omega) (show 0 < n by omega)
                  have hst9 := hset9 1 0 9 (show 1 < n by omega) (show 0 < n by omega)
                  obtain ⟨gr9, hgr9⟩ : ∃ gr, G9 1 = gr := ⟨_, rfl⟩
                  obtain ⟨cr9, hcr9⟩ : ∃ cr, C9 1 = cr := ⟨_, rfl⟩
                  rw [hgr9] at ea9 eb9 ef9 hst9
                  rw [hcr9] at ea9
                  have hbl9 := hst9.2.below (Nat.le_refl lo) HS8.out
                  have HF9 := hid (hst9.1.mono (Nat.le_refl _) hst9.2.size)
                  have HD9 := hid (HD8.out.below hbl9)
                  have HC9 := hid (HC8.out.low (hbl9.mono hlt0))
                  have HS9 : Hid (lo ≤ ((w20.setCell ⟨gr8, 1, none⟩ (.int .i64 (9))).setCell ⟨gr9, 0, none⟩ (.int .i64 (9))).heap.size) := Nat.le_trans HS8.out hbl9.size
                  clear hcl9 hcs9 hset9 hst9 hgr9 hcr9 hbl9
                  have h9 : (setEnt (setEnt MM 0 1 9) 1 0 9).length = n := by rw [setEnt_len]; exact hml2
                  have h8 := setEnt_sq hmsq2 hml2 (show 1 < n by omega) 0 9
                  have q1 : (1 : Int) < (n : Int) := by omega
                  have q0 : (0 : Int) < (n : Int) := by omega
                  go_wp2
                  go_ret
                  exact retMet_mk h9 h8 hn2 hn7 HF9.out (HC9.out.more (by omega)) HD9.out
                · rcases Bool.eq_false_or_eq_true (x == 2) with t2 | t2
                  · have q1 : (1 : Int) ≤ (n : Int) := by omega
                    have q2 : (n : Int) ≤ (cap : Int) := by omega
                    have q3 : ¬ cap = 1 := by omega
                    obtain ⟨p, rfl⟩ : ∃ p, n = p + 1 := ⟨n - 1, by omega⟩
                    have HML := hid hml
                    have HMS := hid hmsq
                    clear hml hmsq
                    go_wp2
                    go_ret
                    exact retMet_tail HML.out HMS.out hn2 hn7 HF20.out (HC20.out.more (by omega)) HD20.out
                  · rcases Bool.eq_false_or_eq_true (x == 3) with t3 | t3
                    · obtain ⟨G8, C8, hcl8, hcs8, hset8⟩ := fm_open HF20.out hml hmsq (by omega)
                      have ea8 := hcl8 0 (show 0 < n by omega)
                      obtain ⟨eb8, ef8⟩ := hcs8 0 0 (show 0 < n by omega) (show 0 < n by omega)
                      have hst8 := hset8 0 0 1 (show 0 < n by omega) (show 0 < n by omega)
                      obtain ⟨gr8, hgr8⟩ : ∃ gr, G8 0 = gr := ⟨_, rfl⟩
                      obtain ⟨cr8, hcr8⟩ : ∃ cr, C8 0 = cr := ⟨_, rfl⟩
                      rw [hgr8] at ea8 eb8 ef8 hst8
                      rw [hcr8] at ea8
                      have hbl8 := hst8.2.below (Nat.le_refl lo) HS20.out
                      have HF8 := hid (hst8.1.mono (Nat.le_refl _) hst8.2.size)
                      have HD8 := hid (HD20.out.below hbl8)
                      have HC8 := hid (HC20.out.low (hbl8.mono hlt0))
                      have HS8 : Hid (lo ≤ (w20.setCell ⟨gr8, 0, none⟩ (.int .i64 (1))).heap.size) := Nat.le_trans HS20.out hbl8.size
                      clear hcl8 hcs8 hset8 hst8 hgr8 hcr8 hbl8
                      have h9 : (setEnt MM 0 0 1).length = n := by rw [setEnt_len]; exact hml
                      have h8 := setEnt_sq hmsq hml (show 0 < n by omega) 0 1
                      have q0 : (0 : Int) < (n : Int) := by omega
                      go_wp2
                      go_ret
                      exact retMet_mk h9 h8 hn2 hn7 HF8.out (HC8.out.more (by omega)) HD8.out
                    · go_wp2
                      go_ret
                      exact retMet_mk hml hmsq hn2 hn7 HF20.out (HC20.out.more (by omega)) HD20.out

end Go.Proofs.Ytcgcgmlonhganaa
