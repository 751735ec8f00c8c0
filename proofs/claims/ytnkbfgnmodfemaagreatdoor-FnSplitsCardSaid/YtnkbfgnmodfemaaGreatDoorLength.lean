/- Twice the length of a split: both programs' functions. -/
import Derived.Test.YtnkbfgnmodfemaaGreatDoorBad2
import Derived.Test.YtnkbfgnmodfemaaGreatDoorSplit
import Derived.Test.YtnkbfgnmodfemaaGreatDoorOther
namespace Go.Proofs.YtnkbfgnmodfemaaGreatDoor
open Go.RowKit
open Go.Lib (hid)

/-- f over all of a list -/
def lfold (f : Int → Int → Int) : List Int → Int → Int
  | [], s => s
  | x :: xs, s => lfold f xs (f x s)
theorem lfold_nil (f : Int → Int → Int) (s : Int) : lfold f [] s = s := rfl
theorem lfold_cons (f : Int → Int → Int) (x : Int) (xs : List Int) (s : Int) : lfold f (x :: xs) s = lfold f xs (f x s) := rfl
def entZ (M : List (List Int)) (i j : Int) : Int := ent M i.toNat j.toNat
theorem entZ_nat (M : List (List Int)) (i j : Nat) : entZ M (i : Int) (j : Int) = ent M i j := rfl
def lenV (M : List (List Int)) (a b c d : Int) : Int := max (entZ M a c + entZ M b d) (entZ M a d + entZ M b c) - entZ M a b - entZ M c d
def lenD (M : List (List Int)) (a b c d s : Int) : Int := min s (lenV M a b c d)
def lenC (M : List (List Int)) (O : List Int) (a b c s : Int) : Int := lfold (lenD M a b c) O s
def lenB (M : List (List Int)) (O : List Int) (a b s : Int) : Int := lfold (lenC M O a b) O s
def lenA (M : List (List Int)) (S O : List Int) (a s : Int) : Int := lfold (lenB M O a) S s
/-- twice the length of a split -/
def lenF (M : List (List Int)) (S : List Int) : Int := max 0 (lfold (lenA M S (othF M.length S)) S 1000000000)

/-- an element of a list of points -/
theorem pt_at {w : World} {a : Option Addr} {xs : List Int} {n : Nat} (hc : ∀ i, i < xs.length → ∃ g o, a = some ⟨g, o, none⟩ ∧ w.cell? ⟨g, o + i, none⟩ = some (.int .i64 (xs.getD i 0))) (hx : ∀ x ∈ xs, 0 ≤ x ∧ x < (n : Int)) {k : Nat} (hk : k < xs.length) :
    ∃ g o, ∃ p : Nat, a = some ⟨g, o, none⟩ ∧ w.cell? ⟨g, o + k, none⟩ = some (.int .i64 (p : Int)) ∧ p < n ∧ Hid (xs.drop k = (p : Int) :: xs.drop (k + 1)) := by
  obtain ⟨g, o, x, h1, h2, h3, h4⟩ := ints_at hc hk
  have h5 := hx x (by rw [← h4.out]; simp [List.getD, List.getElem?_eq_getElem hk])
  refine ⟨g, o, x.toNat, h1, ?_, by omega, ?_⟩
  · rw [h2, Int.toNat_of_nonneg h5.1]
  · show _ = _; rw [Int.toNat_of_nonneg h5.1]; exact h3.out

set_option maxRecDepth 100000 in
set_option maxHeartbeats 4000000 in
theorem slTwice_c (v u : Value) (M : List (List Int)) (S : List Int) (w : World) (hm : metB M = true) (h : RMat w v M) (h' : RInts w u S) (hS : ∀ x ∈ S, 0 ≤ x ∧ x < (M.length : Int)) (hSl : S.length ≤ 1048576) :
    Calls Tryz.prog 30 #[v, u] w fun e w' => e = .returned (.int .i64 (lenF M S)) ∧ Below w.heap.size w w' := by
  have hp := metB_parts hm
  have hn7 := hp.2.1
  have HSY := hid hp.2.2.2.1
  have HR := hid h
  have HU := hid h'
  have HS := hid hS
  obtain ⟨g, o, cap, G, O, C, rfl, q1, q2, hsq⟩ := met_open h hm
  have HSQ := hid hsq
  obtain ⟨b, capb, rfl, z1, z2, hcu⟩ := h'
  unfold maxLen at z2
  have HOK := hid (othF_ok M.length S)
  clear hp hsq hcu hS h
  go_enter Tryz.func30, Tryz.ntmps30
  go_wp2
  go_loopg [5, 18] M.length (fun gk o iv wr => ∃ i : Nat, ∃ acc : List Int, i ≤ M.length ∧ gk = M.length - i ∧ iv = .int .i64 i ∧ acc.length ≤ i ∧ othF M.length S = othR S (M.length - i) i acc ∧ FInts wr w.heap.size wr.heap.size o acc ∧ Below w.heap.size w wr)
  case atStart => exact ⟨0, [], Nat.zero_le _, rfl, rfl, Nat.zero_le _, rfl, ints_nil _ _ _, Below.refl _ _⟩
  case round =>
    obtain ⟨i, acc, hi, rfl, rfl, hacc, hr, hF, hb⟩ := hrel
    have HRR := hid hr; clear hr
    by_cases hlt : i < M.length
    · have hltz : (i : Int) < (M.length : Int) := by omega
      have hR := HU.out.keep hb
      have HF := hid hF
      have HB := hid hb
      obtain ⟨au, cu, rfl⟩ := hF.form
      obtain ⟨p1, p2, p3, p4, p5⟩ := push_round2 (i : Int) (by omega) hF hb hb.size
      have P1 := hid p1
      have P2 := hid p2
      have P3 := hid p3
      have P4 := hid p4
      have P5 := hid p5
      clear hF hb p1 p2 p3 p4 p5
      rcases Bool.eq_false_or_eq_true (hasB S (i : Int)) with t | t
      · have HST : Hid (othF M.length S = othR S (M.length - (i + 1)) (i + 1) acc) := by show _ = _; rw [HRR.out, show M.length - i = (M.length - (i + 1)) + 1 by omega, othR_yes t]
        go_wp2_with fail
        refine (l1Has_c _ S _ _ hR).mono ?_
        rintro e w' ⟨rfl, rfl⟩
        rw [t]
        clear hR
        go_wp2
        go_roundg (M.length - (i + 1))
        case rel => exact ⟨i + 1, acc, by omega, rfl, by go_num, by omega, HST.out, HF.out, HB.out⟩
        case measure => omega
      · have HST : Hid (othF M.length S = othR S (M.length - (i + 1)) (i + 1) (acc ++ [(i : Int)])) := by show _ = _; rw [HRR.out, show M.length - i = (M.length - (i + 1)) + 1 by omega, othR_no t]
        go_wp2_with fail
        refine (l1Has_c _ S _ _ hR).mono ?_
        rintro e w' ⟨rfl, rfl⟩
        rw [t]
        clear hR
        go_wp2_with (at_builtin; refine wpList_append_ints rfl _ _ rfl _ _ _ _ _ [(i : Int)] rfl rfl P1.out P2.out P3.out P4.out ?_; intro v' w' hF' hg hn')
        go_roundg (M.length - (i + 1))
        case rel => exact ⟨i + 1, _, by omega, rfl, by go_num, by simp; omega, HST.out, hF', P5.out _ hg⟩
        case measure => omega
    · have HST : Hid (othF M.length S = acc) := by show _ = _; rw [HRR.out, show M.length - i = 0 by omega, othR_zero]
      obtain ⟨w1, rfl⟩ : ∃ w1 : World, w1 = wr := ⟨_, rfl⟩
      have HB1 := hid hb
      have hFR := hF.r
      rw [← HST.out] at hFR
      clear hF hb
      obtain ⟨Q, hQ⟩ : ∃ Q, othF M.length S = Q := ⟨_, rfl⟩
      have hok := HOK.out
      rw [hQ] at hFR hok
      have HLF : Hid (lenF M S = max 0 (lfold (lenA M S Q) S 1000000000)) := by show _ = _; rw [lenF, hQ]
      have HO := hid hFR
      have HQK := hid hok.1
      have hql := hok.2
      obtain ⟨c, capc, rfl, y1, y2, hcc⟩ := hFR
      unfold maxLen at y2
      clear hcc hok hQ
      go_wp2
      go_loopg [7, 32] S.length (fun gk sv iv wr => ∃ i : Nat, ∃ s : Int, i ≤ S.length ∧ gk = S.length - i ∧ iv = .int .i64 i ∧ sv = .int .i64 s ∧ lfold (lenA M S Q) S 1000000000 = lfold (lenA M S Q) (S.drop i) s ∧ -1000000 ≤ s ∧ s ≤ 1000000000 ∧ Below w1.heap.size w1 wr)
      case atStart => exact ⟨0, 1000000000, Nat.zero_le _, rfl, rfl, rfl, rfl, by omega, by omega, Below.refl _ _⟩
      case round =>
        obtain ⟨i, s, hi, rfl, rfl, rfl, hr, hs0, hs1, hb⟩ := hrel
        have HR1 := hid hr
        have HBA := hid (HB1.out.trans (hb.mono HB1.out.size))
        have HBI := hid hb
        clear hr hb
        by_cases hlti : i < S.length
        · have hltz : (i : Int) < (S.length : Int) := by omega
          obtain ⟨b', capb', hv, _, _, hcu⟩ := HU.out.keep HBA.out
          simp only [Value.slice.injEq, true_and] at hv
          obtain ⟨rfl, rfl⟩ := hv
          obtain ⟨gs, os, pa, rfl, ca, hpa, HDA⟩ := pt_at hcu HS.out hlti
          clear hcu
          go_wp2
          clear ca
          go_loopg [7, 38] S.length (fun gk sv iv wr => ∃ j : Nat, ∃ s : Int, j ≤ S.length ∧ gk = S.length - j ∧ iv = .int .i64 j ∧ sv = .int .i64 s ∧ lfold (lenA M S Q) S 1000000000 = lfold (lenA M S Q) (S.drop (i + 1)) (lfold (lenB M Q pa) (S.drop j) s) ∧ -1000000 ≤ s ∧ s ≤ 1000000000 ∧ Below w1.heap.size w1 wr)
          case atStart => exact ⟨0, s, Nat.zero_le _, rfl, rfl, rfl, by rw [HR1.out, HDA.out, lfold_cons]; rfl, hs0, hs1, HBI.out⟩
          case round =>
            obtain ⟨j, s, hj, rfl, rfl, rfl, hr, hs0, hs1, hb⟩ := hrel
            have HR2 := hid hr
            have HBA := hid (HB1.out.trans (hb.mono HB1.out.size))
            have HBI := hid hb
            clear hr hb
            by_cases hltj : j < S.length
            · have hltz : (j : Int) < (S.length : Int) := by omega
              obtain ⟨b', capb', hv, _, _, hcu⟩ := HU.out.keep HBA.out
              simp only [Value.slice.injEq, true_and] at hv
              obtain ⟨hv, rfl⟩ := hv
              obtain ⟨gs2, os2, pb, he, cb, hpb, HDB⟩ := pt_at hcu HS.out hltj
              rw [← hv] at he
              simp only [Option.some.injEq, Addr.mk.injEq, and_true] at he
              obtain ⟨rfl, rfl⟩ := he
              clear hcu hv
              go_wp2
              clear cb
              go_loopg [7, 44] Q.length (fun gk sv iv wr => ∃ k : Nat, ∃ s : Int, k ≤ Q.length ∧ gk = Q.length - k ∧ iv = .int .i64 k ∧ sv = .int .i64 s ∧ lfold (lenA M S Q) S 1000000000 = lfold (lenA M S Q) (S.drop (i + 1)) (lfold (lenB M Q pa) (S.drop (j + 1)) (lfold (lenC M Q pa pb) (Q.drop k) s)) ∧ -1000000 ≤ s ∧ s ≤ 1000000000 ∧ Below w1.heap.size w1 wr)
              case atStart => exact ⟨0, s, Nat.zero_le _, rfl, rfl, rfl, by rw [HR2.out, HDB.out, lfold_cons]; rfl, hs0, hs1, HBI.out⟩
              case round =>
                obtain ⟨k, s, hk, rfl, rfl, rfl, hr, hs0, hs1, hb⟩ := hrel
                have HR3 := hid hr
                have HBI := hid hb
                clear hr
                by_cases hltk : k < Q.length
                · have hltz : (k : Int) < (Q.length : Int) := by omega
                  obtain ⟨b', capb', hv, _, _, hcu⟩ := HO.out.keep hb
                  simp only [Value.slice.injEq, true_and] at hv
                  obtain ⟨rfl, rfl⟩ := hv
                  obtain ⟨gq, oq, pc, rfl, cc, hpc, HDC⟩ := pt_at hcu HQK.out hltk
                  clear hcu hb
                  go_wp2
                  clear cc
                  go_loopg [7, 50] Q.length (fun gk sv iv wr => ∃ l : Nat, ∃ s : Int, l ≤ Q.length ∧ gk = Q.length - l ∧ iv = .int .i64 l ∧ sv = .int .i64 s ∧ lfold (lenA M S Q) S 1000000000 = lfold (lenA M S Q) (S.drop (i + 1)) (lfold (lenB M Q pa) (S.drop (j + 1)) (lfold (lenC M Q pa pb) (Q.drop (k + 1)) (lfold (lenD M pa pb pc) (Q.drop l) s))) ∧ -1000000 ≤ s ∧ s ≤ 1000000000 ∧ Below w1.heap.size w1 wr)
                  case atStart => exact ⟨0, s, Nat.zero_le _, rfl, rfl, rfl, by rw [HR3.out, HDC.out, lfold_cons]; rfl, hs0, hs1, HBI.out⟩
                  case round =>
                    obtain ⟨l, s, hl, rfl, rfl, rfl, hr, hs0, hs1, hb⟩ := hrel
                    have HR4 := hid hr
                    have HBI := hid hb
                    have HBA := hid (HB1.out.trans (hb.mono HB1.out.size))
                    clear hr
                    by_cases hltl : l < Q.length
                    · have hltz : (l : Int) < (Q.length : Int) := by omega
                      obtain ⟨b', capb', hv, _, _, hcu⟩ := HO.out.keep hb
                      simp only [Value.slice.injEq, true_and] at hv
                      obtain ⟨hv, rfl⟩ := hv
                      obtain ⟨gq2, oq2, pd, he, cd, hpd, HDD⟩ := pt_at hcu HQK.out hltl
                      rw [← hv] at he
                      simp only [Option.some.injEq, Addr.mk.injEq, and_true] at he
                      obtain ⟨rfl, rfl⟩ := he
                      have hs := HSQ.out.keep HBA.out
                      have ra := hs.row pa hpa
                      have rb := hs.row pb hpb
                      have rc := hs.row pc hpc
                      have c1 := hs.at_ pa pc hpa hpc
                      have c2 := hs.at_ pb pd hpb hpd
                      have c3 := hs.at_ pa pd hpa hpd
                      have c4 := hs.at_ pb pc hpb hpc
                      have c5 := hs.at_ pa pb hpa hpb
                      have c6 := hs.at_ pc pd hpc hpd
                      have b1 := symB_bound HSY.out hpa hpc
                      have b2 := symB_bound HSY.out hpb hpd
                      have b3 := symB_bound HSY.out hpa hpd
                      have b4 := symB_bound HSY.out hpb hpc
                      have b5 := symB_bound HSY.out hpa hpb
                      have b6 := symB_bound HSY.out hpc hpd
                      obtain ⟨x1, h1⟩ : ∃ x, ent M pa pc = x := ⟨_, rfl⟩
                      obtain ⟨x2, h2⟩ : ∃ x, ent M pb pd = x := ⟨_, rfl⟩
                      obtain ⟨x3, h3⟩ : ∃ x, ent M pa pd = x := ⟨_, rfl⟩
                      obtain ⟨x4, h4⟩ : ∃ x, ent M pb pc = x := ⟨_, rfl⟩
                      obtain ⟨x5, h5⟩ : ∃ x, ent M pa pb = x := ⟨_, rfl⟩
                      obtain ⟨x6, h6⟩ : ∃ x, ent M pc pd = x := ⟨_, rfl⟩
                      rw [h1] at c1 b1
                      rw [h2] at c2 b2
                      rw [h3] at c3 b3
                      rw [h4] at c4 b4
                      rw [h5] at c5 b5
                      rw [h6] at c6 b6
                      have HST : Hid (lfold (lenA M S Q) S 1000000000 = lfold (lenA M S Q) (S.drop (i + 1)) (lfold (lenB M Q pa) (S.drop (j + 1)) (lfold (lenC M Q pa pb) (Q.drop (k + 1)) (lfold (lenD M pa pb pc) (Q.drop (l + 1)) (min s (max (x1 + x2) (x3 + x4) - x5 - x6)))))) := by
                        show _ = _
                        rw [HR4.out, HDD.out, lfold_cons, lenD, lenV, entZ_nat, entZ_nat, entZ_nat, entZ_nat, entZ_nat, entZ_nat, h1, h2, h3, h4, h5, h6]
                      have f1 : IntKind.i64.wrap (x1 + x2) = x1 + x2 := IntWalk.i64_in _ (by omega)
                      have f2 : IntKind.i64.wrap (x3 + x4) = x3 + x4 := IntWalk.i64_in _ (by omega)
                      have hpaz : (pa : Int) < (M.length : Int) := by omega
                      have hpbz : (pb : Int) < (M.length : Int) := by omega
                      have hpcz : (pc : Int) < (M.length : Int) := by omega
                      have hpdz : (pd : Int) < (M.length : Int) := by omega
                      clear h1 h2 h3 h4 h5 h6 hs hcu hv hb
                      have f3 : IntKind.i64.wrap (max (x1 + x2) (x3 + x4) - x5) = max (x1 + x2) (x3 + x4) - x5 := IntWalk.i64_in _ (by omega)
                      have f4 : IntKind.i64.wrap (max (x1 + x2) (x3 + x4) - x5 - x6) = max (x1 + x2) (x3 + x4) - x5 - x6 := IntWalk.i64_in _ (by omega)
                      go_wp2
                      go_quiet (first
                        | (go_at_call 62; exact Calls.quiet_of_same (l1Most_q _ _ _))
                        | (go_at_call 61; exact Calls.quiet_of_same (l1Least_q _ _ _)))
                      go_wp2
                      go_roundg (Q.length - (l + 1))
                      case rel => exact ⟨l + 1, _, by omega, rfl, by go_num, rfl, HST.out, by omega, by omega, below_dn2 HBI.out _⟩
                      case measure => omega
                    · have HST : Hid (lfold (lenA M S Q) S 1000000000 = lfold (lenA M S Q) (S.drop (i + 1)) (lfold (lenB M Q pa) (S.drop (j + 1)) (lfold (lenC M Q pa pb) (Q.drop (k + 1)) s))) := by show _ = _; rw [HR4.out, List.drop_eq_nil_of_le (show Q.length ≤ l by omega), lfold_nil]
                      clear hb
                      go_wp2
                      go_roundg (Q.length - (k + 1))
                      case rel => exact ⟨k + 1, s, by omega, rfl, by go_num, rfl, HST.out, hs0, hs1, HBI.out⟩
                      case measure => omega
                · have HST : Hid (lfold (lenA M S Q) S 1000000000 = lfold (lenA M S Q) (S.drop (i + 1)) (lfold (lenB M Q pa) (S.drop (j + 1)) s)) := by show _ = _; rw [HR3.out, List.drop_eq_nil_of_le (show Q.length ≤ k by omega), lfold_nil]
                  clear hb
                  go_wp2
                  go_roundg (S.length - (j + 1))
                  case rel => exact ⟨j + 1, s, by omega, rfl, by go_num, rfl, HST.out, hs0, hs1, HBI.out⟩
                  case measure => omega
            · have HST : Hid (lfold (lenA M S Q) S 1000000000 = lfold (lenA M S Q) (S.drop (i + 1)) s) := by show _ = _; rw [HR2.out, List.drop_eq_nil_of_le (show S.length ≤ j by omega), lfold_nil]
              go_wp2
              go_roundg (S.length - (i + 1))
              case rel => exact ⟨i + 1, s, by omega, rfl, by go_num, rfl, HST.out, hs0, hs1, HBI.out⟩
              case measure => omega
        · have HST : Hid (lenF M S = max 0 s) := by show _ = _; rw [HLF.out, HR1.out, List.drop_eq_nil_of_le (show S.length ≤ i by omega), lfold_nil]
          go_wp2_with (go_at_call 62; refine (l1Most_c _ _ _).mono ?_; rintro e w' ⟨rfl, rfl⟩)
          go_ret
          exact ⟨ret_int (by rw [HST.out]), HBA.out⟩

set_option maxRecDepth 100000 in
set_option maxHeartbeats 4000000 in
theorem twiceLength_c (v u : Value) (M : List (List Int)) (S : List Int) (w : World) (hm : metB M = true) (h : RMat w v M) (h' : RInts w u S) (hS : ∀ x ∈ S, 0 ≤ x ∧ x < (M.length : Int)) (hSl : S.length ≤ 1048576) :
    Calls Tryz.prog 33 #[v, u] w fun e w' => e = .returned (.int .i64 (lenF M S)) ∧ Below w.heap.size w w' := by
  have hp := metB_parts hm
  have hn7 := hp.2.1
  have HSY := hid hp.2.2.2.1
  have HR := hid h
  have HU := hid h'
  have HS := hid hS
  obtain ⟨g, o, cap, G, O, C, rfl, q1, q2, hsq⟩ := met_open h hm
  have HSQ := hid hsq
  obtain ⟨b, capb, rfl, z1, z2, hcu⟩ := h'
  unfold maxLen at z2
  have HOK := hid (othF_ok M.length S)
  clear hp hsq hcu hS h
  go_enter Tryz.func33, Tryz.ntmps33
  go_wp2_with fail
  refine (otherSide_c M.length _ S _ HU.out (by omega)).mono ?_
  rintro e w1 ⟨r, rfl, hF, hb1⟩
  have HB1 := hid hb1
  have hFR := hF.r
  clear hb1 hF
  ·   skip
      obtain ⟨Q, hQ⟩ : ∃ Q, othF M.length S = Q := ⟨_, rfl⟩
      have hok := HOK.out
      rw [hQ] at hFR hok
      have HLF : Hid (lenF M S = max 0 (lfold (lenA M S Q) S 1000000000)) := by show _ = _; rw [lenF, hQ]
      have HO := hid hFR
      have HQK := hid hok.1
      have hql := hok.2
      obtain ⟨c, capc, rfl, y1, y2, hcc⟩ := hFR
      unfold maxLen at y2
      clear hcc hok hQ
      go_wp2
      go_loopg [5, 21] S.length (fun gk sv iv wr => ∃ i : Nat, ∃ s : Int, i ≤ S.length ∧ gk = S.length - i ∧ iv = .int .i64 i ∧ sv = .int .i64 s ∧ lfold (lenA M S Q) S 1000000000 = lfold (lenA M S Q) (S.drop i) s ∧ -1000000 ≤ s ∧ s ≤ 1000000000 ∧ Below w1.heap.size w1 wr)
      case atStart => exact ⟨0, 1000000000, Nat.zero_le _, rfl, rfl, rfl, rfl, by omega, by omega, Below.refl _ _⟩
      case round =>
        obtain ⟨i, s, hi, rfl, rfl, rfl, hr, hs0, hs1, hb⟩ := hrel
        have HR1 := hid hr
        have HBA := hid (HB1.out.trans (hb.mono HB1.out.size))
        have HBI := hid hb
        clear hr hb
        by_cases hlti : i < S.length
        · have hltz : (i : Int) < (S.length : Int) := by omega
          obtain ⟨b', capb', hv, _, _, hcu⟩ := HU.out.keep HBA.out
          simp only [Value.slice.injEq, true_and] at hv
          obtain ⟨rfl, rfl⟩ := hv
          obtain ⟨gs, os, pa, rfl, ca, hpa, HDA⟩ := pt_at hcu HS.out hlti
          clear hcu
          go_wp2
          clear ca
          go_loopg [5, 27] S.length (fun gk sv iv wr => ∃ j : Nat, ∃ s : Int, j ≤ S.length ∧ gk = S.length - j ∧ iv = .int .i64 j ∧ sv = .int .i64 s ∧ lfold (lenA M S Q) S 1000000000 = lfold (lenA M S Q) (S.drop (i + 1)) (lfold (lenB M Q pa) (S.drop j) s) ∧ -1000000 ≤ s ∧ s ≤ 1000000000 ∧ Below w1.heap.size w1 wr)
          case atStart => exact ⟨0, s, Nat.zero_le _, rfl, rfl, rfl, by rw [HR1.out, HDA.out, lfold_cons]; rfl, hs0, hs1, HBI.out⟩
          case round =>
            obtain ⟨j, s, hj, rfl, rfl, rfl, hr, hs0, hs1, hb⟩ := hrel
            have HR2 := hid hr
            have HBA := hid (HB1.out.trans (hb.mono HB1.out.size))
            have HBI := hid hb
            clear hr hb
            by_cases hltj : j < S.length
            · have hltz : (j : Int) < (S.length : Int) := by omega
              obtain ⟨b', capb', hv, _, _, hcu⟩ := HU.out.keep HBA.out
              simp only [Value.slice.injEq, true_and] at hv
              obtain ⟨hv, rfl⟩ := hv
              obtain ⟨gs2, os2, pb, he, cb, hpb, HDB⟩ := pt_at hcu HS.out hltj
              rw [← hv] at he
              simp only [Option.some.injEq, Addr.mk.injEq, and_true] at he
              obtain ⟨rfl, rfl⟩ := he
              clear hcu hv
              go_wp2
              clear cb
              go_loopg [5, 33] Q.length (fun gk sv iv wr => ∃ k : Nat, ∃ s : Int, k ≤ Q.length ∧ gk = Q.length - k ∧ iv = .int .i64 k ∧ sv = .int .i64 s ∧ lfold (lenA M S Q) S 1000000000 = lfold (lenA M S Q) (S.drop (i + 1)) (lfold (lenB M Q pa) (S.drop (j + 1)) (lfold (lenC M Q pa pb) (Q.drop k) s)) ∧ -1000000 ≤ s ∧ s ≤ 1000000000 ∧ Below w1.heap.size w1 wr)
              case atStart => exact ⟨0, s, Nat.zero_le _, rfl, rfl, rfl, by rw [HR2.out, HDB.out, lfold_cons]; rfl, hs0, hs1, HBI.out⟩
              case round =>
                obtain ⟨k, s, hk, rfl, rfl, rfl, hr, hs0, hs1, hb⟩ := hrel
                have HR3 := hid hr
                have HBI := hid hb
                clear hr
                by_cases hltk : k < Q.length
                · have hltz : (k : Int) < (Q.length : Int) := by omega
                  obtain ⟨b', capb', hv, _, _, hcu⟩ := HO.out.keep hb
                  simp only [Value.slice.injEq, true_and] at hv
                  obtain ⟨rfl, rfl⟩ := hv
                  obtain ⟨gq, oq, pc, rfl, cc, hpc, HDC⟩ := pt_at hcu HQK.out hltk
                  clear hcu hb
                  go_wp2
                  clear cc
                  go_loopg [5, 39] Q.length (fun gk sv iv wr => ∃ l : Nat, ∃ s : Int, l ≤ Q.length ∧ gk = Q.length - l ∧ iv = .int .i64 l ∧ sv = .int .i64 s ∧ lfold (lenA M S Q) S 1000000000 = lfold (lenA M S Q) (S.drop (i + 1)) (lfold (lenB M Q pa) (S.drop (j + 1)) (lfold (lenC M Q pa pb) (Q.drop (k + 1)) (lfold (lenD M pa pb pc) (Q.drop l) s))) ∧ -1000000 ≤ s ∧ s ≤ 1000000000 ∧ Below w1.heap.size w1 wr)
                  case atStart => exact ⟨0, s, Nat.zero_le _, rfl, rfl, rfl, by rw [HR3.out, HDC.out, lfold_cons]; rfl, hs0, hs1, HBI.out⟩
                  case round =>
                    obtain ⟨l, s, hl, rfl, rfl, rfl, hr, hs0, hs1, hb⟩ := hrel
                    have HR4 := hid hr
                    have HBI := hid hb
                    have HBA := hid (HB1.out.trans (hb.mono HB1.out.size))
                    clear hr
                    by_cases hltl : l < Q.length
                    · have hltz : (l : Int) < (Q.length : Int) := by omega
                      obtain ⟨b', capb', hv, _, _, hcu⟩ := HO.out.keep hb
                      simp only [Value.slice.injEq, true_and] at hv
                      obtain ⟨hv, rfl⟩ := hv
                      obtain ⟨gq2, oq2, pd, he, cd, hpd, HDD⟩ := pt_at hcu HQK.out hltl
                      rw [← hv] at he
                      simp only [Option.some.injEq, Addr.mk.injEq, and_true] at he
                      obtain ⟨rfl, rfl⟩ := he
                      have hs := HSQ.out.keep HBA.out
                      have ra := hs.row pa hpa
                      have rb := hs.row pb hpb
                      have rc := hs.row pc hpc
                      have c1 := hs.at_ pa pc hpa hpc
                      have c2 := hs.at_ pb pd hpb hpd
                      have c3 := hs.at_ pa pd hpa hpd
                      have c4 := hs.at_ pb pc hpb hpc
                      have c5 := hs.at_ pa pb hpa hpb
                      have c6 := hs.at_ pc pd hpc hpd
                      have b1 := symB_bound HSY.out hpa hpc
                      have b2 := symB_bound HSY.out hpb hpd
                      have b3 := symB_bound HSY.out hpa hpd
                      have b4 := symB_bound HSY.out hpb hpc
                      have b5 := symB_bound HSY.out hpa hpb
                      have b6 := symB_bound HSY.out hpc hpd
                      obtain ⟨x1, h1⟩ : ∃ x, ent M pa pc = x := ⟨_, rfl⟩
                      obtain ⟨x2, h2⟩ : ∃ x, ent M pb pd = x := ⟨_, rfl⟩
                      obtain ⟨x3, h3⟩ : ∃ x, ent M pa pd = x := ⟨_, rfl⟩
                      obtain ⟨x4, h4⟩ : ∃ x, ent M pb pc = x := ⟨_, rfl⟩
                      obtain ⟨x5, h5⟩ : ∃ x, ent M pa pb = x := ⟨_, rfl⟩
                      obtain ⟨x6, h6⟩ : ∃ x, ent M pc pd = x := ⟨_, rfl⟩
                      rw [h1] at c1 b1
                      rw [h2] at c2 b2
                      rw [h3] at c3 b3
                      rw [h4] at c4 b4
                      rw [h5] at c5 b5
                      rw [h6] at c6 b6
                      have HST : Hid (lfold (lenA M S Q) S 1000000000 = lfold (lenA M S Q) (S.drop (i + 1)) (lfold (lenB M Q pa) (S.drop (j + 1)) (lfold (lenC M Q pa pb) (Q.drop (k + 1)) (lfold (lenD M pa pb pc) (Q.drop (l + 1)) (min s (max (x1 + x2) (x3 + x4) - x5 - x6)))))) := by
                        show _ = _
                        rw [HR4.out, HDD.out, lfold_cons, lenD, lenV, entZ_nat, entZ_nat, entZ_nat, entZ_nat, entZ_nat, entZ_nat, h1, h2, h3, h4, h5, h6]
                      have f1 : IntKind.i64.wrap (x1 + x2) = x1 + x2 := IntWalk.i64_in _ (by omega)
                      have f2 : IntKind.i64.wrap (x3 + x4) = x3 + x4 := IntWalk.i64_in _ (by omega)
                      have hpaz : (pa : Int) < (M.length : Int) := by omega
                      have hpbz : (pb : Int) < (M.length : Int) := by omega
                      have hpcz : (pc : Int) < (M.length : Int) := by omega
                      have hpdz : (pd : Int) < (M.length : Int) := by omega
                      clear h1 h2 h3 h4 h5 h6 hs hcu hv hb
                      have f3 : IntKind.i64.wrap (x1 + x2 - x5) = x1 + x2 - x5 := IntWalk.i64_in _ (by omega)
                      have f4 : IntKind.i64.wrap (x1 + x2 - x5 - x6) = x1 + x2 - x5 - x6 := IntWalk.i64_in _ (by omega)
                      have f5 : IntKind.i64.wrap (x3 + x4 - x5) = x3 + x4 - x5 := IntWalk.i64_in _ (by omega)
                      have f6 : IntKind.i64.wrap (x3 + x4 - x5 - x6) = x3 + x4 - x5 - x6 := IntWalk.i64_in _ (by omega)
                      go_wp2
                      go_quiet (fail)
                      clear f1 f2 f3 f4 f5 f6
                      go_wp2
                      all_goals
                        go_roundg (Q.length - (l + 1))
                        case rel => exact ⟨l + 1, _, by omega, rfl, by go_num, rfl, by first | (rw [HST.out]; congr 4 <;> omega) | rw [HST.out], by omega, by omega, below_dn2 HBI.out _⟩
                        case measure => omega
                    · have HST : Hid (lfold (lenA M S Q) S 1000000000 = lfold (lenA M S Q) (S.drop (i + 1)) (lfold (lenB M Q pa) (S.drop (j + 1)) (lfold (lenC M Q pa pb) (Q.drop (k + 1)) s))) := by show _ = _; rw [HR4.out, List.drop_eq_nil_of_le (show Q.length ≤ l by omega), lfold_nil]
                      clear hb
                      go_wp2
                      go_roundg (Q.length - (k + 1))
                      case rel => exact ⟨k + 1, s, by omega, rfl, by go_num, rfl, HST.out, hs0, hs1, HBI.out⟩
                      case measure => omega
                · have HST : Hid (lfold (lenA M S Q) S 1000000000 = lfold (lenA M S Q) (S.drop (i + 1)) (lfold (lenB M Q pa) (S.drop (j + 1)) s)) := by show _ = _; rw [HR3.out, List.drop_eq_nil_of_le (show Q.length ≤ k by omega), lfold_nil]
                  clear hb
                  go_wp2
                  go_roundg (S.length - (j + 1))
                  case rel => exact ⟨j + 1, s, by omega, rfl, by go_num, rfl, HST.out, hs0, hs1, HBI.out⟩
                  case measure => omega
            · have HST : Hid (lfold (lenA M S Q) S 1000000000 = lfold (lenA M S Q) (S.drop (i + 1)) s) := by show _ = _; rw [HR2.out, List.drop_eq_nil_of_le (show S.length ≤ j by omega), lfold_nil]
              go_wp2
              go_roundg (S.length - (i + 1))
              case rel => exact ⟨i + 1, s, by omega, rfl, by go_num, rfl, HST.out, hs0, hs1, HBI.out⟩
              case measure => omega
        · have HST : Hid (lenF M S = max 0 s) := by show _ = _; rw [HLF.out, HR1.out, List.drop_eq_nil_of_le (show S.length ≤ i by omega), lfold_nil]
          go_wp2
          all_goals
            go_ret
            exact ⟨ret_int (by first | (rw [HST.out]; omega) | rw [HST.out] | (rw [HST.out]; congr 1 <;> omega)), HBA.out⟩

end Go.Proofs.YtnkbfgnmodfemaaGreatDoor
