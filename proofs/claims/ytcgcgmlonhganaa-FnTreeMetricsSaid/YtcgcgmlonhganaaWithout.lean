/- The metric without a point: both programs' functions. -/
import Derived.Test.YtcgcgmlonhganaaOwn
import Derived.Test.YtcgcgmlonhganaaIsMetric
import Derived.Test.YtcgcgmlonhganaaVertices
import Derived.BigRegion
namespace Go.Proofs.Ytcgcgmlonhganaa
open Go.RowKit
open Go.Lib (hid)

set_option maxRecDepth 100000 in
set_option maxHeartbeats 1000000 in
theorem meWithout_c (v : Value) (l : List Int) (i : Nat) (w : World) (h : RInts w v l) (hi : i < l.length) (hl : l.length ≤ 1048576) :
    Calls Try.prog 80 #[v, .int .i64 i] w (RetInts w (l.take i ++ l.drop (i + 1))) := by
  have hR := h
  obtain ⟨a, cap, rfl, h1, h2, hc⟩ := h
  obtain ⟨g, o, rfl, _⟩ := hc i hi
  clear hc
  have hR1 : RInts w.drew (.slice (some ⟨g, o, none⟩) i cap) (l.take i) := rints_take hR (show i ≤ l.length by omega)
  unfold maxLen at h2
  have hiz : (i : Int) < (l.length : Int) := by omega
  have hll : (l.take i).length + (l.drop (i + 1)).length ≤ 1099511627776 := by simp; omega
  have hll1 : (l.take i).length ≤ 1048576 := by rw [List.length_take]; omega
  by_cases hcap : cap = i + 1
  · subst hcap
    have hlen : l.length = i + 1 := by omega
    have hd : l.drop (i + 1) = [] := List.drop_eq_nil_of_le (by omega)
    have HD := hid hd; clear hd
    have HLEN := hid hlen; clear hlen
    go_enter Try.func80, Try.ntmps80
    go_wp2
    have f0 : (i : Int) ≤ (i : Int) + 1 := by omega
    have f4 : (i : Int) + 1 ≤ (l.length : Int) := by have := HLEN.out; omega
    have f5 : (l.length : Int) ≤ (i : Int) + 1 := by have := HLEN.out; omega
    have f6 : l.length - (i + 1) = 0 := by have := HLEN.out; omega
    have f1 : IntKind.i64.wrap ((i : Int) + 1) = (i : Int) + 1 := IntWalk.i64_in _ (by omega)
    have f2 : ((i : Int) + 1).toNat = i + 1 := by omega
    have f3 : (0 : Int) ≤ (i : Int) + 1 := by omega
    go_region_law (first
      | (refine step_append_ints rfl (.tmp 8) (.tmp 12) rfl w.heap.size _ _ _ (l.take i) (l.drop (i + 1)) (by simp [Act.eval]) (by simp [Act.eval]) hF1 hD1 hll hs1 ?_; intro v2 w2 hF2 hg2 hn2)
      | (go_simp; go_at_call 90; refine (l1Own_c _ (l.take i) _ hR1 hll1).mono ?_; rintro e w1 ⟨u, rfl, hF1, hb1⟩; have hs1 : w.heap.size ≤ w1.heap.size := hb1.size; have hD1 : RInts w1 (.slice (some ⟨g, o, none⟩) 0 0) (l.drop (i + 1)) := by rw [HD.out]; exact rints_none (by unfold maxLen; omega)))
    go_wp2
    go_ret
    exact ⟨_, rfl, hF2, (below_of_drew hb1).grown hg2 hs1 (fun k hk => (hF1.1.lt k hk).1)⟩
  · go_enter Try.func80, Try.ntmps80
    go_wp2
    have f0 : (i : Int) ≤ (cap : Int) := by omega
    have f1 : IntKind.i64.wrap ((i : Int) + 1) = (i : Int) + 1 := IntWalk.i64_in _ (by omega)
    have f2 : ((i : Int) + 1).toNat = i + 1 := by omega
    have f3 : (0 : Int) ≤ (i : Int) + 1 := by omega
    have f4 : (i : Int) + 1 ≤ (l.length : Int) := by omega
    have f5 : (l.length : Int) ≤ (cap : Int) := by omega
    have hR2 : RInts w.drew (.slice (some ⟨g, o + (i + 1), none⟩) (l.length - (i + 1)) (cap - (i + 1))) (l.drop (i + 1)) := rints_drop hR (show i + 1 ≤ l.length by omega)
    go_region_law (first
      | (refine step_append_ints rfl (.tmp 8) (.tmp 12) rfl w.heap.size _ _ _ (l.take i) (l.drop (i + 1)) (by simp [Act.eval]) (by simp [Act.eval]) hF1 hD1 hll hs1 ?_; intro v2 w2 hF2 hg2 hn2)
      | (go_simp; go_at_call 90; refine (l1Own_c _ (l.take i) _ hR1 hll1).mono ?_; rintro e w1 ⟨u, rfl, hF1, hb1⟩; have hs1 : w.heap.size ≤ w1.heap.size := hb1.size; have hD1 := hR2.keep hb1))
    go_wp2
    go_ret
    exact ⟨_, rfl, hF2, (below_of_drew hb1).grown hg2 hs1 (fun k hk => (hF1.1.lt k hk).1)⟩

/-- the matrix of the rows and columns other than i -/
def dropAt (l : List Int) (i : Nat) : List Int := l.take i ++ l.drop (i + 1)
/-- the indices below n other than i, from k on -/
def restL (n i k : Nat) : List Nat := (List.range' k (n - k)).filter fun j => j != i
theorem restL_own {n i k : Nat} (h : k < n) (e : k = i) : restL n i k = restL n i (k + 1) := by
  unfold restL; rw [show n - k = (n - (k + 1)) + 1 by omega, List.range'_succ, List.filter_cons]; simp [e]
theorem restL_other {n i k : Nat} (h : k < n) (e : ¬ k = i) : restL n i k = k :: restL n i (k + 1) := by
  unfold restL; rw [show n - k = (n - (k + 1)) + 1 by omega, List.range'_succ, List.filter_cons]; simp [e]
theorem restL_end {n i k : Nat} (h : n ≤ k) : restL n i k = [] := by unfold restL; rw [show n - k = 0 by omega]; rfl
theorem restL_mem {n i k j : Nat} (h : j ∈ restL n i k) : k ≤ j ∧ j < n ∧ j ≠ i := by
  unfold restL at h
  rw [List.mem_filter, List.mem_range'_1] at h
  have := h.2
  simp at this; omega
theorem restL_len (n i k : Nat) : (restL n i k).length ≤ n := by
  unfold restL; refine Nat.le_trans (List.length_filter_le _ _) ?_; simp

def withoutB (M : List (List Int)) (i : Nat) : List (List Int) := (restL M.length i 0).map fun r => dropAt (M.getD r []) i
def wtoB (M : List (List Int)) (i : Int) : List (List Int) × Bool :=
  if metB M && (decide (3 ≤ M.length) && inB i 0 (M.length - 1)) then (withoutB M i.toNat, true) else ([], false)
theorem wtoB_no (M : List (List Int)) (i : Int) (h : (metB M && (decide (3 ≤ M.length) && inB i 0 (M.length - 1))) = false) : wtoB M i = ([], false) := by rw [wtoB, h]; rfl
theorem wtoB_yes (M : List (List Int)) (j : Nat) (h : (metB M && (decide (3 ≤ M.length) && inB (j : Int) 0 (M.length - 1))) = true) : wtoB M j = (withoutB M j, true) := by
  rw [wtoB, h, if_pos rfl]; rfl

/-- a matrix and a bool, the matrix in new memory -/
def RetMatB (w : World) (p : List (List Int) × Bool) (e : Ending) (w' : World) : Prop := ∃ v, e = .returned (.tuple #[v, .bool p.2]) ∧ FMat w' w.heap.size w'.heap.size v p.1 ∧ Below w.heap.size w w'

/-- entries of rows and columns -/
def partM (M : List (List Int)) (rows cols : List Nat) : List (List Int) := rows.map fun r => cols.map fun c => ent M r c
theorem getD_get {l : List Int} {k : Nat} (h : k < l.length) : l[k] = l.getD k 0 := by simp [List.getD, List.getElem?_eq_getElem h]
theorem dropAt_ent {M : List (List Int)} {n i r : Nat} (hsq : sqB M n = true) (hl : M.length = n) (hr : r < n) : dropAt (M.getD r []) i = (restL n i 0).map fun c => ent M r c := by
  have hlen : (M.getD r []).length = n := sqB_len hsq (by omega)
  have key : ∀ (d k : Nat), d = n - k → k ≤ n → (if k ≤ i then ((M.getD r []).take i).drop k ++ (M.getD r []).drop (i + 1) else (M.getD r []).drop k) = (restL n i k).map fun c => ent M r c := by
    intro d
    induction d with
    | zero =>
      intro k hd hk
      rw [restL_end (by omega)]
      have : k = n := by omega
      subst this
      split
      · rw [List.drop_eq_nil_of_le (by rw [List.length_take]; omega), List.drop_eq_nil_of_le (by omega)]; rfl
      · rw [List.drop_eq_nil_of_le (by omega)]; rfl
    | succ d ih =>
      intro k hd hk
      have ih' := ih (k + 1) (by omega) (by omega)
      have hdk : (M.getD r []).drop k = ent M r k :: (M.getD r []).drop (k + 1) := drop_cons _ 0 k (by omega)
      by_cases e : k = i
      · subst e
        rw [restL_own (by omega) rfl, ← ih', if_pos (Nat.le_refl _), if_neg (by omega), List.drop_eq_nil_of_le (by rw [List.length_take]; omega)]; rfl
      · rw [restL_other (by omega) e, List.map_cons, ← ih']
        by_cases hki : k ≤ i
        · rw [if_pos hki, if_pos (by omega)]
          have : ((M.getD r []).take i).drop k = ent M r k :: ((M.getD r []).take i).drop (k + 1) := by
            rw [List.drop_eq_getElem_cons (by rw [List.length_take]; omega), List.getElem_take]
            exact congrArg (· :: _) (getD_get (by omega))
          rw [this]; rfl
        · rw [if_neg hki, if_neg (by omega), hdk]
  have := key n 0 (by omega) (by omega)
  rw [if_pos (Nat.zero_le _), List.drop_zero] at this
  exact this
theorem partM_take (M : List (List Int)) (rows cols : List Nat) (k : Nat) (h : k < rows.length) : partM M (rows.take (k + 1)) cols = partM M (rows.take k) cols ++ [cols.map fun c => ent M (rows.getD k 0) c] := by
  unfold partM; rw [take_succ_getDN rows k h, List.map_append]; rfl

set_option maxRecDepth 100000 in
set_option maxHeartbeats 2000000 in
theorem partOf_c (v rv cv : Value) (M : List (List Int)) (n : Nat) (rows cols : List Nat) (w : World) (h : RMat w v M) (hrv : RInts w rv (castL rows)) (hcv : RInts w cv (castL cols)) (hn : 0 < n) (hlM : M.length = n) (hsq : sqB M n = true)
    (hr : ∀ r ∈ rows, r < n) (hc : ∀ c ∈ cols, c < n) (hrl : rows.length ≤ 1048576) (hcl : cols.length ≤ 1048576) :
    Calls Try.prog 78 #[v, rv, cv] w (RetMat w (partM M rows cols)) := by
  obtain ⟨g, o, cap, G, O, C, rfl, hn1, hn2, hrow, hcell⟩ := sq_open h hn hlM hsq
  obtain ⟨ar, capr, rfl, hr1, hr2, hrc⟩ := hrv
  obtain ⟨ac, capc, rfl, hc1, hc2, hcc⟩ := hcv
  have hRR : RInts w (.slice ar rows.length capr) (castL rows) := ⟨ar, capr, by rw [castL_len], hr1, hr2, hrc⟩
  have hCC : RInts w (.slice ac cols.length capc) (castL cols) := ⟨ac, capc, by rw [castL_len], hc1, hc2, hcc⟩
  rw [castL_len] at hr1 hc1 ⊢
  rw [castL_len]
  unfold maxLen at hr2 hc2
  have HRC := hid hrc; clear hrc
  have HCC := hid hcc; clear hcc
  have HROW := hid hrow; clear hrow
  have HCELL := hid hcell; clear hcell
  have HMR := hid hr; clear hr
  have HMC := hid hc; clear hc
  have HSQ := hid hsq; clear hsq
  have HLM := hid hlM; clear hlM
  clear hRR hCC h
  have hE := mat_empty w w.heap.size (Nat.le_refl _)
  have HE := hid hE; clear hE
  go_enter Try.func78, Try.ntmps78
  go_wp2
  go_loopg [7, 16] rows.length (fun gk out i wr => ∃ k : Nat, k ≤ rows.length ∧ gk = rows.length - k ∧ i = .int .i64 k ∧ FMat wr w.heap.size wr.heap.size out (partM M (rows.take k) cols) ∧ Below w.heap.size w wr ∧ w.heap.size ≤ wr.heap.size)
  case atStart => exact ⟨0, Nat.zero_le _, rfl, rfl, by simpa [partM] using HE.out, (Below.refl _ _).alloc (Nat.le_refl _) _, by simp⟩
  case round =>
    obtain ⟨k, hk, rfl, rfl, hm, hbw, hsz⟩ := hrel
    obtain ⟨wo, rfl⟩ : ∃ wo : World, wo = wr := ⟨_, rfl⟩
    by_cases hlt : k < rows.length
    · obtain ⟨gr, or, r, rfl, hkr, HDR, HXR⟩ := nats_at HRC.out hlt
      have hrn : r < n := HMR.out r (by rw [← HXR.out]; simp [List.getD, List.getElem?_eq_getElem hlt])
      have hkr' : wo.cell? ⟨gr, or + k, none⟩ = some (.int .i64 (r : Int)) := by rw [hbw.cell (p := ⟨gr, or + k, none⟩) (cell_lt hkr)]; exact hkr
      have hE := ints_empty wo wo.heap.size (Nat.le_refl _)
      have hM2 : FMat (wo.alloc (.cells #[] 3)) w.heap.size wo.heap.size _ (partM M (rows.take k) cols) := hm.keep ((Below.refl _ _).alloc (Nat.le_refl _) _)
      have hB2 : Below w.heap.size w (wo.alloc (.cells #[] 3)) := hbw.alloc hsz _
      have HE2 := hid (And.intro hE (And.intro hM2 hB2))
      clear hE hM2 hB2 hkr hm hbw HE
      have hrz : (r : Int) < (n : Int) := by omega
      go_wp2
      go_loopg [10, 23] cols.length (fun gk rowv i wi => ∃ c : Nat, c ≤ cols.length ∧ gk = cols.length - c ∧ i = .int .i64 c ∧ FInts wi wo.heap.size wi.heap.size rowv ((cols.take c).map fun c => ent M r c) ∧
        FMat wi w.heap.size wo.heap.size _ (partM M (rows.take k) cols) ∧ Below w.heap.size w wi ∧ wo.heap.size ≤ wi.heap.size)
      case atStart => exact ⟨0, Nat.zero_le _, rfl, rfl, by simpa using HE2.out.1, HE2.out.2.1, HE2.out.2.2, by simp⟩
      case round =>
        obtain ⟨c, hcc, rfl, rfl, hF, hM, hB, hsw⟩ := hrel
        by_cases hlt' : c < cols.length
        · obtain ⟨gc, oc, x, rfl, hkc, HDC, HXC⟩ := nats_at HCC.out hlt'
          have hxn : x < n := HMC.out x (by rw [← HXC.out]; simp [List.getD, List.getElem?_eq_getElem hlt'])
          have hxz : (x : Int) < (n : Int) := by omega
          have e0 := HROW.out r hrn
          have e1 := HCELL.out r x hrn hxn
          have c1 : wr.cell? ⟨gc, oc + c, none⟩ = some (.int .i64 (x : Int)) := by rw [hB.cell (p := ⟨gc, oc + c, none⟩) (cell_lt hkc)]; exact hkc
          have c2 : wr.cell? ⟨g, o + r, none⟩ = some (.slice (some ⟨G r, O r, none⟩) n (C r)) := by rw [hB.cell (p := ⟨g, o + r, none⟩) (cell_lt e0)]; exact e0
          have c3 : wr.cell? ⟨G r, O r + x, none⟩ = some (.int .i64 (ent M r x)) := by rw [hB.cell (p := ⟨G r, O r + x, none⟩) (cell_lt e1)]; exact e1
          obtain ⟨y, hy⟩ : ∃ y, ent M r x = y := ⟨_, rfl⟩
          rw [hy] at c3
          have HY := hid hy
          have HT : Hid ((cols.take c).map (fun c => ent M r c) ++ [y] = (cols.take (c + 1)).map fun c => ent M r c) := by
            show _ = _; rw [take_succ_getDN cols c hlt', List.map_append, HXC.out]; simp [hy]
          obtain ⟨p1, p2, p3⟩ := push_pre hF y
          have HPP := hid (And.intro hF (And.intro hM hB))
          have hcl' : ((cols.take c).map fun c => ent M r c).length + [y].length ≤ 1099511627776 := by simp; omega
          have hls : wo.heap.size ≤ (wr.alloc (.cells #[.int .i64 y] 3)).heap.size := by omega
          have HLS := hid hls
          clear e0 e1 hkc hy hF hM hB hls p3
          go_wp2_with (at_builtin; refine wpList_append_ints rfl _ _ rfl _ _ _ _ _ [y] rfl rfl p1 p2 hcl' HLS.out ?_; intro v' w' hF' hg hn)
          have ht := push_post HPP.out.1 hg
          rw [HT.out] at hF'
          have HO : Aside (FMat w' w.heap.size wo.heap.size _ (partM M (rows.take k) cols) ∧ Below w.heap.size w w' ∧ wo.heap.size ≤ w'.heap.size) :=
            ⟨HPP.out.2.1.same (.of_touch ht (.inl (Nat.le_refl _))), HPP.out.2.2.trans (ht.below hsz (by omega)), Nat.le_trans hsw ht.size⟩
          clear HPP hg hn ht p1 p2
          go_roundg (cols.length - (c + 1))
          case rel => exact ⟨c + 1, by omega, rfl, by go_num, hF', HO.out⟩
          case measure => omega
        · obtain rfl : c = cols.length := by omega
          rw [List.take_length] at hF
          obtain ⟨au, cu, hv⟩ := hF.form
          rw [List.length_map] at hv
          subst hv
          have ha : Below wr.heap.size wr (wr.alloc (.cells #[.slice au cols.length cu] 24)) := (Below.refl _ _).alloc (Nat.le_refl _) _
          have q1 := hM.keep ha
          have q2 := hF.keep ha
          have q3 := cell_new wr (.slice au cols.length cu) 24
          have q4 : w.heap.size ≤ (wr.alloc (.cells #[.slice au cols.length cu] 24)).heap.size := by simp; omega
          have HQ4 := hid q4
          have hkl : (partM M (rows.take k) cols).length ≤ 1099511627776 := by simp [partM]; omega
          have HT : Hid (partM M (rows.take k) cols ++ [cols.map fun c => ent M r c] = partM M (rows.take (k + 1)) cols) := by
            show _ = _; rw [partM_take M rows cols k hlt, HXR.out]
          have HPP := hid (And.intro hM hB)
          clear q4 ha hF hM hB HE2
          go_wp2_with (at_builtin; refine wpList_append_row rfl _ _ rfl _ _ _ _ _ _ _ _ _ _ rfl rfl q1 q2 q3 (Nat.le_refl _) hsz hkl HQ4.out ?_; intro v' w' hF' hg hn)
          have ht := push_row_post HPP.out.1 hg
          rw [HT.out] at hF'
          have HO : Aside (Below w.heap.size w w' ∧ w.heap.size ≤ w'.heap.size) := ⟨HPP.out.2.trans (ht.below (Nat.le_refl _) (by omega)), by have := ht.size; omega⟩
          clear HPP hg hn ht q1 q2 q3
          go_roundg (rows.length - (k + 1))
          case rel => exact ⟨k + 1, by omega, rfl, by go_num, hF', HO.out⟩
          case measure => omega
    · obtain rfl : k = rows.length := by omega
      rw [List.take_length] at hm
      clear HE
      go_wp2
      go_ret
      exact ⟨_, rfl, hm, hbw⟩

theorem without_part {M : List (List Int)} {i : Nat} (hsq : sqB M M.length = true) : withoutB M i = partM M (restL M.length i 0) (restL M.length i 0) := by
  unfold withoutB partM
  refine List.map_congr_left fun r hr => dropAt_ent hsq rfl (restL_mem hr).2.1

end Go.Proofs.Ytcgcgmlonhganaa
