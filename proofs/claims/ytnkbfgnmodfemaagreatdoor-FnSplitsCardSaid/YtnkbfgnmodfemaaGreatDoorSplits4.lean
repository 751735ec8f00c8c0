/- The splits of a tree metric, by the program: from the start. -/
import Derived.Test.YtnkbfgnmodfemaaGreatDoorSplits3
namespace Go.Proofs.YtnkbfgnmodfemaaGreatDoor
open Go.RowKit
open Go.Lib (hid)

/-- the boxes of splits, before all splits are asked for -/
structure SpPre (wp : World) (mv : Value) (w : World) (lv uv : Value) : Prop where
  bel : Below wp.heap.size wp w
  bm : Boxed w wp.heap.size 23 mv
  bl : Boxed w (wp.heap.size + 3) 23 lv
  bu : Boxed w (wp.heap.size + 4) 27 uv
  rows : OMat w (wp.heap.size + 1) lv []
  lens : FInts w (wp.heap.size + 2) w.heap.size uv []
  lat : lv.ownBlock = some (wp.heap.size + 1)
  uat : uv.ownBlock = some (wp.heap.size + 2)
  size : w.heap.size = wp.heap.size + 5

theorem SpPre.start {wp w : World} {n : Nat} {mv lv uv : Value} (s : SpPre wp mv w lv uv) :
    SpSt wp n mv (((w.alloc (.cells #[.int .i64 n] 3)).alloc (.cells #[.func (.func 58) #[] #[.pointer (some ⟨wp.heap.size, 0, none⟩), .pointer (some ⟨wp.heap.size + 3, 0, none⟩), .pointer (some ⟨wp.heap.size + 4, 0, none⟩)]] 71)).alloc
      (.cells #[.func (.func 82) #[] #[.pointer (some ⟨wp.heap.size + 5, 0, none⟩), .pointer (some ⟨wp.heap.size + 6, 0, none⟩), .pointer (some ⟨wp.heap.size + 7, 0, none⟩)]] 84)) lv uv [] [] := by
  have hs := s.size
  have hb : Below w.heap.size w (((w.alloc (.cells #[.int .i64 n] 3)).alloc (.cells #[.func (.func 58) #[] #[.pointer (some ⟨wp.heap.size, 0, none⟩), .pointer (some ⟨wp.heap.size + 3, 0, none⟩), .pointer (some ⟨wp.heap.size + 4, 0, none⟩)]] 71)).alloc
      (.cells #[.func (.func 82) #[] #[.pointer (some ⟨wp.heap.size + 5, 0, none⟩), .pointer (some ⟨wp.heap.size + 6, 0, none⟩), .pointer (some ⟨wp.heap.size + 7, 0, none⟩)]] 84)) :=
    (((Below.refl _ _).alloc (Nat.le_refl _) _).alloc (by simp) _).alloc (by simp; omega) _
  have look : ∀ (u : World) (o o' : Obj) (b : Nat), u.heap[b]? = some o → (u.alloc o').heap[b]? = some o := fun u o o' b hx => by
    rw [Below.heap_alloc _ _ _ (Array.getElem?_eq_some_iff.1 hx).1]; exact hx
  have new : ∀ (u : World) (o : Obj) (b : Nat), b = u.heap.size → (u.alloc o).heap[b]? = some o := fun u o b hb => by rw [hb]; exact heap_alloc_new u o
  refine ⟨s.bel.trans (hb.mono (by omega)), (hb.block _ s.bm.lt).trans s.bm, (hb.block _ s.bl.lt).trans s.bl, (hb.block _ s.bu.lt).trans s.bu, ?_, ?_, ?_, s.rows.keep hb, (s.lens.keep hb).mono (Nat.le_refl _) hb.size, pool_nil _ _ _, fun g hg => ?_, fun g hg => ?_, fun z hz => by simp at hz, rfl⟩
  · exact look _ _ _ _ (look _ _ _ _ (new _ _ _ (by omega)))
  · exact look _ _ _ _ (new _ _ _ (by simp; omega))
  · exact new _ _ _ (by simp; omega)
  · rw [s.lat] at hg; cases hg; exact .inl rfl
  · rw [s.uat] at hg; cases hg; exact .inl rfl

set_option maxRecDepth 100000 in
set_option maxHeartbeats 2000000 in
theorem allSplits_c (wp : World) (M : List (List Int)) (mv : Value) (hm : metB M = true) (hR : RMat wp mv M) (w : World) (lv uv : Value) (s : SpPre wp mv w lv uv) :
    Calls Tryz.prog 57 #[.int .i64 M.length, .func (.func 58) #[] #[.pointer (some ⟨wp.heap.size, 0, none⟩), .pointer (some ⟨wp.heap.size + 3, 0, none⟩), .pointer (some ⟨wp.heap.size + 4, 0, none⟩)]] w
      fun e w' => e = .returned (.tuple #[]) ∧ ∃ lv' uv' : Value, ∃ Z' : List (Value × List Int), ∃ ns' : List Int, SpSt wp M.length mv w' lv' uv' Z' ns' ∧ (Z'.map Prod.snd, ns') = (sidesL (M.length - 1) 1 []).foldl (stepS M) ([], []) := by
  have S := hid s
  have hS := s.start (n := M.length)
  have hsz := s.size
  have h2 := (metB_parts hm).1
  have h7 := (metB_parts hm).2.1
  clear s
  have hpow : (2 : Nat) ^ (M.length - 1) ≤ 64 := by
    have := Nat.pow_le_pow_right (show 0 < 2 by omega) (show M.length - 1 ≤ 6 by omega)
    omega
  go_enter Tryz.func57, Tryz.ntmps57
  go_wp2_with fail
  refine (spNext_c wp M mv hm hR (M.length + 1) 1 _ [] lv uv [] [] _ (by omega) (by omega) (by simp) (by simp) (ints_nil _ _ _) (fun g hg => by simp [Value.ownBlock] at hg) hS (by simp; omega)).mono ?_
  rintro e w1 ⟨rfl, lv1, uv1, Z1, ns1, hs1, hr1, _, _⟩
  have HS1 := hid hs1
  have HR1 := hid hr1
  clear hs1 hr1 hS
  go_wp2
  go_end0
  exact ⟨rfl, lv1, uv1, Z1, ns1, HS1.out, HR1.out⟩

theorem sp_pre (w : World) (mv : Value) :
    SpPre w mv (((((w.alloc (.cells #[mv] 23)).alloc (.cells #[] 27)).alloc (.cells #[] 3)).alloc (.cells #[.slice (some ⟨w.heap.size + 1, 0, none⟩) 0 0] 23)).alloc (.cells #[.slice (some ⟨w.heap.size + 1 + 1, 0, none⟩) 0 0] 27))
      (.slice (some ⟨w.heap.size + 1, 0, none⟩) 0 0) (.slice (some ⟨w.heap.size + 1 + 1, 0, none⟩) 0 0) := by
  have look : ∀ (u : World) (o o' : Obj) (b : Nat), u.heap[b]? = some o → (u.alloc o').heap[b]? = some o := fun u o o' b hx => by
    rw [Below.heap_alloc _ _ _ (Array.getElem?_eq_some_iff.1 hx).1]; exact hx
  have new : ∀ (u : World) (o : Obj) (b : Nat), b = u.heap.size → (u.alloc o).heap[b]? = some o := fun u o b hb => by rw [hb]; exact heap_alloc_new u o
  have ba : ∀ (u : World) (o : Obj), Below u.heap.size u (u.alloc o) := fun u o => (Below.refl _ _).alloc (Nat.le_refl _) o
  refine ⟨(((((Below.refl _ _).alloc (Nat.le_refl _) _).alloc (by simp) _).alloc (by simp; omega) _).alloc (by simp; omega) _).alloc (by simp; omega) _, ?_, ?_, ?_, ?_, ?_, rfl, rfl, by simp⟩
  · exact look _ _ _ _ (look _ _ _ _ (look _ _ _ _ (look _ _ _ _ (new _ _ _ rfl))))
  · exact look _ _ _ _ (new _ _ _ (by simp))
  · exact new _ _ _ (by simp)
  · have h1 := omat_empty (w.alloc (.cells #[mv] 23)) (w.heap.size + 1) (by simp)
    have h2 := ((h1.keep (ba _ (.cells #[] 3))).keep (ba _ (.cells #[.slice (some ⟨w.heap.size + 1, 0, none⟩) 0 0] 23))).keep (ba _ (.cells #[.slice (some ⟨w.heap.size + 1 + 1, 0, none⟩) 0 0] 27))
    simpa using h2
  · have h1 := ints_empty ((w.alloc (.cells #[mv] 23)).alloc (.cells #[] 27)) (w.heap.size + 2) (by simp)
    have h2 := (h1.keep (ba _ (.cells #[.slice (some ⟨w.heap.size + 1, 0, none⟩) 0 0] 23))).keep (ba _ (.cells #[.slice (some ⟨w.heap.size + 1 + 1, 0, none⟩) 0 0] 27))
    have h3 := h2.mono (Nat.le_refl _) (show _ ≤ (((((w.alloc (.cells #[mv] 23)).alloc (.cells #[] 27)).alloc (.cells #[] 3)).alloc (.cells #[.slice (some ⟨w.heap.size + 1, 0, none⟩) 0 0] 23)).alloc (.cells #[.slice (some ⟨w.heap.size + 1 + 1, 0, none⟩) 0 0] 27)).heap.size by simp)
    simpa using h3

theorem fold_steps (M : List (List Int)) : ∀ (L A : List (List Int)) (B : List Int), L.foldl (stepS M) (A, B) = (A ++ L.filter (splitP M), B ++ (L.filter (splitP M)).map (lenF M)) := by
  intro L
  induction L with
  | nil => intro A B; simp
  | cons x xs ih =>
    intro A B
    rw [List.foldl_cons]
    by_cases h : 0 < lenF M x
    · rw [stepS_yes h, ih, filter_yes (decide_eq_true h)]; simp
    · rw [stepS_no h, ih, filter_no (decide_eq_false h)]

set_option maxRecDepth 100000 in
set_option maxHeartbeats 2000000 in
theorem splits_c (v : Value) (M : List (List Int)) (w : World) (hm : metB M = true) (h : RMat w v M) :
    Calls Tryz.prog 27 #[v] w fun e w' => ∃ u1 u2, e = .returned (.tuple #[u1, u2]) ∧ FMat w' w.heap.size w'.heap.size u1 (splL M) ∧ FInts w' w.heap.size w'.heap.size u2 ((splL M).map (lenF M)) ∧ Below w.heap.size w w' := by
  have HM := hid hm
  have HR := hid h
  obtain ⟨a, cap, rfl, q1, q2, hc⟩ := h
  clear hc
  unfold maxLen at q2
  go_enter Tryz.func27, Tryz.ntmps27
  go_wp2_with fail
  refine (allSplits_c w M _ HM.out HR.out _ _ _ (sp_pre w _)).mono ?_
  rintro e w1 ⟨rfl, lv, uv, Z, ns, hs, hr⟩
  rw [fold_steps, List.nil_append, List.nil_append] at hr
  have h1 : Z.map Prod.snd = splL M := congrArg Prod.fst hr
  have h2 : ns = (splL M).map (lenF M) := congrArg Prod.snd hr
  subst h2
  have H1 := hid h1
  have S := hid hs
  have e3 := hs.bl.cell
  have e4 := hs.bu.cell
  clear hs hr h1
  go_wp2
  go_quiet (fail)
  go_wp2
  go_ret2
  refine ⟨_, _, rfl, ?_, (S.out.lens.mono (by omega) (Nat.le_refl _)).drewN, below_dn2 S.out.bel _⟩
  rw [← H1.out]
  exact (OMat.f (S.out.rows.mono (by omega)) (fun g hg => (S.out.rows.lt g hg).2) (S.out.pool.mono (by omega) (Nat.le_refl _))).drewN

end Go.Proofs.YtnkbfgnmodfemaaGreatDoor
