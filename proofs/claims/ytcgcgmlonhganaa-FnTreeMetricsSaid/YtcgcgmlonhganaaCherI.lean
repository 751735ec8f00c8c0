/- The cherries, by the program: the visitor, and the choices of two points. -/
import Derived.Test.YtcgcgmlonhganaaCherry
import Derived.Test.YtcgcgmlonhganaaPushV
import Derived.Test.YtcgcgmlonhganaaBad2
import Derived.Test.YtcgcgmlonhganaaVisitG
import Derived.Test.YtcgcgmlonhganaaWithout2
namespace Go.Proofs.Ytcgcgmlonhganaa
open Go.RowKit
open Go.Lib (hid)

/-- the list of the cherries that have come, its box behind block wp.heap.size -/
structure ChrSt (wp w : World) (lv : Value) (Z : List (Value × List Int)) : Prop where
  bel : Below wp.heap.size wp w
  bo : Boxed w (wp.heap.size + 1) 22 lv
  rows : OMat w wp.heap.size lv Z
  pool : PoolZ w (wp.heap.size + 2) w.heap.size Z
  lat : ∀ g, lv.ownBlock = some g → g = wp.heap.size ∨ wp.heap.size + 2 ≤ g
def ChrD (wp : World) (lv : Value) (Z : List (Value × List Int)) (b : Nat) : Prop := b = wp.heap.size + 1 ∨ lv.ownBlock = some b ∨ ∃ z ∈ Z, z.1.ownBlock = some b
def VChr (wp : World) (s : List (List Int)) (w : World) (D : Nat → Prop) : Prop := ∃ lv Z, ChrSt wp w lv Z ∧ Z.map Prod.snd = s ∧ ∀ b, D b ↔ ChrD wp lv Z b

theorem ChrSt.lt {wp w : World} {lv : Value} {Z : List (Value × List Int)} (s : ChrSt wp w lv Z) : wp.heap.size + 2 ≤ w.heap.size := s.bo.lt
theorem ChrSt.keep {wp w w' : World} {lv : Value} {Z : List (Value × List Int)} (s : ChrSt wp w lv Z) (hb : Below w.heap.size w w') : ChrSt wp w' lv Z where
  bel := s.bel.trans (hb.mono s.bel.size)
  bo := (hb.block _ s.bo.lt).trans s.bo
  rows := s.rows.keep hb
  pool := (s.pool.keep hb).mono (Nat.le_refl _) hb.size
  lat := s.lat
theorem ChrD.lt {wp w : World} {lv : Value} {Z : List (Value × List Int)} (s : ChrSt wp w lv Z) {b : Nat} (h : ChrD wp lv Z b) : b < w.heap.size := by
  have := s.lt
  rcases h with h | h | ⟨z, hz, h⟩
  · omega
  · exact (s.rows.lt b h).2
  · exact (s.pool.1 z hz).2 b h
theorem VChr.frame {wp : World} {s : List (List Int)} {w w' : World} {D : Nat → Prop} (h : VChr wp s w D) (hk : KeepOn (fun b => b < wp.heap.size + 2 ∨ D b) w w') : VChr wp s w' D := by
  obtain ⟨lv, Z, h1, h2, h3⟩ := h
  have hlt := h1.lt
  refine ⟨lv, Z, ⟨h1.bel.trans (hk.below (fun b hb => .inl (by omega)) (by omega)), (hk.block _ h1.bo.lt (.inl (by omega))).trans h1.bo, own_same h1.rows (fun g hg => hk.block g (h1.rows.lt g hg).2 (.inr ((h3 g).2 (.inr (.inl hg))))), ?_, h1.lat⟩, h2, h3⟩
  exact (h1.pool.same (fun z hz g hg => hk.block g ((h1.pool.1 z hz).2 g hg) (.inr ((h3 g).2 (.inr (.inr ⟨z, hz, hg⟩)))))).mono (Nat.le_refl _) hk.size

theorem poolOne {w : World} {lo hi : Nat} {v : Value} {xs : List Int} (h : FInts w lo hi v xs) : PoolZ w lo hi [(v, xs)] := ⟨fun z hz => by rw [List.mem_singleton] at hz; subst hz; exact h, List.pairwise_singleton _ _⟩
/-- a row is appended -/
theorem ChrSt.push {wp w w1 : World} {lv lv1 u : Value} {Z : List (Value × List Int)} {xs : List Int} {mid : Nat} (s : ChrSt wp w lv Z) (hZ : PoolZ w (wp.heap.size + 2) mid Z) (hu : FInts w mid w.heap.size u xs) (hm : wp.heap.size + 2 ≤ mid) (hmw : mid ≤ w.heap.size) {o : Obj}
    (hO : OMat w1 wp.heap.size lv1 (Z ++ [(u, xs)])) (hg : (w.alloc o).grownBy w1 lv.ownBlock) (hat : lv1.ownBlock = lv.ownBlock ∨ lv1.ownBlock = some (w.heap.size + 1)) :
    (w1.cell? ⟨wp.heap.size + 1, 0, none⟩ = some lv ∧ w1.frozen? ⟨wp.heap.size + 1, 0, none⟩ = false) ∧ ChrSt wp (w1.setCell ⟨wp.heap.size + 1, 0, none⟩ lv1) lv1 (Z ++ [(u, xs)]) ∧
      KeepOn (fun c => ¬ ChrD wp lv Z c) w (w1.setCell ⟨wp.heap.size + 1, 0, none⟩ lv1) ∧ ∀ b, ChrD wp lv1 (Z ++ [(u, xs)]) b → ChrD wp lv Z b ∨ mid ≤ b := by
  have hlt := s.lt
  have hal : Below w.heap.size w (w.alloc o) := (Below.refl _ _).alloc (Nat.le_refl _) _
  have hsa : (w.alloc o).heap.size = w.heap.size + 1 := by simp
  have hz1 := hg.size
  have hsz : (w1.setCell ⟨wp.heap.size + 1, 0, none⟩ lv1).heap.size = w1.heap.size := by simp [World.setCell]
  have old1 : ∀ b, b < w.heap.size → some b ≠ lv.ownBlock → w1.heap[b]? = w.heap[b]? := fun b hb hne => (hg.block b (by omega) hne).trans (hal.block b hb)
  have nl : ∀ b, b < wp.heap.size + 2 → b ≠ wp.heap.size → some b ≠ lv.ownBlock := fun b hb h1 e => by have := s.lat b e.symm; omega
  have lat1 : ∀ g, lv1.ownBlock = some g → g = wp.heap.size ∨ wp.heap.size + 2 ≤ g := fun g hg' => by
    rcases hat with e | e
    · exact s.lat g (e ▸ hg')
    · rw [e] at hg'; cases hg'; omega
  have hb2 : Boxed w1 (wp.heap.size + 1) 22 lv := (old1 _ (by omega) (nl _ (by omega) (by omega))).trans s.bo
  have hp1 : PoolZ w1 (wp.heap.size + 2) w1.heap.size (Z ++ [(u, xs)]) := by
    have hpz : PoolZ w (wp.heap.size + 2) w.heap.size (Z ++ [(u, xs)]) := hZ.append (poolOne hu) hm hmw
    exact ((hpz.keep hal).grown (s.rows.keep hal) hg).mono (Nat.le_refl _) (by omega)
  have hkk : KeepOn (fun c => ¬ ChrD wp lv Z c) w (w1.setCell ⟨wp.heap.size + 1, 0, none⟩ lv1) :=
    ((KeepOn.of_below (w' := w.alloc o) hal).trans (KeepOn.of_grown hg (fun _ hb hS => hS (.inr (.inl hb))))).trans (KeepOn.set _ _ _ (fun hS => hS (.inl rfl)))
  refine ⟨⟨hb2.cell, hb2.frozen⟩, ⟨s.bel.trans (hkk.below (fun b hb hS => ?_) (by omega)), hb2.set _, own_same hO (fun g hg' => heap_setCell_other _ _ _ _ (by have := lat1 g hg'; show g ≠ wp.heap.size + 1; omega)), ?_, lat1⟩, hkk, ?_⟩
  · rcases hS with e | e | ⟨z, hz, e⟩
    · omega
    · have := s.lat b e; omega
    · have := ((s.pool.1 z hz).1.lt b e).1; omega
  · rw [hsz]
    exact hp1.same (fun z hz g hg' => heap_setCell_other _ _ _ _ (by have := ((hp1.1 z hz).1.lt g hg').1; show g ≠ wp.heap.size + 1; omega))
  · rintro b (e | e | ⟨z, hz, e⟩)
    · exact .inl (.inl e)
    · rcases hat with e2 | e2
      · exact .inl (.inr (.inl (e2 ▸ e)))
      · rw [e2] at e; cases e; exact .inr (by omega)
    · rcases List.mem_append.1 hz with h | h
      · exact .inl (.inr (.inr ⟨z, h, e⟩))
      · rw [List.mem_singleton] at h; subst h; exact .inr (hu.1.lt b e).1

/-- f for all from i on, below n -/
def foldH {σ : Type} (f : Nat → σ → σ) : Nat → Nat → σ → σ
  | 0, _, a => a
  | m + 1, i, a => foldH f m (i + 1) (f i a)
def foldG {σ : Type} (n i : Nat) (f : Nat → σ → σ) (a : σ) : σ := foldH f (n - i) i a
theorem foldG_ge {σ : Type} {n i : Nat} (f : Nat → σ → σ) (a : σ) (h : n ≤ i) : foldG n i f a = a := by rw [foldG, show n - i = 0 by omega]; rfl
theorem foldG_lt {σ : Type} {n i : Nat} (f : Nat → σ → σ) (a : σ) (h : i < n) : foldG n i f a = foldG n (i + 1) f (f i a) := by
  rw [foldG, foldG, show n - i = (n - (i + 1)) + 1 by omega]; rfl
theorem loopR_foldG {σ : Type} {f : Nat → σ → Bool × σ} {g : Nat → σ → σ} {n : Nat} : ∀ (m i : Nat) (s : σ), i + m = n → (∀ j s, i ≤ j → j < n → f j s = (true, g j s)) → loopR f m i s = (true, foldG n i g s) := by
  intro m
  induction m with
  | zero => intro i s hi _; rw [loopR_zero, foldG_ge _ _ (by omega)]
  | succ m ih =>
    intro i s hi hq
    have h1 := hq i s (Nat.le_refl _) (by omega)
    rw [loopR_yes (by rw [h1]), h1, foldG_lt _ _ (by omega)]
    exact ih (i + 1) _ (by omega) (fun j s h2 h3 => hq j s (by omega) h3)
def stepCh (M : List (List Int)) (s : List (List Int)) (xs : List Int) : List (List Int) := if cheP M (xs.getD 0 0).toNat (xs.getD 1 0).toNat then s ++ [xs] else s
theorem fold_filter {β : Type} (p : Nat → Bool) (g : Nat → β) (n : Nat) : ∀ (m k : Nat) (s : List β), k + m = n → foldG n k (fun j s => if p j then s ++ [g j] else s) s = s ++ ((List.range' k m).filter p).map g := by
  intro m
  induction m with
  | zero => intro k s h; rw [foldG_ge _ _ (by omega)]; simp
  | succ m ih =>
    intro k s h
    rw [foldG_lt _ _ (by omega), ih (k + 1) _ (by omega), List.range'_succ, List.filter_cons]
    cases p k <;> simp
theorem fold_flat {β : Type} (g : Nat → List β) (n : Nat) : ∀ (m k : Nat) (s : List β), k + m = n → foldG n k (fun j s => s ++ g j) s = s ++ (List.range' k m).flatMap g := by
  intro m
  induction m with
  | zero => intro k s h; rw [foldG_ge _ _ (by omega)]; simp
  | succ m ih =>
    intro k s h
    rw [foldG_lt _ _ (by omega), ih (k + 1) _ (by omega), List.range'_succ, List.flatMap_cons]
    simp

/-- one point's cherries, appended -/
def cheK (M : List (List Int)) (i j : Nat) (s : List (List Int)) : List (List Int) := if cheP M i j then s ++ [[(i : Int), (j : Int)]] else s
def cheI (M : List (List Int)) (i : Nat) (s : List (List Int)) : List (List Int) := foldG M.length (i + 1) (cheK M i) s
theorem cheI_eq (M : List (List Int)) {i : Nat} (hi : i < M.length) (s : List (List Int)) : cheI M i s = s ++ ((List.range' (i + 1) (M.length - (i + 1))).filter (cheP M i)).map fun (j : Nat) => [(i : Int), (j : Int)] :=
  fold_filter (cheP M i) (fun j => [(i : Int), (j : Int)]) M.length _ (i + 1) s (by omega)
theorem foldG_congr {β : Type} {f g : Nat → β → β} (n : Nat) : ∀ (m k : Nat) (s : β), k + m = n → (∀ j s, k ≤ j → j < n → f j s = g j s) → foldG n k f s = foldG n k g s := by
  intro m
  induction m with
  | zero => intro k s h _; rw [foldG_ge _ _ (by omega), foldG_ge _ _ (by omega)]
  | succ m ih =>
    intro k s h hh
    rw [foldG_lt f _ (by omega), foldG_lt g _ (by omega), hh k s (Nat.le_refl _) (by omega), ih (k + 1) _ (by omega) (fun j s h1 h2 => hh j s (by omega) h2)]
theorem cheL_fold (M : List (List Int)) : foldG M.length 0 (cheI M) [] = cheL M := by
  rw [foldG_congr M.length M.length 0 [] (by omega) (fun j s _ hj => cheI_eq M hj s), fold_flat _ M.length M.length 0 [] (by omega), cheL, List.range_eq_range']
  rfl
theorem nextR_che (M : List (List Int)) : nextR (fun (_ : List (List Int)) _ => true) (stepCh M) M.length 2 M.length 0 [] [] = (true, cheL M) := by
  rw [nextR_loop _ _ (by simp) (by omega), ← cheL_fold]
  refine loopR_foldG _ _ _ (by omega) (fun j s _ hj => ?_)
  rw [nextR_loop _ _ (by simp) (by omega)]
  refine (loopR_foldG (g := cheK M j) _ _ _ (by omega) (fun k s hk0 hk => ?_)).trans rfl
  rw [nextR_yes _ _ (by simp)]
  simp [stepCh, cheK]

theorem cheL_len (M : List (List Int)) (h : M.length ≤ 1000) : (cheL M).length ≤ 1000000 := by
  unfold cheL
  rw [List.length_flatMap]
  have h1 : ∀ i ∈ List.range M.length, ((fun i => (((List.range' (i + 1) (M.length - (i + 1))).filter (cheP M i)).map fun (j : Nat) => [(i : Int), (j : Int)]).length) i) ≤ 1000 := by
    intro i _
    simp only [List.length_map]
    exact Nat.le_trans (List.length_filter_le _ _) (by simp; omega)
  have h2 : ∀ (l : List Nat) (f : Nat → Nat), (∀ i ∈ l, f i ≤ 1000) → (l.map f).sum ≤ 1000 * l.length := by
    intro l f hf
    induction l with
    | nil => simp
    | cons a t ih =>
      have := hf a (by simp)
      have := ih (fun i hi => hf i (by simp [hi]))
      simp only [List.map_cons, List.sum_cons, List.length_cons]
      omega
  have := h2 (List.range M.length) _ h1
  simp only [List.length_range] at this
  omega

set_option maxRecDepth 100000 in
set_option maxHeartbeats 4000000 in
theorem chrF_c (M : List (List Int)) (mv : Value) (bm : Nat) (wp w : World) (D : Nat → Prop) (s : List (List Int)) (hm : metB M = true) (h : RMat wp mv M) (hbm : wp.cell? ⟨bm, 0, none⟩ = some mv) (hV : VChr wp s w D) (v : Value) (i j : Nat)
    (hl : RInts w v [(i : Int), (j : Int)]) (hi : i < M.length) (hj : j < M.length) (hsl : s.length ≤ 1000000000) :
    Calls Try.prog 58 (#[v] ++ #[.pointer (some ⟨bm, 0, none⟩), .pointer (some ⟨wp.heap.size + 1, 0, none⟩)]) w (RetV (VChr wp) D w true (cheK M i j s)) := by
  show Calls Try.prog 58 #[v, .pointer (some ⟨bm, 0, none⟩), .pointer (some ⟨wp.heap.size + 1, 0, none⟩)] w _
  obtain ⟨lv, Z, hS, rfl, hD⟩ := hV
  have S := hid hS
  have HD := hid hD
  have HLV := hid hl
  have HRM := hid (h.keep hS.bel)
  have e0 := (hS.bel.cell (p := ⟨bm, 0, none⟩) (cell_lt hbm)).trans hbm
  obtain ⟨ad, lcap, rfl, l1, l2, hc⟩ := hl
  obtain ⟨gl, ol, rfl, d0⟩ := hc 0 (by simp)
  obtain ⟨g1, o1, he, d1⟩ := hc 1 (by simp)
  simp only [Option.some.injEq, Addr.mk.injEq, and_true] at he
  obtain ⟨rfl, rfl⟩ := he
  clear hc
  have d0 : w.cell? ⟨gl, ol, none⟩ = some (.int .i64 (i : Int)) := d0
  have d1 : w.cell? ⟨gl, ol + 1, none⟩ = some (.int .i64 (j : Int)) := d1
  unfold maxLen at l2
  simp only [List.length_cons, List.length_nil, Nat.reduceAdd] at l1 ⊢
  have HM := hid hm
  have hzl : Z.length + 1 ≤ 1099511627776 := by simp at hsl; omega
  have HZL := hid hzl
  obtain ⟨wq, hwq⟩ : ∃ wq : World, wq = w.drew := ⟨_, rfl⟩
  have e0 : wq.cell? ⟨bm, 0, none⟩ = some mv := by rw [hwq]; exact e0
  have d0 : wq.cell? ⟨gl, ol, none⟩ = some (.int .i64 (i : Int)) := by rw [hwq]; exact d0
  have d1 : wq.cell? ⟨gl, ol + 1, none⟩ = some (.int .i64 (j : Int)) := by rw [hwq]; exact d1
  have hbq : Below w.heap.size w wq := by rw [hwq]; exact (Below.refl _ _).drew
  have HBQ := hid hbq
  have HWQ := hid hwq
  have HSQ : Hid (wq.heap.size = w.heap.size) := by show _ = _; rw [hwq]; rfl
  clear hS hD h hbm hm hsl hzl hwq hbq
  go_enter Try.func58, Try.ntmps58
  go_wp2
  refine wp_region_still_tail 7 (by kernel_rfl) (by kernel_rfl) ?_
  change wpStill _ _ w.drew _ _ _
  rw [← HWQ.out]
  simp only [List.take_succ_cons, List.take_zero, List.drop_succ_cons, List.drop_zero]
  repeat still_step
  refine wpStill_nil ?_
  change wpList _ _ _ _ _ w.drew
  rw [← HWQ.out]
  go_wp2_with fail
  refine (isCherry_c _ M _ HM.out (HRM.out.keep HBQ.out) i j hi hj).mono ?_
  rintro e w1 ⟨rfl, hb1⟩
  have S1 := hid ((S.out.keep HBQ.out).keep hb1)
  have hbw : Below w.heap.size w w1 := HBQ.out.trans (hb1.mono (Nat.le_of_eq HSQ.out.symm))
  have HBW := hid hbw
  have HDS : Hid (RInts w1.drew (.slice (some ⟨gl, ol, none⟩) 2 lcap) [(i : Int), (j : Int)]) := HLV.out.keep hbw.drew
  have hs1 := hbw.size
  clear hb1 hbw e0 d0 d1
  rcases Bool.eq_false_or_eq_true (cheP M i j) with t | t
  · have HST : Hid (cheK M i j (Z.map Prod.snd) = Z.map Prod.snd ++ [[(i : Int), (j : Int)]]) := by show _ = _; rw [cheK, if_pos t]
    rw [t]
    have b2 := S1.out.bo.cell
    obtain ⟨al, cl, rfl⟩ := S1.out.rows.form
    have hlo1 := S1.out.lt
    go_upto_region 2 with fail
    go_region_law (first
      | (refine step_append_vals rfl (.tmp 13) (.tmp 16) rfl wp.heap.size _ Z [(.slice a5 2 c5, [(i : Int), (j : Int)])] _ _ (by simp [Act.eval]) (by simp [Act.eval]; rfl) HO5.out (by simp) (fun a j z he hz => row_cell1 _ a j z _ he hz) (by simp [Value.oneCell']) HZL.out HLO5.out ?_; intro v6 w6 hO6 hg6 hat6; clear d3; obtain ⟨⟨k1, k2⟩, hS6, hK6, hD6⟩ := S5.out.push HPZ5.out HF5.out hlo1 hsz5 hO6 hg6 (by rw [World.size_alloc] at hat6; exact hat6); obtain ⟨a6, c6, rfl⟩ : ∃ a c, v6 = .slice a (Z.length + 1) c := (by obtain ⟨a, c, e⟩ := hO6.form; exact ⟨a, c, by rw [e]; simp⟩); have HS6 := hid hS6; have HK6 := hid hK6; have HD6 := hid hD6; clear hO6 hg6 hat6 hS6 hK6 hD6)
      | (go_simp; go_at_call 60; (with_reducible refine (clone_c _ [(i : Int), (j : Int)] _ HDS.out (by simp)).mono ?_); rintro e w5 ⟨u5, rfl, hF5, hb5⟩; have d2 := (hb5.cell (p := ⟨wp.heap.size + 1, 0, none⟩) S1.out.bo.lt).trans b2; have S5 := hid (S1.out.keep (below_of_drew hb5)); obtain ⟨a5, c5, rfl⟩ := hF5.form; have HF5 := hid (show FInts w5 w1.heap.size w5.heap.size (.slice a5 2 c5) [(i : Int), (j : Int)] from hF5); have HPZ5 := hid (S1.out.pool.keep (below_of_drew hb5)); have hsz5 : w1.heap.size ≤ w5.heap.size := hb5.size; have HB5 := hid (HBW.out.trans ((show Below w1.heap.size w1 w5 from below_of_drew hb5).mono hs1)); have d3 : (w5.alloc (.cells #[.slice a5 2 c5] 24)).cell? ⟨wp.heap.size + 1, 0, none⟩ = some (.slice al Z.length cl) := (by rw [World.cell?_alloc_lt _ _ _ (cell_lt d2)]; exact d2); have HO5 := hid (S5.out.rows.keep (w' := w5.alloc (.cells #[.slice a5 2 c5] 24)) ((Below.refl _ _).alloc (Nat.le_refl _) _)); have HLO5 := hid (show wp.heap.size ≤ (w5.alloc (.cells #[.slice a5 2 c5] 24)).heap.size by rw [World.size_alloc]; omega); clear hF5))
    all_goals
      go_wp2
      go_ret
      refine ⟨_, rfl, ⟨_, _, HS6.out, by rw [HST.out, List.map_append]; rfl, fun b => Iff.rfl⟩, fun c hc => ⟨ChrD.lt HS6.out hc, ?_⟩, ?_⟩
      · exact (HD6.out c hc).imp (fun h => (HD.out c).2 h) (fun h => Nat.le_trans hs1 h)
      · exact (KeepOn.of_below HB5.out).trans (HK6.out.mono (fun b _ hb hc => hb ((HD.out b).2 hc)))
  · have HST : Hid (cheK M i j (Z.map Prod.snd) = Z.map Prod.snd) := by show _ = _; rw [cheK, if_neg (by simp [t])]
    rw [t]
    go_wp2
    go_ret
    refine ⟨D, rfl, ⟨lv, Z, S1.out, HST.out.symm, HD.out⟩, fun c hc => ⟨?_, .inl hc⟩, KeepOn.of_below HBW.out⟩
    exact Nat.lt_of_lt_of_le (ChrD.lt S.out ((HD.out c).1 hc)) hs1

theorem stepCh_len (M : List (List Int)) (s : List (List Int)) (xs : List Int) : (stepCh M s xs).length ≤ s.length + 1 := by
  unfold stepCh
  split <;> simp
theorem chr_vis (M : List (List Int)) (mv : Value) (bm : Nat) (wp : World) (hm : metB M = true) (h : RMat wp mv M) (hbm : wp.cell? ⟨bm, 0, none⟩ = some mv) :
    VisG (List (List Int)) (wp.heap.size + 2) 58 #[.pointer (some ⟨bm, 0, none⟩), .pointer (some ⟨wp.heap.size + 1, 0, none⟩)] (fun _ _ => true) (stepCh M) (VChr wp) (preC M.length 2) List.length 1000000000 where
  enter := Try.call58
  frame := fun s w w' D hv hk => hv.frame hk
  up := stepCh_len M
  call := fun s w D v xs hv hl hp hw hs => by
    obtain ⟨j, k, rfl, h1, h2⟩ := preC_two hp
    have := chrF_c M mv bm wp w D s hm h hbm hv v j k hl (by omega) h2 (by omega)
    simpa [stepCh, cheK] using this

/-- the answer of CherriesOf -/
def cherriesB (M : List (List Int)) : List (List Int) × Bool := if treeB M && decide (3 ≤ M.length) then (cheL M, true) else ([], false)
theorem cherriesB_yes {M : List (List Int)} (h : treeB M = true) (h3 : 3 ≤ M.length) : cherriesB M = (cheL M, true) := by rw [cherriesB, h, decide_eq_true h3]; rfl
theorem cherriesB_no1 {M : List (List Int)} (h : treeB M = false) : cherriesB M = ([], false) := by rw [cherriesB, h]; rfl
theorem cherriesB_no2 {M : List (List Int)} (h3 : ¬ 3 ≤ M.length) : cherriesB M = ([], false) := by rw [cherriesB, decide_eq_false h3, Bool.and_false]; rfl

set_option maxRecDepth 100000 in
set_option maxHeartbeats 2000000 in
theorem iCherriesOf_u (v : Value) (M : List (List Int)) (w : World) (h : RMat w v M) :
    Calls Try.prog 17 #[v] w (RetMatB w (cherriesB M)) := by
  have HR := hid h
  obtain ⟨a, cap, rfl, q1, q2, hc⟩ := h
  clear hc
  unfold maxLen at q2
  have hba : Below w.heap.size w (w.alloc (.cells #[.slice a M.length cap] 22)) := (Below.refl _ _).alloc (Nat.le_refl _) _
  have e0 := cell_new w (.slice a M.length cap) 22
  have H0 := hid (HR.out.keep hba)
  have HBA := hid hba
  have HE0 := hid e0
  clear hba
  go_enter Try.func17, Try.ntmps17
  go_wp2_with fail
  refine (isTreeMetric_c _ M _ H0.out).mono ?_
  rintro e w2 ⟨rfl, hb2⟩
  have e2 := (hb2.cell (p := ⟨w.heap.size, 0, none⟩) (cell_lt HE0.out)).trans HE0.out
  have HE2 := hid e2
  have HB2 := hid (HBA.out.trans (hb2.mono HBA.out.size))
  have H2 := hid (H0.out.keep hb2)
  clear hb2 e0
  rcases Bool.eq_false_or_eq_true (treeB M) with t | t
  · rw [t]
    by_cases h3 : 3 ≤ M.length
    · have h3z : ¬ (M.length : Int) < 3 := by omega
      have HM := hid (cherriesB_yes t h3)
      have htm : metB M = true := by unfold treeB at t; exact (Bool.and_eq_true _ _ ▸ t).1
      have hn7 := (metB_parts htm).2.1
      obtain ⟨W3, hW3⟩ : ∃ W3 : World, W3 = (w2.alloc (.cells #[] 24)).alloc (.cells #[.slice (some ⟨w2.heap.size, 0, none⟩) 0 0] 22) := ⟨_, rfl⟩
      have hb3 : Below w2.heap.size w2 W3 := by rw [hW3]; exact ((Below.refl _ _).alloc (Nat.le_refl _) _).alloc (by simp) _
      have hs3 : W3.heap.size = w2.heap.size + 2 := by rw [hW3]; simp
      have e4 := (hb3.cell (p := ⟨w.heap.size, 0, none⟩) (cell_lt HE2.out)).trans HE2.out
      rw [hW3] at e4
      have hS0 : ChrSt w2 W3 (.slice (some ⟨w2.heap.size, 0, none⟩) 0 0) [] := by
        refine ⟨hb3, ?_, ?_, pool_nil _ _ _, fun g hg => .inl (by simp [Value.ownBlock] at hg; exact hg.symm)⟩
        · have := Boxed.new (w2.alloc (.cells #[] 24)) 22 (.slice (some ⟨w2.heap.size, 0, none⟩) 0 0)
          rw [World.size_alloc] at this
          rw [hW3]; exact this
        · rw [hW3]; exact (omat_empty w2 w2.heap.size (Nat.le_refl _)).keep ((Below.refl _ _).alloc (Nat.le_refl _) _)
      have hv0 := chr_vis M (.slice a M.length cap) w.heap.size w2 htm H2.out HE2.out
      rw [← hs3] at hv0
      have hpow : (0 : Nat) + (M.length + 1) ^ M.length ≤ 1000000000 := by
        have h1 : (M.length + 1) ^ M.length ≤ 8 ^ M.length := Nat.pow_le_pow_left (by omega) _
        have h2 : 8 ^ M.length ≤ 8 ^ 7 := Nat.pow_le_pow_right (by omega) hn7
        have h3 : (8 : Nat) ^ 7 = 2097152 := by decide
        omega
      have hcall := choicesG_c M.length 2 (by omega) (by omega) [] (ChrD w2 (.slice (some ⟨w2.heap.size, 0, none⟩) 0 0) []) W3 hv0 (fun xs h1 h2 h3 => ⟨h1, h2, h3⟩) ⟨_, _, hS0, rfl, fun b => Iff.rfl⟩ (fun b hb => ChrD.lt hS0 hb) hpow
      rw [nextR_che M, hW3] at hcall
      have HCALL := hid hcall
      have HB3 := hid (HB2.out.trans (hb3.mono HB2.out.size))
      have HS2 := hid HB2.out.size
      clear hcall hpow hv0 hS0 hb3 hs3
      go_wp2_with fail
      refine HCALL.out.mono ?_
      rintro e w3 ⟨D1, rfl, ⟨lv, Z, hS, hZ, _⟩, hD1, hk1⟩
      have e5 := hS.bo.cell
      have HB4 := hid (HB2.out.trans (hS.bel.mono HB2.out.size))
      have hF : FMat w3 w2.heap.size w3.heap.size lv (Z.map Prod.snd) := hS.rows.f (fun g hg => (hS.rows.lt g hg).2) (hS.pool.mono (by omega) (Nat.le_refl _))
      rw [hZ] at hF
      have HF := hid (hF.mono HS2.out (Nat.le_refl _))
      obtain ⟨al, cl, rfl⟩ := hS.rows.form
      clear hS hZ hD1 hk1 hF hW3 e4
      go_wp2
      go_ret2
      exact ⟨_, by rw [HM.out]; rfl, by rw [HM.out]; exact HF.out, HB4.out⟩
    · have h3z : (M.length : Int) < 3 := by omega
      have HM := hid (cherriesB_no2 h3)
      go_wp2
      go_ret2
      exact retMatB_no HB2.out HM.out _ rfl
  · rw [t]
    have HM := hid (cherriesB_no1 t)
    go_wp2
    go_ret2
    exact retMatB_no HB2.out HM.out _ rfl

end Go.Proofs.Ytcgcgmlonhganaa
