/- Contracts and plain theory under the law LawFnPileCounts. -/
import Derived.Test.YtifdhapaonideaaOwn
import Derived.Lib.AppendZerosOnto
import Derived.Lib.SliceRun
import Derived.Test.YtifdhapaonideaaPileI4
import Derived.RangeFuncBox
import Derived.Laws.EntriesVeiled
import Derived.Deep.RegionLaw
import Derived.Deep.CutRange
import Derived.Test.YtifdhapaonideaaCntD
import Derived.Test.YtifdhapaonideaaCntT
import Derived.Test.YtifdhapaonideaaPileD
import Derived.Test.YtifdhapaonideaaPileU
import Derived.Deep.RegionHeld3
/- slices.Grow at the nil slice, slices.Concat of few rows. -/
namespace Go.Proofs.Ytifdhapaonideaa
open Go.RowKit
open Go.Lib (hid)

/-- a new slice without elements that has room -/
theorem ints_room (w : World) (cur : Array Value) (G : Nat) (hs : cur.size = G) (hG : G ≤ maxLen) : FInts (w.alloc (.cells cur 3)) w.heap.size (w.heap.size + 1) (.slice (some ⟨w.heap.size, 0, none⟩) 0 G) [] :=
  ⟨⟨rfl, .inr ⟨w.heap.size, G, cur, rfl, Nat.le_refl _, heap_alloc_new w _, Nat.zero_le _, hG, by omega, by simp⟩⟩, fun g hg => by simp [Value.ownBlock] at hg; omega⟩

set_option maxRecDepth 100000 in
set_option maxHeartbeats 4000000 in
theorem grow_c (n : Nat) (w : World) (hn : n ≤ 1048576) :
    Calls Try.prog 104 #[.slice none 0 0, .int .i64 n] w (RetInts w []) := by
  obtain ⟨i0, hi0, hz0, hz1, hz2⟩ := info_parts Try.infoInt
  by_cases h0 : n = 0
  · subst h0
    have h1 : ¬ ((0 : Int) < 0) := by omega
    go_enter Try.func104, Try.ntmps104
    go_wp2
    go_ret
    exact ⟨_, rfl, ints_nil _ _ _, Below.refl _ _⟩
  · have h1 : ¬ ((n : Int) < 0) := by omega
    have h3 : IntKind.i64.wrap (n : Int) = n := IntWalk.i64_in _ (by omega)
    have h4 : (n : Int) > 0 := by omega
    have hold : (Builtin.firstCells i0.size 0 (.slice none 0 0)).run Try.prog w.drew = .ok (([] : List Value).toArray) w.drew := run_firstCells_none w.drew i0.size 0 0 0
    have hrz : ∀ ty, (Builtin.append_ #[25, 3] ty #[.slice none 0 0, .int .i64 (n : Int)]).run Try.prog w =
      .ok (.slice (some ⟨w.heap.size, 0, none⟩) n (grownCap w n 0 3)) (w.drew.alloc (.cells (Builtin.zeroCells (Value.int .i64 0).cells n ++ Builtin.zeroCells (Value.int .i64 0).cells (grownCap w n 0 3 - n)) 3)) := fun ty => by
      have h := Lib.run_append_grow_zeros w 25 3 ty 3 i0 (.int .i64 0) .i64 .i64 Try.underlying25 Try.underlying3 hi0 hz0 none 0 0 [] hold n (by omega) (by rw [hz1]; decide) (by omega) (by omega) (by rw [hz2]; omega)
        (growslice_fits (by omega) (by rw [hz2]; omega))
      simpa using h
    have hGn : n ≤ grownCap w n 0 3 := grownCap_ge w _ _ _
    have hG63 := grownCap_le_maxLen w n 0 3 (by unfold maxLen; omega)
    have hzc : ∀ k, (Builtin.zeroCells (Value.int .i64 0).cells k).size = k := fun k => by simp [Builtin.zeroCells, Value.cells]
    obtain ⟨G, hG⟩ : ∃ G, G = grownCap w n 0 3 := ⟨_, rfl⟩
    rw [← hG] at hrz hGn hG63
    have HF := hid (ints_room w.drew (Builtin.zeroCells (Value.int .i64 0).cells n ++ Builtin.zeroCells (Value.int .i64 0).cells (G - n)) G (by rw [Array.size_append, hzc, hzc]; omega) hG63)
    have hG64 : G ≤ 9223372036854775807 := by unfold maxLen at hG63; omega
    clear hold hG hzc hi0 hz0 hz1 hz2 hG63
    go_enter Try.func104, Try.ntmps104
    go_wp2_with (at_builtin; refine Lib.wpList_append_run _ rfl _ _ _ _ rfl _ _ rfl rfl _ _ (hrz _) ?_)
    all_goals go_ret
    all_goals exact ⟨_, rfl, HF.out.mono (Nat.le_refl _) (by simp), ((Below.refl _ _).drew).alloc (by simp) _⟩

theorem flat_succ (M : List (List Int)) {k : Nat} (h : k < M.length) : (M.take (k + 1)).flatten = (M.take k).flatten ++ M.getD k [] := by
  rw [take_succ_getD M k h, List.flatten_append]; simp
theorem flat_small {M : List (List Int)} (h : ∀ r ∈ M, r.length ≤ 1000) : M.flatten.length ≤ 1000 * M.length := by
  induction M with
  | nil => simp
  | cons x xs ih =>
    have h1 := h x (by simp)
    have h2 := ih (fun r hr => h r (by simp [hr]))
    rw [List.flatten_cons, List.length_append, List.length_cons]; omega

set_option maxRecDepth 100000 in
set_option maxHeartbeats 4000000 in
theorem concat_c (v : Value) (M : List (List Int)) (w : World) (h : RMat w v M) (hl : M.length ≤ 8) (hr : ∀ r ∈ M, r.length ≤ 1000) :
    Calls Try.prog 93 #[v] w (RetInts w M.flatten) := by
  obtain ⟨a, cap, rfl, h1, h2, hc⟩ := h
  unfold maxLen at h2
  have HC := hid hc
  have HR := hid hr
  have hfl : ∀ k, (M.take k).flatten.length ≤ 8000 := fun k => by
    have h3 := flat_small (M := M.take k) (fun r hr' => hr r (List.mem_of_mem_take hr'))
    have h4 : (M.take k).length ≤ 8 := by rw [List.length_take]; omega
    omega
  have HFL := hid hfl
  clear hr hc hfl
  go_enter Try.func93, Try.ntmps93
  go_wp2
  go_loop [3, 11] (fun s i => ∃ k : Nat, ∃ q : Int, k ≤ M.length ∧ i = .int .i64 k ∧ s = .int .i64 q ∧ Hid (q = (M.take k).flatten.length) ∧ 0 ≤ q ∧ q ≤ 8000) (fun _ i => M.length - (intOf i).toNat)
  case atStart => exact ⟨0, 0, Nat.zero_le _, rfl, rfl, hid (by simp), by omega, by omega⟩
  case round =>
    obtain ⟨k, q, hk, rfl, rfl, HQ, hq0, hq8⟩ := hrel
    by_cases hlt : k < M.length
    · obtain ⟨g, o, r, y, rfl, hkc, hy, HD, HX⟩ := mat_at HC.out hlt
      obtain ⟨ar, cr, rfl, -, -, -⟩ := id hy
      have hq' : q + y.length = (M.take (k + 1)).flatten.length := by rw [flat_succ M hlt, List.length_append, HX.out, HQ.out]; omega
      have hq9 := HFL.out (k + 1)
      rw [show ((M.take (k + 1)).flatten.length) = (q + y.length).toNat by omega] at hq9
      have hkz : (k : Int) < (M.length : Int) := by omega
      have HQ' := hid hq'
      have hyl : q + (y.length : Int) ≤ 8000 := by omega
      have f1 : IntKind.i64.wrap (q + (y.length : Int)) = q + (y.length : Int) := IntWalk.i64_in _ (by omega)
      have hn0 : ¬ (q + (y.length : Int) < 0) := by omega
      clear hy hq' hq9
      go_wp2
      go_round
      case rel => exact ⟨k + 1, q + y.length, by omega, by go_num, rfl, HQ', by omega, by omega⟩
      case measure => simp [intOf]; omega
    · have hkn : k = M.length := by omega
      have HN := hid hkn
      obtain ⟨Q, hQ⟩ : ∃ Q : Nat, q = Q := ⟨q.toNat, by omega⟩
      subst hQ
      clear hkn
      go_wp2_with fail
      refine (grow_c Q w (by omega)).mono ?_
      rintro e w1 ⟨u, rfl, hF1, hb1⟩
      obtain ⟨a1, c1, rfl⟩ := hF1.form
      have HF1 := hid hF1
      have HB1 := hid hb1
      clear hF1 hb1
      go_wp2
      go_loopg [6, 27] M.length (fun gk out i wr => ∃ j : Nat, j ≤ M.length ∧ gk = M.length - j ∧ i = .int .i64 j ∧ FInts wr w.heap.size wr.heap.size out (M.take j).flatten ∧ Below w.heap.size w wr)
      case atStart => exact ⟨0, Nat.zero_le _, rfl, rfl, HF1.out, HB1.out⟩
      case round =>
        obtain ⟨j, hj, rfl, rfl, hF, hb⟩ := hrel
        by_cases hltj : j < M.length
        · obtain ⟨g, o, r, y, rfl, hkc, hy, HD, HX⟩ := mat_at HC.out hltj
          have hyr := hy.keep hb
          obtain ⟨ar, cr, rfl, -, -, -⟩ := id hy
          have e1 := (hb.cell (p := ⟨g, o + j, none⟩) (cell_lt hkc)).trans hkc
          have HYR := hid hyr
          have HB := hid hb
          have HT : Hid ((M.take j).flatten ++ y = (M.take (j + 1)).flatten) := by show _ = _; rw [flat_succ M hltj, HX.out]
          have hll : (M.take j).flatten.length + y.length ≤ 1099511627776 := by
            have h3 := HFL.out (j + 1)
            rw [flat_succ M hltj, List.length_append, HX.out] at h3
            omega
          have HLL := hid hll
          have hsb := hb.size
          have hjz : (j : Int) < (M.length : Int) := by omega
          obtain ⟨ao, co, rfl⟩ := hF.form
          have HF := hid hF
          clear hy hyr hkc hb hll hF HD
          go_wp2_with (at_builtin; refine wpList_append_ints rfl _ _ rfl w.heap.size _ _ _ ((M.take j).flatten) y rfl rfl HF.out HYR.out HLL.out hsb ?_; intro v' w' hF' hg hn)
          have hB' := HB.out.grown hg hsb (fun k hk => (HF.out.1.lt k hk).1)
          rw [HT.out] at hF'
          go_roundg (M.length - (j + 1))
          case rel => exact ⟨j + 1, by omega, rfl, by go_num, hF', hB'⟩
          case measure => omega
        · obtain rfl : j = M.length := by omega
          rw [List.take_length] at hF
          obtain ⟨ao, co, rfl⟩ := hF.form
          have HF := hid hF
          have HB := hid hb
          clear hF hb
          go_wp2
          go_ret
          exact ⟨_, rfl, HF.out, HB.out⟩
end Go.Proofs.Ytifdhapaonideaa

/- Piles: the program's list of all recurrent piles: the function value that calls itself. -/
namespace Go.Proofs.Ytifdhapaonideaa
open Go.RowKit
open Go.Lib (hid)

/-- the blocks of recurrent, and what they hold -/
structure PsSt (h n q p : Nat) (L : List Lnk) (w : World) (lv : Value) (Z : List (Value × List Int)) (f : Nat → Int) : Prop where
  gr : RG w (.pointer (some ⟨p, 0, none⟩)) n L
  far : ∀ w', Same 0 h w w' → w.heap.size ≤ w'.heap.size → RG w' (.pointer (some ⟨p, 0, none⟩)) n L
  bt : w.heap[h]? = some (.cells #[.pointer (some ⟨p, 0, none⟩), .int .i64 q] 54 (0, 0))
  bo : Boxed w (h + 2) 44 lv
  bd : Boxed w (h + 4) 25 (.slice (some ⟨h + 3, 0, none⟩) n n)
  bx : Boxed w (h + 5) 94 (.func (.func 83) #[] #[.pointer (some ⟨h, 0, none⟩), .pointer (some ⟨h + 4, 0, none⟩), .pointer (some ⟨h + 2, 0, none⟩), .pointer (some ⟨h + 5, 0, none⟩)])
  ds : FInts w (h + 3) (h + 4) (.slice (some ⟨h + 3, 0, none⟩) n n) (lst n f)
  rows : OMat w (h + 1) lv Z
  pool : PoolZ w (h + 6) w.heap.size Z
  lat : ∀ g, lv.ownBlock = some g → g = h + 1 ∨ h + 6 ≤ g

theorem lst_putp (v : Nat) (f g : Nat → Int) (x : Int) (h : ∀ i, i < v → g i = f i) : lst (v + 1) (upd g v x) = lst v f ++ [x] := by
  rw [lst_succ, upd_self]
  congr 1
  exact lst_congr fun i hi => by rw [upd_other _ _ (by omega), h i hi]
variable {h n q p : Nat} {L : List Lnk}
theorem PsSt.lt {w : World} {lv : Value} {Z : List (Value × List Int)} {f : Nat → Int} (s : PsSt h n q p L w lv Z f) : h + 6 ≤ w.heap.size := s.bx.lt
theorem PsSt.keep {w w' : World} {lv : Value} {Z : List (Value × List Int)} {f : Nat → Int} (s : PsSt h n q p L w lv Z f) (hb : Below w.heap.size w w') : PsSt h n q p L w' lv Z f where
  gr := s.gr.keep hb
  far := fun w'' hs hz => s.far w'' (fun b h1 h2 h3 => (hs b h1 h2 (by have := hb.size; omega)).trans (hb.block b h3)) (Nat.le_trans hb.size hz)
  bt := (hb.block _ (by have := s.lt; omega)).trans s.bt
  bo := (hb.block _ s.bo.lt).trans s.bo
  bd := (hb.block _ s.bd.lt).trans s.bd
  bx := (hb.block _ s.bx.lt).trans s.bx
  ds := s.ds.keep hb
  rows := s.rows.keep hb
  pool := (s.pool.keep hb).mono (Nat.le_refl _) hb.size
  lat := s.lat
theorem PsSt.tcell {w : World} {lv : Value} {Z : List (Value × List Int)} {f : Nat → Int} (s : PsSt h n q p L w lv Z f) : w.cell? ⟨h, 0, none⟩ = some (.pointer (some ⟨p, 0, none⟩)) ∧ w.cell? ⟨h, 1, none⟩ = some (.int .i64 q) :=
  ⟨by rw [cell_of_row _ _ _ _ _ _ s.bt]; rfl, by rw [cell_of_row _ _ _ _ _ _ s.bt]; rfl⟩
/-- a number is put -/
theorem PsSt.put {w : World} {lv : Value} {Z : List (Value × List Int)} {f : Nat → Int} (s : PsSt h n q p L w lv Z f) {v : Nat} (hv : v < n) (x : Int) :
    w.cell? ⟨h + 3, v, none⟩ = some (.int .i64 (f v)) ∧ w.frozen? ⟨h + 3, v, none⟩ = false ∧ PsSt h n q p L (w.setCell ⟨h + 3, v, none⟩ (.int .i64 x)) lv Z (upd f v x) := by
  obtain ⟨hc, _, hset⟩ := fi_open s.ds
  have hst := hset v x hv
  have hsz : (w.setCell ⟨h + 3, v, none⟩ (.int .i64 x)).heap.size = w.heap.size := by simp [World.setCell]
  have hoth : ∀ b, b ≠ h + 3 → (w.setCell ⟨h + 3, v, none⟩ (.int .i64 x)).heap[b]? = w.heap[b]? := fun b hb => heap_setCell_other _ _ _ _ hb
  refine ⟨(hc v hv).1, (hc v hv).2, ⟨s.far _ (fun b _ h2 _ => hoth b (by omega)) (by rw [hsz]; exact Nat.le_refl _), fun w' hs hz => s.far w' (fun b h1 h2 h3 => (hs b h1 h2 (by rw [hsz]; exact h3)).trans (hoth b (by omega))) (by rw [hsz] at hz; exact hz),
    (hoth h (by omega)).trans s.bt, (hoth _ (by omega)).trans s.bo, (hoth _ (by omega)).trans s.bd, (hoth _ (by omega)).trans s.bx, hst.1, own_same s.rows (fun g hg => hoth g (by have := s.lat g hg; omega)), ?_, s.lat⟩⟩
  rw [hsz]
  exact s.pool.same (fun z hz g hg => hoth g (by have := ((s.pool.1 z hz).1.lt g hg).1; omega))
/-- a row is appended -/
theorem PsSt.push {w w1 : World} {lv lv1 u : Value} {Z : List (Value × List Int)} {f : Nat → Int} {xs : List Int} {mid : Nat} (s : PsSt h n q p L w lv Z f) (hZ : PoolZ w (h + 6) mid Z) (hu : FInts w mid w.heap.size u xs) (hm : h + 6 ≤ mid) (hmw : mid ≤ w.heap.size) {o : Obj}
    (hO : OMat w1 (h + 1) lv1 (Z ++ [(u, xs)])) (hg : (w.alloc o).grownBy w1 lv.ownBlock) (hat : lv1.ownBlock = lv.ownBlock ∨ lv1.ownBlock = some (w.heap.size + 1)) :
    (w1.cell? ⟨h + 2, 0, none⟩ = some lv ∧ w1.frozen? ⟨h + 2, 0, none⟩ = false) ∧ PsSt h n q p L (w1.setCell ⟨h + 2, 0, none⟩ lv1) lv1 (Z ++ [(u, xs)]) f := by
  have hlt := s.lt
  have hal : Below w.heap.size w (w.alloc o) := (Below.refl _ _).alloc (Nat.le_refl _) _
  have hsa : (w.alloc o).heap.size = w.heap.size + 1 := by simp
  have hz1 := hg.size
  have hsz : (w1.setCell ⟨h + 2, 0, none⟩ lv1).heap.size = w1.heap.size := by simp [World.setCell]
  have hlv : ∀ b, lv.ownBlock = some b → b = h + 1 ∨ h + 6 ≤ b := s.lat
  have old1 : ∀ b, b < w.heap.size → some b ≠ lv.ownBlock → w1.heap[b]? = w.heap[b]? := fun b hb hne => (hg.block b (by omega) hne).trans (hal.block b hb)
  have old : ∀ b, b < w.heap.size → some b ≠ lv.ownBlock → b ≠ h + 2 → (w1.setCell ⟨h + 2, 0, none⟩ lv1).heap[b]? = w.heap[b]? := fun b hb hne h2 => (heap_setCell_other _ _ _ _ (by show b ≠ h + 2; exact h2)).trans (old1 b hb hne)
  have nl : ∀ b, b < h + 6 → b ≠ h + 1 → some b ≠ lv.ownBlock := fun b hb h1 e => by have := hlv b e.symm; omega
  have lat1 : ∀ g, lv1.ownBlock = some g → g = h + 1 ∨ h + 6 ≤ g := fun g hg' => by
    rcases hat with e | e
    · exact s.lat g (e ▸ hg')
    · rw [e] at hg'; cases hg'; omega
  have hb2 : Boxed w1 (h + 2) 44 lv := (old1 (h + 2) (by omega) (nl _ (by omega) (by omega))).trans s.bo
  have hp1 : PoolZ w1 (h + 6) w1.heap.size (Z ++ [(u, xs)]) := by
    have hpz : PoolZ w (h + 6) w.heap.size (Z ++ [(u, xs)]) := hZ.append (pool_one hu) hm hmw
    exact ((hpz.keep hal).grown (s.rows.keep hal) hg).mono (Nat.le_refl _) (by omega)
  refine ⟨⟨hb2.cell, hb2.frozen⟩, ⟨s.far _ (fun b _ h2 _ => old b (by omega) (nl b (by omega) (by omega)) (by omega)) (by omega), fun w' hs hz => s.far w' (fun b h1 h2 h3 => (hs b h1 h2 (by omega)).trans (old b (by omega) (nl b (by omega) (by omega)) (by omega))) (by omega),
    (old h (by omega) (nl _ (by omega) (by omega)) (by omega)).trans s.bt, hb2.set _, (old _ (by omega) (nl _ (by omega) (by omega)) (by omega)).trans s.bd, (old _ (by omega) (nl _ (by omega) (by omega)) (by omega)).trans s.bx,
    s.ds.same (fun b h1 h2 h3 => old b h3 (nl b (by omega) (by omega)) (by omega)), own_same hO (fun g hg' => heap_setCell_other _ _ _ _ (by have := lat1 g hg'; show g ≠ h + 2; omega)), ?_, lat1⟩⟩
  rw [hsz]
  exact hp1.same (fun z hz g hg' => heap_setCell_other _ _ _ _ (by have := ((hp1.1 z hz).1.lt g hg').1; show g ≠ h + 2; omega))

theorem rg_heap {w w' : World} {v : Value} {n : Nat} {L : List Lnk} (hr : RG w v n L) (hz : w.heap.size ≤ w'.heap.size) (hs : ∀ b, b < w.heap.size → w'.heap[b]? = w.heap[b]?) : RG w' v n L :=
  show RG { w with heap := w'.heap } v n L from hr.keep ⟨rfl, rfl, rfl, hz, hs⟩

/-- chips below the valences -/
def preF (n : Nat) (L : List Lnk) (q v : Nat) (f : Nat → Int) : Prop := ∀ i, i < v → 0 ≤ f i ∧ f i ≤ grtV n L q i
theorem preF_pil (hP : PG n L q) {f : Nat → Int} (hp : preF n L q n f) : PilZ n q 1000 f ∧ (grL n L hP.good).Stab q f := by
  have hg := grt_pil hP
  refine ⟨⟨fun v h1 h2 => ?_, ?_⟩, fun v h1 h2 => ?_⟩
  · have := hp v h1; have := hg.1 v h1 h2; omega
  · have h3 := hp q hP.hq
    rw [hg.2] at h3
    omega
  · have h3 := hp v h1
    unfold grtV at h3
    rw [if_neg h2] at h3
    have h4 : (grL n L hP.good).val v = valV n L v := rfl
    omega
theorem preF_step {f g : Nat → Int} {v : Nat} {x : Int} (hp : preF n L q v f) (hg : ∀ i, i < v → g i = f i) (hx : 0 ≤ x ∧ x ≤ grtV n L q v) : preF n L q (v + 1) (upd g v x) := fun i hi => by
  unfold upd
  by_cases e : i = v
  · rw [if_pos e, e]; exact hx
  · rw [if_neg e, hg i (by omega)]; exact hp i (by omega)

theorem step_append_vals {w : World} {ops : Array Oper} {o : Oper} {a : Act} {K : Act → World → Prop} {E : Prop} (hgd : o.guard = none) (s x : Operand)
    (ho : o.op = .call { callee := .builtin .append, args := #[s, x], argTypes := #[44, 44] }) (lo : Nat) (v : Value) (Z Y : List (Value × List Int)) (ad : Option Addr) (c : Nat) (hs : a.eval s = v) (hx : a.eval x = .slice ad Y.length c)
    (hF : OMat w lo v Z) (hn : ad = none → Y = []) (hc : ∀ (a : Addr) (j : Nat) (z : Value × List Int), ad = some a → Y[j]? = some z → w.cell? (a.add j) = some z.1) (h1 : ∀ z ∈ Y, z.1.oneCell' = true) (hlen : Z.length + Y.length ≤ 1099511627776) (hls : lo ≤ w.heap.size)
    (h : ∀ v' w', OMat w' lo v' (Z ++ Y) → w.grownBy w' v.ownBlock → (v'.ownBlock = v.ownBlock ∨ v'.ownBlock = some w.heap.size) → K (a.put o.dst v') w') {Q : Exit → Act → World → Prop} :
    if Region.wanted o (yielded ops a.tmps) = true then Oper.wp Try.prog o a w K Q else E := by
  have hw : Region.wanted o (yielded ops a.tmps) = true := by simp [Region.wanted, hgd]
  rw [if_pos hw]
  obtain ⟨v', w', hr', h2, h3, h4⟩ := run_append_vals (c := c) o.type hF hn hc h1 hlen hls
  unfold Oper.wp execOp
  simp only [ho, resolve, invoke, builtin, Sem.run_bind, Sem.run_pure, Result.andThen_ok, List.map_toArray, List.map_cons, List.map_nil, hs, hx, hr']
  exact h v' w' h2 h3 h4
theorem row_cell1 {w : World} (u : Value) : ∀ (a : Addr) (j : Nat) (z : Value × List Int) (x : List Int), some (⟨w.heap.size, 0, none⟩ : Addr) = some a → [(u, x)][j]? = some z → (w.alloc (.cells #[u] 25)).cell? (a.add j) = some z.1 := by
  rintro a j z x he hz
  cases he
  cases j with
  | zero => simp at hz; subst hz; rw [addr_add]; exact cell_new _ _ _
  | succ j => simp at hz

/-- a call of the function value -/
def RetPs (h n q p : Nat) (L : List Lnk) (v : Nat) (f : Nat → Int) (M : List (List Int)) (e : Ending) (w' : World) : Prop :=
  e = .returned (.tuple #[]) ∧ ∃ lv Z f', PsSt h n q p L w' lv Z f' ∧ (∀ i, i < v → f' i = f i) ∧ Z.map Prod.snd = M

set_option maxRecDepth 100000 in
set_option maxHeartbeats 4000000 in
theorem recNext_leaf (hP : PG n L q) (wp : World) (f : Nat → Int) (lv : Value) (Z : List (Value × List Int)) (w : World) (s : PsSt wp.heap.size n q p L w lv Z f) (hp : preF n L q n f) (hb0 : Below wp.heap.size wp w) (hl : Z.length ≤ 1000000000) :
    Calls Try.prog 83 #[.int .i64 n, .pointer (some ⟨wp.heap.size, 0, none⟩), .pointer (some ⟨wp.heap.size + 4, 0, none⟩), .pointer (some ⟨wp.heap.size + 2, 0, none⟩), .pointer (some ⟨wp.heap.size + 5, 0, none⟩)] w
      fun e w' => RetPs wp.heap.size n q p L n f (Z.map Prod.snd ++ piM n L q (lst n f)) e w' ∧ Below wp.heap.size wp w' := by
  have hn8 := hP.good.n8
  have hn1 := hP.good.n1
  have S := hid s
  have HB := hid hb0
  obtain ⟨H, hH⟩ : ∃ H, wp.heap.size = H := ⟨_, rfl⟩
  rw [hH] at S HB ⊢
  have hlt := S.out.lt
  have hc0 : w.cell? ⟨p, 0, none⟩ = some (.int .i64 n) := by
    obtain ⟨g2, bt, vt, hgg, c0, _⟩ := S.out.gr
    simp only [Value.pointer.injEq, Option.some.injEq, Addr.mk.injEq, and_true] at hgg
    subst hgg
    exact c0
  obtain ⟨t0, t1⟩ := S.out.tcell
  have e2 := S.out.bd.cell
  obtain ⟨hpz, hst⟩ := preF_pil hP hp
  have hleaf := piM_leaf (L := L) (q := q) (lst_len n f)
  have hrec : recB n L q (fun i => (lst n f).getD i 0) = recB n L q f := by
    rw [Bool.eq_iff_iff, recB_iff hP.good, recB_iff hP.good]
    exact ⟨fun h => h.congr (fun v hv _ => lst_at f hv), fun h => h.congr (fun v hv _ => (lst_at f hv).symm)⟩
  rw [hrec] at hleaf
  have HLEAF := hid hleaf
  have HPZ := hid (And.intro hpz hst)
  have hll : (lst n f).length ≤ 1048576 := by rw [lst_len]; omega
  clear s hp hb0 hH hpz hst hleaf hrec
  go_enter Try.func83, Try.ntmps83
  go_wp2_with fail
  refine (isRecurrent_c n q p _ L f _ hP S.out.gr S.out.ds.r HPZ.out.1 HPZ.out.2).mono ?_
  rintro e w1 ⟨rfl, hb1⟩
  have S1 := hid (S.out.keep hb1)
  have HB1 := hid (HB.out.trans (hb1.mono (show H ≤ w.heap.size by omega)))
  have hs1 := hb1.size
  clear hb1 hc0 t0 t1 e2
  rcases Bool.eq_false_or_eq_true (recB n L q f) with t | t
  · have HM : Hid (piM n L q (lst n f) = [lst n f]) := by show _ = _; rw [HLEAF.out, t]; rfl
    rw [t]
    have b2 := S1.out.bo.cell
    have b4 := S1.out.bd.cell
    obtain ⟨al, cl, rfl⟩ := S1.out.rows.form
    have HDS : Hid (RInts w1.drew (.slice (some ⟨H + 3, 0, none⟩) n n) (lst n f)) := S1.out.ds.r
    have hlo1 := S1.out.lt
    have hzl : Z.length + 1 ≤ 1099511627776 := by omega
    have HZL := hid hzl
    clear hzl hl
    go_upto_region 2 with fail
    go_region_law (first
      | (refine step_append_vals rfl (.tmp 18) (.tmp 21) rfl (H + 1) _ Z [(.slice a5 (lst n f).length c5, lst n f)] _ _ (by simp [Act.eval]) (by simp [Act.eval]; rfl) HO5.out (by simp) (fun a j z he hz => row_cell1 _ a j z _ he hz) (by simp [Value.oneCell']) HZL.out HLO5.out ?_; intro v6 w6 hO6 hg6 hat6; clear d3; obtain ⟨⟨k1, k2⟩, hS6⟩ := S5.out.push HPZ5.out HF5.out hlo1 hsz5 hO6 hg6 (by rw [World.size_alloc] at hat6; exact hat6); obtain ⟨a6, c6, rfl⟩ : ∃ a c, v6 = .slice a (Z.length + 1) c := (by obtain ⟨a, c, e⟩ := hO6.form; exact ⟨a, c, by rw [e]; simp⟩); have HS6 := hid hS6; have hb6 := (HB5.out.alloc hz5 (.cells #[.slice a5 (lst n f).length c5] 25)).grown hg6 hz6 (fun g hg => by have := S5.out.lat g hg; omega); have HB6 := hid (hb6.setCell (p := ⟨H + 2, 0, none⟩) (show H ≤ H + 2 from Nat.le_add_right H 2) (.slice a6 (Z.length + 1) c6)); clear hO6 hg6 hat6 hS6 hb6)
      | (go_simp; go_at_call 72; (with_reducible refine (clone_c _ (lst n f) _ HDS.out hll).mono ?_); rintro e w5 ⟨u5, rfl, hF5, hb5⟩; have d2 := (hb5.cell (p := ⟨H + 2, 0, none⟩) S1.out.bo.lt).trans b2; have S5 := hid (S1.out.keep (below_of_drew hb5)); obtain ⟨a5, c5, rfl⟩ := hF5.form; have HF5 := hid (show FInts w5 w1.heap.size w5.heap.size (.slice a5 (lst n f).length c5) (lst n f) from hF5); have HPZ5 := hid (S1.out.pool.keep (below_of_drew hb5)); have hsz5 : w1.heap.size ≤ w5.heap.size := hb5.size; have hz5 : H ≤ w5.heap.size := Nat.le_trans (show H ≤ w1.heap.size by omega) hsz5; have HB5 := hid (HB1.out.trans ((show Below w1.heap.size w1 w5 from below_of_drew hb5).mono (show H ≤ w1.heap.size by omega))); have hz6 : H ≤ (w5.alloc (.cells #[.slice a5 (lst n f).length c5] 25)).heap.size := (by simp; omega); have d3 : (w5.alloc (.cells #[.slice a5 (lst n f).length c5] 25)).cell? ⟨H + 2, 0, none⟩ = some (.slice al Z.length cl) := (by rw [World.cell?_alloc_lt _ _ _ (cell_lt d2)]; exact d2); have HO5 := hid (S5.out.rows.keep (w' := w5.alloc (.cells #[.slice a5 (lst n f).length c5] 25)) ((Below.refl _ _).alloc (Nat.le_refl _) _)); have HLO5 := hid (show H + 1 ≤ (w5.alloc (.cells #[.slice a5 (lst n f).length c5] 25)).heap.size by rw [World.size_alloc]; omega); clear hF5))
    all_goals
      go_wp2
      refine bodyPost_ret (v := .tuple #[]) (by simp [results, Try.results83, go_sem]) rfl ?_
      exact ⟨⟨rfl, _, _, f, HS6.out, fun _ _ => rfl, by rw [HM.out, List.map_append]; rfl⟩, HB6.out⟩
  · have HM : Hid (piM n L q (lst n f) = []) := by show _ = _; rw [HLEAF.out, t]; rfl
    rw [t]
    go_wp2
    refine bodyPost_ret (v := .tuple #[]) (by simp [results, Try.results83, go_sem]) rfl ?_
    exact ⟨⟨rfl, lv, Z, f, S1.out, fun _ _ => rfl, by rw [HM.out, List.append_nil]⟩, HB1.out⟩

end Go.Proofs.Ytifdhapaonideaa

/- As many recurrent piles as spanning trees, plain. -/
namespace Go.Proofs.Ytifdhapaonideaa
open Go.RowKit

theorem cnt_zero' (K : Nat) (f : (Nat → Int) → Int) : ∀ (A : List Nat) (c : Nat → Int), (∀ c', (∀ v, v ∉ A → c' v = c v) → f c' = 0) → cnt K A c f = 0
  | [], c, h => h c (fun _ _ => rfl)
  | a :: A, c, h => sumN_zero fun k _ => cnt_zero' K f A _ fun c' hc => h c' fun v hv => by
    rw [hc v (fun hm => hv (by simp [hm])), setC, if_neg (fun e => hv (by simp [e]))]
theorem cnt_congr' (K : Nat) (f g : (Nat → Int) → Int) : ∀ (A : List Nat) (c : Nat → Int), (∀ c', (∀ v, v ∈ A → 0 ≤ c' v) → (∀ v, v ∉ A → c' v = c v) → f c' = g c') → cnt K A c f = cnt K A c g
  | [], c, h => h c (fun v hv => by simp at hv) (fun _ _ => rfl)
  | a :: A, c, h => sumN_congr fun k _ => cnt_congr' K f g A _ fun c' h0 hc => h c' (fun v hv => by
      rcases List.mem_cons.1 hv with e | e
      · by_cases hm : v ∈ A
        · exact h0 v hm
        · rw [hc v hm, setC, if_pos e]; omega
      · exact h0 v e) fun v hv => by
    rw [hc v (fun hm => hv (by simp [hm])), setC, if_neg (fun e => hv (by simp [e]))]
theorem stX_count (ms : List Int) (p : List Int → Bool) : ∀ x : Nat, (((stX ms x).filter p).length : Int) = sumN x fun k => (((stA ms).filter fun e => p ((k : Int) :: e)).length : Int)
  | 0 => by simp [stX, sumN]
  | x + 1 => by
    rw [stX_succ, List.filter_append, List.length_append, List.filter_map, List.length_map, Int.natCast_add, stX_count ms p x]; rfl
theorem getD_snoc (pre : List Int) (k : Int) : (fun j => (pre ++ [k]).getD j 0) = setC (fun j => pre.getD j 0) pre.length k := by
  funext j
  unfold setC
  by_cases e : j = pre.length
  · rw [if_pos e, e]; simp [List.getD]
  · rw [if_neg e]
    by_cases h : j < pre.length
    · simp [List.getD, List.getElem?_append, h]
    · have : ¬ j < (pre ++ [k]).length := by simp; omega
      simp [List.getD, List.getElem?_eq_none (Nat.not_lt.1 this), List.getElem?_eq_none (Nat.not_lt.1 h)]
theorem box_count {n q K : Nat} {G : Nat → Int} {P : List Int → Bool} (hq : G q = 0) (hG : ∀ v, v < n → v ≠ q → 0 ≤ G v + 1 ∧ G v + 1 ≤ K)
    (hP : ∀ c : Nat → Int, ∀ v, v < n → v ≠ q → G v < c v → P (lst n c) = false) :
    ∀ (r i : Nat) (pre : List Int), pre.length = i → i + r = n → (((stA ((List.range' i r).map G)).filter fun e => P (pre ++ e)).length : Int) = cnt K ((List.range' i r).filter fun v => !(v == q)) (fun j => pre.getD j 0) fun c => if P (lst n c) then 1 else 0
  | 0, i, pre, hi, hn => by
    have : lst n (fun j => pre.getD j 0) = pre := by
      apply List.ext_getElem
      · rw [lst_len]; omega
      · intro j h1 h2
        simp [lst, List.getD, h2]
    simp only [List.range'_zero, List.map_nil, List.filter_nil, stA, cnt, this]
    cases h : P pre <;> simp [h]
  | r + 1, i, pre, hi, hn => by
    rw [List.range'_succ, List.map_cons, stA_cons, stX_count]
    have ih : ∀ k : Nat, (((stA ((List.range' (i + 1) r).map G)).filter fun e => P (pre ++ (k : Int) :: e)).length : Int) = cnt K ((List.range' (i + 1) r).filter fun v => !(v == q)) (setC (fun j => pre.getD j 0) i k) fun c => if P (lst n c) then 1 else 0 := fun k => by
      have := box_count hq hG hP r (i + 1) (pre ++ [(k : Int)]) (by simp [hi]) (by omega)
      rw [getD_snoc, hi] at this
      simpa [List.append_assoc] using this
    rw [sumN_congr fun k _ => ih k]
    by_cases e : i = q
    · have : setC (fun j => pre.getD j 0) i ((0 : Nat) : Int) = fun j => pre.getD j 0 := by
        rw [← hi, ← getD_snoc]
        funext j
        rw [congrFun (getD_snoc pre ((0 : Nat) : Int)) j]
        unfold setC
        by_cases e : j = pre.length
        · rw [if_pos e, e]; simp [List.getD]
        · rw [if_neg e]
      rw [e, hq]
      have e2 : ((0 : Int) + 1).toNat = 1 := rfl
      rw [e2, List.filter_cons, if_neg (by simp)]
      rw [← e]
      simp only [sumN]
      rw [this]; simp
    · rw [List.filter_cons, if_pos (by simp [e])]
      simp only [cnt]
      obtain ⟨g0, g1⟩ := hG i (by omega) e
      rw [sumN_trim (n := K) (k := (G i + 1).toNat) (by omega)]
      intro k hk _
      refine cnt_zero' K _ _ _ fun c' hc => ?_
      have : c' i = k := by rw [hc i (by simp [List.mem_filter, List.mem_range']; omega), setC, if_pos rfl]
      rw [hP c' i (by omega) e (by omega)]; rfl

theorem RF_congr_d {m : Nat → Nat → Int} {A : List Nat} {b d d' : Nat → Int} (h : ∀ v ∈ A, d v = d' v) : RF m A b d ↔ RF m A b d' := by
  unfold RF
  constructor
  · rintro ⟨x, y⟩
    refine ⟨fun v hv => by rw [← h v hv]; exact x v hv, fun B hB => ?_⟩
    obtain ⟨v, hv, h1, h2⟩ := y B hB
    exact ⟨v, hv, h1, by rw [← h v hv]; exact h2⟩
  · rintro ⟨x, y⟩
    refine ⟨fun v hv => by rw [h v hv]; exact x v hv, fun B hB => ?_⟩
    obtain ⟨v, hv, h1, h2⟩ := y B hB
    exact ⟨v, hv, h1, by rw [h v hv]; exact h2⟩
theorem lst_range' (n : Nat) (f : Nat → Int) : lst n f = (List.range' 0 n).map f := by unfold lst; rw [List.range_eq_range']
theorem GoodL.ok {n : Nat} {L : List Lnk} (h : GoodL n L) : ∀ x ∈ L, LinkOk n x := fun x hx => by
  have := h.each x hx
  exact ⟨by omega, by omega, by omega, by omega, by omega, by omega⟩
theorem val_small {n q : Nat} {L : List Lnk} (h : PG n L q) (v : Nat) (hv : v < n) : sL (others n q) (mulL L v) + mulL L v q ≤ 40 := by
  have h1 := (grL n L h.good).val_le v hv
  have h2 := Gr.val_others (G := grL n L h.good) h.hq v
  have e1 : (grL n L h.good).n = n := rfl
  have e2 : (grL n L h.good).m = mulL L := rfl
  rw [e1, e2] at h2
  omega
theorem rec_nRF {n q : Nat} {L : List Lnk} (h : PG n L q) : ((recL n L q).length : Int) = nRF (mulL L) 40 (others n q) (fun v => mulL L v q) := by
  have hv : ∀ v, v < n → 0 ≤ valV n L v ∧ valV n L v ≤ 35 := fun v hv => ⟨(grL n L h.good).val_nonneg v, (grL n L h.good).val_le v hv⟩
  have hb := box_count (n := n) (q := q) (K := 40) (G := grtV n L q) (P := fun e => recB n L q (fun i => e.getD i 0)) (by unfold grtV; rw [if_pos rfl]) (fun v h1 h2 => by
    have := hv v h1
    unfold grtV; rw [if_neg h2]; omega) (fun c v h1 h2 h3 => by
    cases hr : recB n L q (fun i => (lst n c).getD i 0) with
    | false => rfl
    | true =>
      have h4 := ((recB_iff h.good).1 hr).stab v h1 h2
      rw [lst_at c h1] at h4
      unfold grtV at h3
      rw [if_neg h2] at h3
      have e3 : (grL n L h.good).val v = valV n L v := rfl
      omega) n 0 [] rfl (by omega)
  rw [← lst_range'] at hb
  unfold recL
  simp only [List.nil_append] at hb
  rw [hb]
  unfold nRF
  have e0 : (fun j => ([] : List Int).getD j 0) = fun _ => (0 : Int) := by funext j; simp [List.getD]
  have e1 : (List.range' 0 n).filter (fun v => !(v == q)) = others n q := by unfold others; rw [List.range_eq_range']
  rw [e0, e1]
  refine cnt_congr' 40 _ _ _ _ fun c h0 _ => ?_
  obtain ⟨W⟩ : Nonempty ((grL n L h.good).Wt q) := by
    obtain ⟨W, _⟩ := Gr.wt8 (G := grL n L h.good) h.hq h.con
    exact ⟨W⟩
  have hm : ∀ v ∈ others n q, (fun i => (lst n c).getD i 0) v = c v := fun v hv => lst_at c (others_mem.1 hv).1
  have key : recB n L q (fun i => (lst n c).getD i 0) = true ↔ RF (mulL L) (others n q) (fun v => mulL L v q) c := by
    rw [recB_iff h.good, Gr.rec_iff_RF (G := grL n L h.good) h.hq W (fun v h1 h2 => by
      have := lst_at c (show v < n from h1)
      rw [this]; exact h0 v (others_mem.2 ⟨h1, h2⟩))]
    exact RF_congr_d hm
  by_cases hr : RF (mulL L) (others n q) (fun v => mulL L v q) c
  · rw [ind_yes hr, if_pos (key.2 hr)]
  · rw [ind_no hr, if_neg (fun x => hr (key.1 x))]
/-- as many recurrent piles as spanning trees -/
theorem rec_trees {n q : Nat} {L : List Lnk} (h : PG n L q) : ((recL n L q).length : Int) = trees n (fun v => (v : Int)) L := by
  rw [rec_nRF h, trees_at h.hq h.good.ok (nRF_tree (mulL_nonneg h.good.ok) 40 n) (by omega) (fun v hv _ => val_small h v hv)]
/-- as many as the determinant tells -/
theorem det_trees {n : Nat} {L : List Lnk} (h : PG n L 0) : detF (mulL L) (others n 0) (fun v => mulL L v 0) = trees n (fun v => (v : Int)) L := by
  rw [trees_at h.hq h.good.ok (detF_tree (m := mulL L) (grL n L h.good).irr 40) (by have := h.n5; omega) (fun v hv _ => val_small h v hv)]
theorem PG.zero {n q : Nat} {L : List Lnk} (h : PG n L q) : PG n L 0 := by
  refine ⟨h.good, ?_, by have := h.hq; omega, h.n5, h.e10⟩
  have hn : 0 < n := by have := h.hq; omega
  intro v hv
  obtain ⟨k, hk⟩ := h.con 0 hn
  obtain ⟨i, hi⟩ := hk.back (G := grL n L h.good) h.hq
  obtain ⟨j, hj⟩ := h.con v hv
  exact hi.trans hj
/-- bounds on the way -/
theorem trees_bound {n : Nat} : ∀ (l : List Lnk) (g : Nat → Int), (∀ x ∈ l, 0 ≤ x.n) → 0 ≤ trees n g l ∧ trees n g l ≤ 2 ^ (edgL l).toNat
  | [], g, _ => by
    unfold trees
    have : edgL [] = 0 := rfl
    rw [this]
    split <;> simp
  | x :: l, g, h => by
    have hx := h x (by simp)
    have hl := fun y hy => h y (List.mem_cons_of_mem x hy)
    obtain ⟨a1, a2⟩ := trees_bound (n := n) l g hl
    obtain ⟨b1, b2⟩ := trees_bound (n := n) l (mrg g (g x.a.toNat) (g x.b.toNat)) hl
    have he : edgL (x :: l) = x.n + edgL l := by simp [edgL]
    have h0 : 0 ≤ edgL l := by
      have : ∀ l : List Lnk, (∀ x ∈ l, 0 ≤ x.n) → 0 ≤ edgL l := fun l => by
        induction l with
        | nil => intro _; exact Int.le_refl _
        | cons y l ih => intro h; have := ih (fun z hz => h z (by simp [hz])); have := h y (by simp); have e : edgL (y :: l) = y.n + edgL l := by simp [edgL]
                         omega
      exact this l hl
    obtain ⟨k, hk⟩ : ∃ k : Nat, x.n = k := ⟨x.n.toNat, by omega⟩
    have hp : (edgL (x :: l)).toNat = k + (edgL l).toNat := by omega
    have hpow : ∀ k : Nat, (k : Int) + 1 ≤ 2 ^ k := fun k => by
      induction k with
      | zero => simp
      | succ k ih => rw [Int.pow_succ]; omega
    obtain ⟨T, hT⟩ : ∃ T : Int, (2 : Int) ^ (edgL l).toNat = T := ⟨_, rfl⟩
    rw [hT] at a2 b2
    have h3 : ((k : Int) + 1) * T ≤ 2 ^ k * T := Int.mul_le_mul_of_nonneg_right (hpow k) (by omega)
    have h4 : (k : Int) * trees n (mrg g (g x.a.toNat) (g x.b.toNat)) l ≤ k * T := Int.mul_le_mul_of_nonneg_left b2 (by omega)
    have h5 : 0 ≤ (k : Int) * trees n (mrg g (g x.a.toNat) (g x.b.toNat)) l := Int.mul_nonneg (by omega) b1
    rw [Int.add_mul, Int.one_mul] at h3
    have h6 : 0 ≤ (k : Int) * T := Int.mul_nonneg (by omega) (by omega)
    unfold trees
    rw [hp, Int.pow_add, hT, hk]
    split <;> constructor <;> omega
end Go.Proofs.Ytifdhapaonideaa

/- The reference counts spanning trees: piTrees, piCount, TreesOf. -/
namespace Go.Proofs.Ytifdhapaonideaa
open Go.RowKit
open Go.Lib (hid)

/-- the links behind the first -/
theorem rlinks_tail {w : World} {g o cap : Nat} {x : Lnk} {l : List Lnk} (h : RLinks w (.slice (some ⟨g, o, none⟩) (l.length + 1) cap) (x :: l)) : RLinks w (.slice (some ⟨g, o + 3, none⟩) l.length (cap - 1)) l := by
  obtain ⟨a, c, he, h1, h2, hc⟩ := h
  simp only [Value.slice.injEq] at he
  obtain ⟨rfl, _, rfl⟩ := he
  simp only [List.length_cons] at h1
  refine ⟨_, _, rfl, by omega, by omega, fun i hi => ?_⟩
  obtain ⟨g', o', he, c1, c2, c3⟩ := hc (i + 1) (by simp; omega)
  simp only [Option.some.injEq, Addr.mk.injEq, and_true] at he
  obtain ⟨rfl, rfl⟩ := he
  have e : o + 3 + i * 3 = o + (i + 1) * 3 := by omega
  exact ⟨g, o + 3, rfl, by rw [e]; exact c1, by rw [e]; exact c2, by rw [e]; exact c3⟩
theorem rlinks_none {w : World} {a : Option Addr} {cap : Nat} (h : cap ≤ maxLen) : RLinks w (.slice a 0 cap) [] := ⟨a, cap, rfl, Nat.zero_le _, h, fun i hi => by simp at hi⟩
theorem trees_nil_yes {n : Nat} {g : Nat → Int} (h : ∀ i, i < n → g i = g 0) : trees n g [] = 1 := if_pos h
theorem trees_nil_no {n k : Nat} {g : Nat → Int} (hk : k < n) (h : g k ≠ g 0) : trees n g [] = 0 := if_neg fun hx => h (hx k hk)
theorem pow2_le {i j : Nat} (h : i ≤ j) : (2 : Int) ^ i ≤ 2 ^ j := by
  have := Nat.pow_le_pow_right (n := 2) (by decide) h
  exact_mod_cast this
/-- a link that may stand in such a list -/
def LnkS (n : Nat) (x : Lnk) : Prop := ∃ (a b : Nat), x.a = a ∧ x.b = b ∧ a < n ∧ b < n ∧ 0 ≤ x.n ∧ x.n ≤ 5

set_option maxRecDepth 100000 in
set_option maxHeartbeats 4000000 in
theorem piTrees_c (n : Nat) (hn1 : 1 ≤ n) (hn8 : n ≤ 8) : ∀ (l : List Lnk) (g : Nat → Int) (u v : Value) (w : World), RInts w u (lst n g) → RLinks w v l → (∀ x ∈ l, LnkS n x) → edgL l ≤ 20 → l.length ≤ 1000 →
    Calls Try.prog 98 #[u, v] w fun e w' => e = .returned (.int .i64 (trees n g l)) ∧ Below w.heap.size w w' := by
  intro l
  induction l with
  | nil =>
    intro g u v w hu hv _ _ _
    obtain ⟨gu, ou, cu, rfl, hu1, hu2, hc⟩ := ri_open hu (by omega)
    obtain ⟨av, cv, rfl⟩ := hv.form
    have HC := hid hc
    have HT1 := hid (fun h => trees_nil_yes (n := n) (g := g) h)
    have HT2 := hid (fun k (hk : k < n) (h : g k ≠ g 0) => trees_nil_no hk h)
    obtain ⟨T, hT⟩ : ∃ T, trees n g [] = T := ⟨_, rfl⟩
    rw [hT] at HT1 HT2 ⊢
    have c0 : w.cell? ⟨gu, ou, none⟩ = some (.int .i64 (g 0)) := by have := hc 0 (by omega); rwa [Nat.add_zero] at this
    obtain ⟨y, hy⟩ : ∃ y, g 0 = y := ⟨_, rfl⟩
    rw [hy] at c0 HT1 HT2
    have h0n : (0 : Int) < (n : Int) := by omega
    clear hu hv hc hT
    go_enter Try.func98, Try.ntmps98
    go_wp2
    go_loop [19] (fun i => ∃ k : Nat, k ≤ n ∧ i = .int .i64 k ∧ ∀ i, i < k → g i = y) (fun i => n - (intOf i).toNat)
    case atStart => exact ⟨0, Nat.zero_le _, rfl, fun i hi => by omega⟩
    case round =>
      obtain ⟨k, hk, rfl, hr⟩ := hrel
      have HR := hid hr
      clear hr
      by_cases hlt : k < n
      · have a1 := HC.out k hlt
        obtain ⟨x, hx⟩ : ∃ x, g k = x := ⟨_, rfl⟩
        rw [hx] at a1
        have HX := hid hx
        have hkz : (k : Int) < (n : Int) := by omega
        clear hx
        rcases Bool.eq_false_or_eq_true (x == y) with t | t
        · have t2 : (x != y) = false := bne_of_true t
          have HXY := hid (show x = y from eq_of_beq t)
          go_wp2
          go_round
          case rel => exact ⟨k + 1, by omega, by go_num, fun i hi => by
            by_cases e : i = k
            · rw [e, HX.out, HXY.out]
            · exact HR.out i (by omega)⟩
          case measure => simp [intOf]; omega
        · have t2 : (x != y) = true := bne_of_false t
          have hne : x ≠ y := by intro e; rw [e] at t; simp at t
          have HE : Hid (T = 0) := HT2.out k hlt (by rw [HX.out]; exact hne)
          clear hne
          go_wp2
          go_ret
          exact ⟨by rw [HE.out]; rfl, Below.refl _ _⟩
      · have hkn : k = n := by omega
        subst hkn
        have HE : Hid (T = 1) := HT1.out HR.out
        go_wp2
        go_ret
        exact ⟨by rw [HE.out]; rfl, Below.refl _ _⟩
  | cons x l ih =>
    intro g u v w hu hv hS hE hL
    have HIH := hid ih
    clear ih
    obtain ⟨av, cv, rfl⟩ := hv.form
    have HU := hid hu
    have HV := hid hv
    obtain ⟨gu, ou, cu, rfl, hu1, hu2, hc⟩ := ri_open hu (by omega)
    obtain ⟨_, _, he, hl1, hl2, hlc⟩ := hv
    simp only [Value.slice.injEq, true_and] at he
    obtain ⟨rfl, rfl⟩ := he
    obtain ⟨a, b, ea, eb, ha, hb, hn0, hn5⟩ := hS x (by simp)
    obtain ⟨gl, ol, rfl, d1, d2, d3⟩ := hlc 0 (by simp)
    have ex : (x :: l).getD 0 noLnk = x := rfl
    rw [ex, Nat.zero_mul, Nat.add_zero] at d1 d2 d3
    rw [ea] at d1
    rw [eb] at d2
    obtain ⟨N, hN⟩ : ∃ N, x.n = N := ⟨_, rfl⟩
    rw [hN] at d3 hn0 hn5
    have hed : edgL (x :: l) = N + edgL l := by simp [edgL, hN]
    have hSl : ∀ y ∈ l, LnkS n y := fun y hy => hS y (by simp [hy])
    have hel : edgL l ≤ 20 := by omega
    have hb0 := trees_bound (n := n) l g (fun y hy => by obtain ⟨_, _, _, _, _, _, h, _⟩ := hSl y hy; exact h)
    have hb1 := trees_bound (n := n) l (mrg g (g a) (g b)) (fun y hy => by obtain ⟨_, _, _, _, _, _, h, _⟩ := hSl y hy; exact h)
    have hpow := pow2_le (show (edgL l).toNat ≤ 20 by omega)
    have hTX : trees n g (x :: l) = trees n g l + (if g a = g b then 0 else N * trees n (mrg g (g a) (g b)) l) := by rw [trees, ea, eb, hN]; rfl
    obtain ⟨T, hT⟩ : ∃ T, trees n g (x :: l) = T := ⟨_, rfl⟩
    rw [hT] at hTX ⊢
    obtain ⟨T0, hT0⟩ : ∃ T0, trees n g l = T0 := ⟨_, rfl⟩
    obtain ⟨T1, hT1⟩ : ∃ T1, trees n (mrg g (g a) (g b)) l = T1 := ⟨_, rfl⟩
    rw [hT0] at hb0 hTX
    rw [hT1] at hb1 hTX
    have h20 : (2 : Int) ^ 20 = 1048576 := by decide
    rw [h20] at hpow
    have HB0 : Hid (0 ≤ T0 ∧ T0 ≤ 1048576) := by show _ ∧ _; omega
    have HB1 : Hid (0 ≤ T1 ∧ T1 ≤ 1048576) := by show _ ∧ _; omega
    have HT0 := hid hT0
    have HT1 := hid hT1
    have HSL := hid hSl
    have HEL := hid hel
    have hll : l.length ≤ 1000 := by simp at hL; omega
    have HTX := hid hTX
    have ca : w.cell? ⟨gu, ou + a, none⟩ = some (.int .i64 (g a)) := hc a ha
    have cb : w.cell? ⟨gu, ou + b, none⟩ = some (.int .i64 (g b)) := hc b hb
    obtain ⟨A, hA⟩ : ∃ A, g a = A := ⟨_, rfl⟩
    obtain ⟨B, hB⟩ : ∃ B, g b = B := ⟨_, rfl⟩
    rw [hA] at ca
    rw [hB] at cb
    have HA := hid hA
    have HBB := hid hB
    have haz : (a : Int) < (n : Int) := by omega
    have hbz : (b : Int) < (n : Int) := by omega
    have hlpos : (0 : Int) < ((x :: l).length : Int) := by rw [List.length_cons]; omega
    have hl1z : (1 : Int) ≤ ((x :: l).length : Int) := by rw [List.length_cons]; omega
    have hne0 : (((x :: l).length : Int) == 0) = false := by cases h : (((x :: l).length : Int) == 0) with | false => rfl | true => (have := eq_of_beq h; rw [List.length_cons] at this; omega)
    clear hu hlc hS hE hc hb0 hb1 hpow hTX hT hT0 hT1 hSl hel hA hB hed h20
    have HBXW : Hid (∃ wb, wb = w.alloc (.cells #[.int .i64 a, .int .i64 b, .int .i64 N] 104)) := ⟨_, rfl⟩
    obtain ⟨wb, hwb⟩ := HBXW.out
    have hbx : wb.heap[w.heap.size]? = some (.cells #[.int .i64 a, .int .i64 b, .int .i64 N] 104 (0, 0)) := by rw [hwb]; exact heap_alloc_new _ _
    have hal : Below w.heap.size w wb := by rw [hwb]; exact (Below.refl _ _).alloc (Nat.le_refl _) _
    have HWB := hid hwb
    have HAL := hid hal
    obtain ⟨BX, hBX⟩ : ∃ BX, w.heap.size = BX := ⟨_, rfl⟩
    have HBX := hid hBX
    rw [hBX] at hbx
    have HX0 := hid (show wb.cell? ⟨BX, 0, none⟩ = some (.int .i64 a) ∧ wb.cell? ⟨BX, 1, none⟩ = some (.int .i64 b) ∧ wb.cell? ⟨BX, 2, none⟩ = some (.int .i64 N) from ⟨by rw [cell_of_row _ _ _ _ _ _ hbx]; rfl, by rw [cell_of_row _ _ _ _ _ _ hbx]; rfl, by rw [cell_of_row _ _ _ _ _ _ hbx]; rfl⟩)
    have HCA := hid (And.intro ca cb)
    clear HBXW hwb hal hbx hBX ca cb
    by_cases hcv : cv = 1
    · subst hcv
      have hl0 : l = [] := by
        have h1 := hl1
        rw [List.length_cons] at h1
        exact List.length_eq_zero_iff.1 (by omega)
      have HTL : Hid (RLinks w (.slice (some ⟨gl, ol, none⟩) l.length 0) l) := by
        rw [hl0]; exact rlinks_none (by unfold maxLen; omega)
      clear hl0
      go_enter Try.func98, Try.ntmps98
      go_wp2_with fail
      rw [← HWB.out]
      refine (HIH.out g _ _ _ (HU.out.keep HAL.out) (HTL.out.keep HAL.out) HSL.out HEL.out hll).mono ?_
      rintro e w2 ⟨rfl, hb2⟩
      rw [HT0.out, HBX.out]
      have e1 := (hb2.cell (p := ⟨BX, 0, none⟩) (cell_lt HX0.out.1)).trans HX0.out.1
      have e2 := (hb2.cell (p := ⟨BX, 1, none⟩) (cell_lt HX0.out.2.1)).trans HX0.out.2.1
      have e3 := (hb2.cell (p := ⟨BX, 2, none⟩) (cell_lt HX0.out.2.2)).trans HX0.out.2.2
      have HB2 := hid (HAL.out.trans (hb2.mono HAL.out.size))
      have e4 := (HB2.out.cell (p := ⟨gu, ou + a, none⟩) (cell_lt HCA.out.1)).trans HCA.out.1
      have e5 := (HB2.out.cell (p := ⟨gu, ou + b, none⟩) (cell_lt HCA.out.2)).trans HCA.out.2
      clear hb2
      rcases Bool.eq_false_or_eq_true (A == B) with t | t
      · have t2 : (A != B) = false := bne_of_true t
        have HE : Hid (T = T0) := by
          show _ = _
          rw [HTX.out, HA.out, HBB.out, if_pos (eq_of_beq t), Int.add_zero]
        go_wp2
        go_quiet (fail)
        go_wp2
        go_ret
        exact ⟨by rw [HE.out]; rfl, below_drewN HB2.out _⟩
      · have t2 : (A != B) = true := bne_of_false t
        have HE : Hid (T = T0 + N * T1) := by
          show _ = _
          rw [HTX.out, HA.out, HBB.out, if_neg (fun h => by rw [h] at t; simp at t)]
        have hnt : 0 ≤ N * T1 ∧ N * T1 ≤ 5 * 1048576 := ⟨Int.mul_nonneg hn0 HB1.out.1, Int.mul_le_mul hn5 HB1.out.2 HB1.out.1 (by decide)⟩
        obtain ⟨P, hP⟩ : ∃ P, N * T1 = P := ⟨_, rfl⟩
        rw [hP] at hnt
        have HPP := hid hP
        clear hP
        go_wp2
        go_quiet (fail)
        obtain ⟨w3, hw3⟩ : ∃ w3, w3 = w2.drewN nq := ⟨_, rfl⟩
        rw [← hw3]
        have hb3 : Below w2.heap.size w2 w3 := by rw [hw3]; exact below_drewN (Below.refl _ _) nq
        have HB3 := hid (HB2.out.trans (hb3.mono HB2.out.size))
        have e33 := (hb3.cell (p := ⟨BX, 2, none⟩) (cell_lt e3)).trans e3
        clear hb3 hw3 e1 e2 e3 e4 e5
        go_wp2_with fail
        refine (l1Own_c _ (lst n g) _ (HU.out.keep HB3.out) (by rw [lst_len]; omega)).mono ?_
        rintro e w4 ⟨uo, rfl, hF4, hb4⟩
        obtain ⟨gO, cO, rfl, hlo, hhi⟩ := fi_form hF4 (by omega)
        have e34 := (hb4.cell (p := ⟨BX, 2, none⟩) (cell_lt e33)).trans e33
        have hlt3 := cell_lt e33
        have HF4 := hid hF4
        have HB4 := hid (HB3.out.trans (hb4.mono HB3.out.size))
        have hs4 := hb4.size
        clear hF4 hb4 e33
        go_wp2
        go_loopg [53] n (fun gk vv wr => ∃ k : Nat, k ≤ n ∧ gk = n - k ∧ vv = .int .i64 k ∧ FInts wr w3.heap.size w4.heap.size (.slice (some ⟨gO, 0, none⟩) n cO) (lst n (partF g (mrg g A B) k)) ∧ Touch w3.heap.size w4.heap.size w4 wr)
        case atStart => exact ⟨0, Nat.zero_le _, rfl, rfl, by rw [part_zero]; exact HF4.out, Touch.refl _ _ _⟩
        case round =>
          obtain ⟨k, hk, rfl, rfl, hF, hT⟩ := hrel
          have HT := hid hT
          by_cases hlt : k < n
          · obtain ⟨hc, _, hset⟩ := fi_open hF
            have a1 := (hc k hlt).1
            rw [part_at] at a1
            have a2 := (hc k hlt).2
            have hkz : (k : Int) < (n : Int) := by omega
            obtain ⟨y, hy⟩ : ∃ y, g k = y := ⟨_, rfl⟩
            have hpk : partF g (mrg g A B) k k = y := by rw [part_at]; exact hy
            rw [hy] at a1
            by_cases hyb : y = B
            · have t3 : (y == B) = true := by rw [hyb]; simp
              have hst := hset k A hlt
              rw [part_set n _ _ (show A = mrg g A B k by unfold mrg; rw [hy, if_pos hyb])] at hst
              have HO := hid (And.intro hst.1 (hT.trans hst.2))
              clear hF hT hc hset hst hyb hy hpk
              go_wp2
              go_roundg (n - (k + 1))
              case rel => exact ⟨k + 1, by omega, rfl, by go_num, HO.out⟩
              case measure => omega
            · have t3 : (y == B) = false := by simp [hyb]
              have HO := hid (show FInts wr w3.heap.size w4.heap.size (.slice (some ⟨gO, 0, none⟩) n cO) (lst n (partF g (mrg g A B) (k + 1))) by
                have e : lst n (partF g (mrg g A B) (k + 1)) = lst n (partF g (mrg g A B) k) := by
                  rw [← part_set n g (mrg g A B) (show y = mrg g A B k by unfold mrg; rw [hy, if_neg hyb])]
                  refine lst_congr fun i _ => ?_
                  unfold upd
                  split
                  · next e => rw [e, hpk]
                  · rfl
                rw [e]; exact hF)
              clear hF hT hc hset hyb hy hpk a2
              go_wp2
              go_roundg (n - (k + 1))
              case rel => exact ⟨k + 1, by omega, rfl, by go_num, HO.out, HT.out⟩
              case measure => omega
          · have hkn : k = n := by omega
            subst hkn
            rw [part_all] at hF
            have HF := hid hF.r
            have e35 := hT.cell (by omega) e34
            have HBR := hid (HB4.out.trans ((hT.below (Nat.le_refl _) hs4).mono HB3.out.size))
            have HUD : Hid (RInts wr.drew (.slice (some ⟨gO, 0, none⟩) k cO) (lst k (mrg g (g a) (g b)))) := by rw [HA.out, HBB.out]; exact HF.out
            have HTD : Hid (RLinks wr.drew (.slice (some ⟨gl, ol, none⟩) l.length 0) l) := (show RLinks wr _ _ from HTL.out.keep HBR.out)
            have f1 : IntKind.i64.wrap (N * T1) = P := by rw [HPP.out]; exact IntWalk.i64_in _ (by omega)
            have f2 : IntKind.i64.wrap (T0 + P) = T0 + P := IntWalk.i64_in _ (by have := HB0.out; omega)
            have q1 : (1 : Int) ≤ (l.length : Int) + 1 := by omega
            have q2 : (l.length : Int) + 1 ≤ (1 : Int) := by have := hl1; rw [List.length_cons] at this; omega
            have q3 : ((l.length : Int) + 1).toNat = l.length + 1 := by omega
            clear hF hT e34
            go_wp2
            go_region_held3 (fun w' => w'.cell? ⟨BX, 2, none⟩ = some (.int .i64 N))
              (first | go_keep | exact ((hb5.cell (p := ⟨BX, 2, none⟩) (cell_lt e35)).trans e35))
              ((go_at_call 98; refine (HIH.out (mrg g (g a) (g b)) _ _ _ HUD.out HTD.out HSL.out HEL.out hll).mono ?_; rintro e w5 ⟨rfl, hb5⟩; rw [HT1.out]))
            all_goals
              go_wp2
              go_ret
              exact ⟨by rw [HE.out, HPP.out]; rfl, HBR.out.trans ((below_of_drew hb5).mono HBR.out.size)⟩
    · have HTL := hid (rlinks_tail HV.out)
      go_enter Try.func98, Try.ntmps98
      go_wp2_with fail
      rw [← HWB.out]
      refine (HIH.out g _ _ _ (HU.out.keep HAL.out) (HTL.out.keep HAL.out) HSL.out HEL.out hll).mono ?_
      rintro e w2 ⟨rfl, hb2⟩
      rw [HT0.out, HBX.out]
      have e1 := (hb2.cell (p := ⟨BX, 0, none⟩) (cell_lt HX0.out.1)).trans HX0.out.1
      have e2 := (hb2.cell (p := ⟨BX, 1, none⟩) (cell_lt HX0.out.2.1)).trans HX0.out.2.1
      have e3 := (hb2.cell (p := ⟨BX, 2, none⟩) (cell_lt HX0.out.2.2)).trans HX0.out.2.2
      have HB2 := hid (HAL.out.trans (hb2.mono HAL.out.size))
      have e4 := (HB2.out.cell (p := ⟨gu, ou + a, none⟩) (cell_lt HCA.out.1)).trans HCA.out.1
      have e5 := (HB2.out.cell (p := ⟨gu, ou + b, none⟩) (cell_lt HCA.out.2)).trans HCA.out.2
      clear hb2
      rcases Bool.eq_false_or_eq_true (A == B) with t | t
      · have t2 : (A != B) = false := bne_of_true t
        have HE : Hid (T = T0) := by
          show _ = _
          rw [HTX.out, HA.out, HBB.out, if_pos (eq_of_beq t), Int.add_zero]
        go_wp2
        go_quiet (fail)
        go_wp2
        go_ret
        exact ⟨by rw [HE.out]; rfl, below_drewN HB2.out _⟩
      · have t2 : (A != B) = true := bne_of_false t
        have HE : Hid (T = T0 + N * T1) := by
          show _ = _
          rw [HTX.out, HA.out, HBB.out, if_neg (fun h => by rw [h] at t; simp at t)]
        have hnt : 0 ≤ N * T1 ∧ N * T1 ≤ 5 * 1048576 := ⟨Int.mul_nonneg hn0 HB1.out.1, Int.mul_le_mul hn5 HB1.out.2 HB1.out.1 (by decide)⟩
        obtain ⟨P, hP⟩ : ∃ P, N * T1 = P := ⟨_, rfl⟩
        rw [hP] at hnt
        have HPP := hid hP
        clear hP
        go_wp2
        go_quiet (fail)
        obtain ⟨w3, hw3⟩ : ∃ w3, w3 = w2.drewN nq := ⟨_, rfl⟩
        rw [← hw3]
        have hb3 : Below w2.heap.size w2 w3 := by rw [hw3]; exact below_drewN (Below.refl _ _) nq
        have HB3 := hid (HB2.out.trans (hb3.mono HB2.out.size))
        have e33 := (hb3.cell (p := ⟨BX, 2, none⟩) (cell_lt e3)).trans e3
        clear hb3 hw3 e1 e2 e3 e4 e5
        go_wp2_with fail
        refine (l1Own_c _ (lst n g) _ (HU.out.keep HB3.out) (by rw [lst_len]; omega)).mono ?_
        rintro e w4 ⟨uo, rfl, hF4, hb4⟩
        obtain ⟨gO, cO, rfl, hlo, hhi⟩ := fi_form hF4 (by omega)
        have e34 := (hb4.cell (p := ⟨BX, 2, none⟩) (cell_lt e33)).trans e33
        have hlt3 := cell_lt e33
        have HF4 := hid hF4
        have HB4 := hid (HB3.out.trans (hb4.mono HB3.out.size))
        have hs4 := hb4.size
        clear hF4 hb4 e33
        go_wp2
        go_loopg [53] n (fun gk vv wr => ∃ k : Nat, k ≤ n ∧ gk = n - k ∧ vv = .int .i64 k ∧ FInts wr w3.heap.size w4.heap.size (.slice (some ⟨gO, 0, none⟩) n cO) (lst n (partF g (mrg g A B) k)) ∧ Touch w3.heap.size w4.heap.size w4 wr)
        case atStart => exact ⟨0, Nat.zero_le _, rfl, rfl, by rw [part_zero]; exact HF4.out, Touch.refl _ _ _⟩
        case round =>
          obtain ⟨k, hk, rfl, rfl, hF, hT⟩ := hrel
          have HT := hid hT
          by_cases hlt : k < n
          · obtain ⟨hc, _, hset⟩ := fi_open hF
            have a1 := (hc k hlt).1
            rw [part_at] at a1
            have a2 := (hc k hlt).2
            have hkz : (k : Int) < (n : Int) := by omega
            obtain ⟨y, hy⟩ : ∃ y, g k = y := ⟨_, rfl⟩
            have hpk : partF g (mrg g A B) k k = y := by rw [part_at]; exact hy
            rw [hy] at a1
            by_cases hyb : y = B
            · have t3 : (y == B) = true := by rw [hyb]; simp
              have hst := hset k A hlt
              rw [part_set n _ _ (show A = mrg g A B k by unfold mrg; rw [hy, if_pos hyb])] at hst
              have HO := hid (And.intro hst.1 (hT.trans hst.2))
              clear hF hT hc hset hst hyb hy hpk
              go_wp2
              go_roundg (n - (k + 1))
              case rel => exact ⟨k + 1, by omega, rfl, by go_num, HO.out⟩
              case measure => omega
            · have t3 : (y == B) = false := by simp [hyb]
              have HO := hid (show FInts wr w3.heap.size w4.heap.size (.slice (some ⟨gO, 0, none⟩) n cO) (lst n (partF g (mrg g A B) (k + 1))) by
                have e : lst n (partF g (mrg g A B) (k + 1)) = lst n (partF g (mrg g A B) k) := by
                  rw [← part_set n g (mrg g A B) (show y = mrg g A B k by unfold mrg; rw [hy, if_neg hyb])]
                  refine lst_congr fun i _ => ?_
                  unfold upd
                  split
                  · next e => rw [e, hpk]
                  · rfl
                rw [e]; exact hF)
              clear hF hT hc hset hyb hy hpk a2
              go_wp2
              go_roundg (n - (k + 1))
              case rel => exact ⟨k + 1, by omega, rfl, by go_num, HO.out, HT.out⟩
              case measure => omega
          · have hkn : k = n := by omega
            subst hkn
            rw [part_all] at hF
            have HF := hid hF.r
            have e35 := hT.cell (by omega) e34
            have HBR := hid (HB4.out.trans ((hT.below (Nat.le_refl _) hs4).mono HB3.out.size))
            have HUD : Hid (RInts wr.drew (.slice (some ⟨gO, 0, none⟩) k cO) (lst k (mrg g (g a) (g b)))) := by rw [HA.out, HBB.out]; exact HF.out
            have HTD : Hid (RLinks wr.drew (.slice (some ⟨gl, ol + 3, none⟩) l.length (cv - 1)) l) := (show RLinks wr _ _ from HTL.out.keep HBR.out)
            have f1 : IntKind.i64.wrap (N * T1) = P := by rw [HPP.out]; exact IntWalk.i64_in _ (by omega)
            have f2 : IntKind.i64.wrap (T0 + P) = T0 + P := IntWalk.i64_in _ (by have := HB0.out; omega)
            have q1 : (1 : Int) ≤ (l.length : Int) + 1 := by omega
            have q2 : (l.length : Int) + 1 ≤ (cv : Int) := by have := hl1; rw [List.length_cons] at this; omega
            have q3 : ((l.length : Int) + 1).toNat = l.length + 1 := by omega
            clear hF hT e34
            go_wp2
            go_region_held3 (fun w' => w'.cell? ⟨BX, 2, none⟩ = some (.int .i64 N))
              (first | go_keep | exact ((hb5.cell (p := ⟨BX, 2, none⟩) (cell_lt e35)).trans e35))
              ((go_at_call 98; refine (HIH.out (mrg g (g a) (g b)) _ _ _ HUD.out HTD.out HSL.out HEL.out hll).mono ?_; rintro e w5 ⟨rfl, hb5⟩; rw [HT1.out]))
            all_goals
              go_wp2
              go_ret
              exact ⟨by rw [HE.out, HPP.out]; rfl, HBR.out.trans ((below_of_drew hb5).mono HBR.out.size)⟩

theorem goodL_small {n : Nat} {L : List Lnk} (h : GoodL n L) : ∀ x ∈ L, LnkS n x := fun x hx => by
  obtain ⟨h1, h2, h3, h4, h5⟩ := h.each x hx
  exact ⟨x.a.toNat, x.b.toNat, by omega, by omega, by omega, by omega, by omega, h5⟩
theorem edgL_len {L : List Lnk} (h : ∀ x ∈ L, 1 ≤ x.n) : (L.length : Int) ≤ edgL L := by
  induction L with
  | nil => simp [edgL]
  | cons x xs ih =>
    have h1 := h x (by simp)
    have h2 := ih (fun y hy => h y (by simp [hy]))
    have : edgL (x :: xs) = x.n + edgL xs := by simp [edgL]
    rw [this, List.length_cons]; omega
theorem PG.links {n q : Nat} {L : List Lnk} (h : PG n L q) : L.length ≤ 1000 := by
  have h1 := edgL_len (L := L) (fun x hx => (h.good.each x hx).2.2.2.1)
  have := h.e10
  omega
theorem trees_pos {n q : Nat} {L : List Lnk} (h : PG n L q) : 1 ≤ trees n (fun v => (v : Int)) L := by
  rw [← rec_trees h]
  obtain ⟨W, _⟩ := Gr.wt8 (G := grL n L h.good) h.hq h.con
  have hr := Gr.grt_rec (G := grL n L h.good) h.hq W h.con
  have hm := rec_mem h hr (by unfold Gr.grt; rw [if_pos rfl])
  have := List.length_pos_of_mem hm
  omega

set_option maxRecDepth 100000 in
set_option maxHeartbeats 2000000 in
theorem piCount_c (n q : Nat) (v : Value) (L : List Lnk) (w : World) (h : RLinks w v L) (hP : PG n L q) :
    Calls Try.prog 69 #[.int .i64 n, v] w fun e w' => e = .returned (.int .i64 (trees n (fun v => (v : Int)) L)) ∧ Below w.heap.size w w' := by
  have HR := hid h
  have hn1 := hP.n1
  have hn5 := hP.n5
  have he := hP.e10
  have HLL := hid hP.links
  obtain ⟨aL, capL, rfl⟩ := h.form
  have HG := hid (goodL_small hP.good)
  clear h
  go_enter Try.func69, Try.ntmps69
  go_wp2
  go_loopg [5, 6] n (fun gk out i wr => ∃ k : Nat, ∃ a c, out = .slice a k c ∧ k ≤ n ∧ gk = n - k ∧ i = .int .i64 k ∧ FInts wr w.heap.size wr.heap.size (.slice a k c) (lst k (fun v => (v : Int))) ∧ Below w.heap.size w wr)
  case atStart => exact ⟨0, none, 0, rfl, Nat.zero_le _, rfl, rfl, ints_nil _ _ _, Below.refl _ _⟩
  case round =>
    obtain ⟨k, a', c', rfl, hk, rfl, rfl, hF, hb⟩ := hrel
    have HB := hid hb
    by_cases hlt : k < n
    · have HX : Hid (lst k (fun v => (v : Int)) ++ [(k : Int)] = lst (k + 1) (fun v => (v : Int))) := by show _ = _; rw [lst_succ]
      have hkz : (k : Int) < (n : Int) := by omega
      have hsb := hb.size
      have HF := hid hF
      have hll : (lst k (fun v => (v : Int))).length = k := lst_len _ _
      have HLL := hid hll
      clear hF hb hll
      go_wp2_with (at_builtin; (refine wpList_push_r (W0 := w) rfl _ _ rfl w.heap.size (.slice a' k c') (lst k (fun v => (v : Int))) (k : Int) rfl rfl HF.out HB.out hsb k HLL (by omega) _ HX ?_; intro g4 c4 w4 hF4 hb4; have HF4 := hid hF4; have HB4 := hid hb4; clear hF4 hb4))
      go_roundg (n - (k + 1))
      case rel => exact ⟨k + 1, _, _, rfl, by omega, rfl, by go_num, HF4.out, HB4.out⟩
      case measure => omega
    · obtain rfl : n = k := by omega
      have HF := hid hF
      clear hF hb
      go_wp2_with fail
      refine (piTrees_c n hn1 (by omega) L _ _ _ _ HF.out.r (HR.out.keep HB.out) HG.out (by omega) HLL.out).mono ?_
      rintro e w2 ⟨rfl, hb2⟩
      have HB2 := hid (HB.out.trans (hb2.mono HB.out.size))
      clear hb2
      go_wp2
      go_ret
      exact ⟨rfl, HB2.out⟩

/-- the number of spanning trees, if it is asked -/
noncomputable def treB (n : Int) (L : List Lnk) : Int × Bool := if piGB n L 0 then (trees n.toNat (fun v => (v : Int)) L, true) else (0, false)
set_option maxRecDepth 100000 in
set_option maxHeartbeats 2000000 in
theorem sTreesOf_u (n : Int) (v : Value) (L : List Lnk) (w : World) (h : RLinks w v L) :
    Calls Try.prog 34 #[.int .i64 n, v] w (RetZC w (treB n L)) := by
  have HR := hid h
  obtain ⟨a, cap, rfl⟩ := h.form
  clear h
  rcases Bool.eq_false_or_eq_true (piGB n L 0) with t1 | t1
  · obtain ⟨m, k, hn, hq, hm, hk, hP⟩ := piGB_nat t1
    have hy : treB n L = (trees m (fun v => (v : Int)) L, true) := by unfold treB; rw [t1, hm]; rfl
    subst hn
    obtain rfl : k = 0 := by omega
    clear hq
    have HY := hid hy
    clear hm hk hy
    go_enter Try.func34, Try.ntmps34
    go_wp2_with fail
    refine (piGraph_c _ 0 _ L _ HR.out).mono ?_
    rintro e w1 ⟨rfl, hb1⟩
    rw [t1]
    have HB1 := hid hb1
    clear hb1
    go_wp2_with fail
    refine (piCount_c m 0 _ L _ (HR.out.keep HB1.out) hP).mono ?_
    rintro e w2 ⟨rfl, hb2⟩
    have HB2 := hid (HB1.out.trans (hb2.mono HB1.out.size))
    clear hb2
    go_wp2
    go_ret2
    exact ⟨by rw [HY.out]; rfl, HB2.out⟩
  · have hy : treB n L = (0, false) := by unfold treB; rw [t1]; rfl
    have HE := hid hy
    clear hy
    go_enter Try.func34, Try.ntmps34
    go_wp2_with fail
    refine (piGraph_c _ 0 _ L _ HR.out).mono ?_
    rintro e w1 ⟨rfl, hb1⟩
    rw [t1]
    go_wp2
    go_ret2
    exact ⟨by rw [HE.out]; rfl, hb1⟩

end Go.Proofs.Ytifdhapaonideaa

