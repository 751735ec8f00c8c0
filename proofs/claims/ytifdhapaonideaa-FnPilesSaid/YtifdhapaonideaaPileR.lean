/- Piles: the program's list of all recurrent piles: the function value that calls itself. -/
import Derived.Test.YtifdhapaonideaaPileI4
import Derived.RangeFuncBox
import Derived.Laws.EntriesVeiled
import Derived.Deep.RegionLaw
import Derived.Deep.CutRange
namespace Go.Proofs.Ytifdhapaonideaa
open Go.RowKit
open Go.Lib (hid)

/-- the blocks of recurrent, and what they hold -/
structure PsSt (h n q p : Nat) (L : List Lnk) (w : World) (lv : Value) (Z : List (Value × List Int)) (f : Nat → Int) : Prop where
  gr : RG w (.pointer (some ⟨p, 0, none⟩)) n L
  far : ∀ w', Same 0 h w w' → w.heap.size ≤ w'.heap.size → RG w' (.pointer (some ⟨p, 0, none⟩)) n L
  bt : w.heap[h]? = some (.cells #[.pointer (some ⟨p, 0, none⟩), .int .i64 q] 54 (0, 0))
  bo : Boxed w (h + 2) 44 lv
  bd : Boxed w (h + 4) 25 (.slice (some ⟨h + 3, 0, none⟩) n n)
  bx : Boxed w (h + 5) 94 (.func (.func 83) #[] #[.pointer (some ⟨h, 0, none⟩), .pointer (some ⟨h + 4, 0, none⟩), .pointer (some ⟨h + 2, 0, none⟩), .pointer (some ⟨h + 5, 0, none⟩)])
  ds : FInts w (h + 3) (h + 4) (.slice (some ⟨h + 3, 0, none⟩) n n) (lst n f)
  rows : OMat w (h + 1) lv Z
  pool : PoolZ w (h + 6) w.heap.size Z
  lat : ∀ g, lv.ownBlock = some g → g = h + 1 ∨ h + 6 ≤ g

theorem lst_putp (v : Nat) (f g : Nat → Int) (x : Int) (h : ∀ i, i < v → g i = f i) : lst (v + 1) (upd g v x) = lst v f ++ [x] := by
  rw [lst_succ, upd_self]
  congr 1
  exact lst_congr fun i hi => by rw [upd_other _ _ (by omega), h i hi]
variable {h n q p : Nat} {L : List Lnk}
theorem PsSt.lt {w : World} {lv : Value} {Z : List (Value × List Int)} {f : Nat → Int} (s : PsSt h n q p L w lv Z f) : h + 6 ≤ w.heap.size := s.bx.lt
theorem PsSt.keep {w w' : World} {lv : Value} {Z : List (Value × List Int)} {f : Nat → Int} (s : PsSt h n q p L w lv Z f) (hb : Below w.heap.size w w') : PsSt h n q p L w' lv Z f where
  gr := s.gr.keep hb
  far := fun w'' hs hz => s.far w'' (fun b h1 h2 h3 => (hs b h1 h2 (by have := hb.size; omega)).trans (hb.block b h3)) (Nat.le_trans hb.size hz)
  bt := (hb.block _ (by have := s.lt; omega)).trans s.bt
  bo := (hb.block _ s.bo.lt).trans s.bo
  bd := (hb.block _ s.bd.lt).trans s.bd
  bx := (hb.block _ s.bx.lt).trans s.bx
  ds := s.ds.keep hb
  rows := s.rows.keep hb
  pool := (s.pool.keep hb).mono (Nat.le_refl _) hb.size
  lat := s.lat
theorem PsSt.tcell {w : World} {lv : Value} {Z : List (Value × List Int)} {f : Nat → Int} (s : PsSt h n q p L w lv Z f) : w.cell? ⟨h, 0, none⟩ = some (.pointer (some ⟨p, 0, none⟩)) ∧ w.cell? ⟨h, 1, none⟩ = some (.int .i64 q) :=
  ⟨by rw [cell_of_row _ _ _ _ _ _ s.bt]; rfl, by rw [cell_of_row _ _ _ _ _ _ s.bt]; rfl⟩
/-- a number is put -/
theorem PsSt.put {w : World} {lv : Value} {Z : List (Value × List Int)} {f : Nat → Int} (s : PsSt h n q p L w lv Z f) {v : Nat} (hv : v < n) (x : Int) :
    w.cell? ⟨h + 3, v, none⟩ = some (.int .i64 (f v)) ∧ w.frozen? ⟨h + 3, v, none⟩ = false ∧ PsSt h n q p L (w.setCell ⟨h + 3, v, none⟩ (.int .i64 x)) lv Z (upd f v x) := by
  obtain ⟨hc, _, hset⟩ := fi_open s.ds
  have hst := hset v x hv
  have hsz : (w.setCell ⟨h + 3, v, none⟩ (.int .i64 x)).heap.size = w.heap.size := by simp [World.setCell]
  have hoth : ∀ b, b ≠ h + 3 → (w.setCell ⟨h + 3, v, none⟩ (.int .i64 x)).heap[b]? = w.heap[b]? := fun b hb => heap_setCell_other _ _ _ _ hb
  refine ⟨(hc v hv).1, (hc v hv).2, ⟨s.far _ (fun b _ h2 _ => hoth b (by omega)) (by rw [hsz]; exact Nat.le_refl _), fun w' hs hz => s.far w' (fun b h1 h2 h3 => (hs b h1 h2 (by rw [hsz]; exact h3)).trans (hoth b (by omega))) (by rw [hsz] at hz; exact hz),
    (hoth h (by omega)).trans s.bt, (hoth _ (by omega)).trans s.bo, (hoth _ (by omega)).trans s.bd, (hoth _ (by omega)).trans s.bx, hst.1, own_same s.rows (fun g hg => hoth g (by have := s.lat g hg; omega)), ?_, s.lat⟩⟩
  rw [hsz]
  exact s.pool.same (fun z hz g hg => hoth g (by have := ((s.pool.1 z hz).1.lt g hg).1; omega))
/-- a row is appended -/
theorem PsSt.push {w w1 : World} {lv lv1 u : Value} {Z : List (Value × List Int)} {f : Nat → Int} {xs : List Int} {mid : Nat} (s : PsSt h n q p L w lv Z f) (hZ : PoolZ w (h + 6) mid Z) (hu : FInts w mid w.heap.size u xs) (hm : h + 6 ≤ mid) (hmw : mid ≤ w.heap.size) {o : Obj}
    (hO : OMat w1 (h + 1) lv1 (Z ++ [(u, xs)])) (hg : (w.alloc o).grownBy w1 lv.ownBlock) (hat : lv1.ownBlock = lv.ownBlock ∨ lv1.ownBlock = some (w.heap.size + 1)) :
    (w1.cell? ⟨h + 2, 0, none⟩ = some lv ∧ w1.frozen? ⟨h + 2, 0, none⟩ = false) ∧ PsSt h n q p L (w1.setCell ⟨h + 2, 0, none⟩ lv1) lv1 (Z ++ [(u, xs)]) f := by
  have hlt := s.lt
  have hal : Below w.heap.size w (w.alloc o) := (Below.refl _ _).alloc (Nat.le_refl _) _
  have hsa : (w.alloc o).heap.size = w.heap.size + 1 := by simp
  have hz1 := hg.size
  have hsz : (w1.setCell ⟨h + 2, 0, none⟩ lv1).heap.size = w1.heap.size := by simp [World.setCell]
  have hlv : ∀ b, lv.ownBlock = some b → b = h + 1 ∨ h + 6 ≤ b := s.lat
  have old1 : ∀ b, b < w.heap.size → some b ≠ lv.ownBlock → w1.heap[b]? = w.heap[b]? := fun b hb hne => (hg.block b (by omega) hne).trans (hal.block b hb)
  have old : ∀ b, b < w.heap.size → some b ≠ lv.ownBlock → b ≠ h + 2 → (w1.setCell ⟨h + 2, 0, none⟩ lv1).heap[b]? = w.heap[b]? := fun b hb hne h2 => (heap_setCell_other _ _ _ _ (by show b ≠ h + 2; exact h2)).trans (old1 b hb hne)
  have nl : ∀ b, b < h + 6 → b ≠ h + 1 → some b ≠ lv.ownBlock := fun b hb h1 e => by have := hlv b e.symm; omega
  have lat1 : ∀ g, lv1.ownBlock = some g → g = h + 1 ∨ h + 6 ≤ g := fun g hg' => by
    rcases hat with e | e
    · exact s.lat g (e ▸ hg')
    · rw [e] at hg'; cases hg'; omega
  have hb2 : Boxed w1 (h + 2) 44 lv := (old1 (h + 2) (by omega) (nl _ (by omega) (by omega))).trans s.bo
  have hp1 : PoolZ w1 (h + 6) w1.heap.size (Z ++ [(u, xs)]) := by
    have hpz : PoolZ w (h + 6) w.heap.size (Z ++ [(u, xs)]) := hZ.append (pool_one hu) hm hmw
    exact ((hpz.keep hal).grown (s.rows.keep hal) hg).mono (Nat.le_refl _) (by omega)
  refine ⟨⟨hb2.cell, hb2.frozen⟩, ⟨s.far _ (fun b _ h2 _ => old b (by omega) (nl b (by omega) (by omega)) (by omega)) (by omega), fun w' hs hz => s.far w' (fun b h1 h2 h3 => (hs b h1 h2 (by omega)).trans (old b (by omega) (nl b (by omega) (by omega)) (by omega))) (by omega),
    (old h (by omega) (nl _ (by omega) (by omega)) (by omega)).trans s.bt, hb2.set _, (old _ (by omega) (nl _ (by omega) (by omega)) (by omega)).trans s.bd, (old _ (by omega) (nl _ (by omega) (by omega)) (by omega)).trans s.bx,
    s.ds.same (fun b h1 h2 h3 => old b h3 (nl b (by omega) (by omega)) (by omega)), own_same hO (fun g hg' => heap_setCell_other _ _ _ _ (by have := lat1 g hg'; show g ≠ h + 2; omega)), ?_, lat1⟩⟩
  rw [hsz]
  exact hp1.same (fun z hz g hg' => heap_setCell_other _ _ _ _ (by have := ((hp1.1 z hz).1.lt g hg').1; show g ≠ h + 2; omega))

theorem rg_heap {w w' : World} {v : Value} {n : Nat} {L : List Lnk} (hr : RG w v n L) (hz : w.heap.size ≤ w'.heap.size) (hs : ∀ b, b < w.heap.size → w'.heap[b]? = w.heap[b]?) : RG w' v n L :=
  show RG { w with heap := w'.heap } v n L from hr.keep ⟨rfl, rfl, rfl, hz, hs⟩

/-- chips below the valences -/
def preF (n : Nat) (L : List Lnk) (q v : Nat) (f : Nat → Int) : Prop := ∀ i, i < v → 0 ≤ f i ∧ f i ≤ grtV n L q i
theorem preF_pil (hP : PG n L q) {f : Nat → Int} (hp : preF n L q n f) : PilZ n q 1000 f ∧ (grL n L hP.good).Stab q f := by
  have hg := grt_pil hP
  refine ⟨⟨fun v h1 h2 => ?_, ?_⟩, fun v h1 h2 => ?_⟩
  · have := hp v h1; have := hg.1 v h1 h2; omega
  · have h3 := hp q hP.hq
    rw [hg.2] at h3
    omega
  · have h3 := hp v h1
    unfold grtV at h3
    rw [if_neg h2] at h3
    have h4 : (grL n L hP.good).val v = valV n L v := rfl
    omega
theorem preF_step {f g : Nat → Int} {v : Nat} {x : Int} (hp : preF n L q v f) (hg : ∀ i, i < v → g i = f i) (hx : 0 ≤ x ∧ x ≤ grtV n L q v) : preF n L q (v + 1) (upd g v x) := fun i hi => by
  unfold upd
  by_cases e : i = v
  · rw [if_pos e, e]; exact hx
  · rw [if_neg e, hg i (by omega)]; exact hp i (by omega)

theorem step_append_vals {w : World} {ops : Array Oper} {o : Oper} {a : Act} {K : Act → World → Prop} {E : Prop} (hgd : o.guard = none) (s x : Operand)
    (ho : o.op = .call { callee := .builtin .append, args := #[s, x], argTypes := #[44, 44] }) (lo : Nat) (v : Value) (Z Y : List (Value × List Int)) (ad : Option Addr) (c : Nat) (hs : a.eval s = v) (hx : a.eval x = .slice ad Y.length c)
    (hF : OMat w lo v Z) (hn : ad = none → Y = []) (hc : ∀ (a : Addr) (j : Nat) (z : Value × List Int), ad = some a → Y[j]? = some z → w.cell? (a.add j) = some z.1) (h1 : ∀ z ∈ Y, z.1.oneCell' = true) (hlen : Z.length + Y.length ≤ 1099511627776) (hls : lo ≤ w.heap.size)
    (h : ∀ v' w', OMat w' lo v' (Z ++ Y) → w.grownBy w' v.ownBlock → (v'.ownBlock = v.ownBlock ∨ v'.ownBlock = some w.heap.size) → K (a.put o.dst v') w') {Q : Exit → Act → World → Prop} :
    if Region.wanted o (yielded ops a.tmps) = true then Oper.wp Try.prog o a w K Q else E := by
  have hw : Region.wanted o (yielded ops a.tmps) = true := by simp [Region.wanted, hgd]
  rw [if_pos hw]
  obtain ⟨v', w', hr', h2, h3, h4⟩ := run_append_vals (c := c) o.type hF hn hc h1 hlen hls
  unfold Oper.wp execOp
  simp only [ho, resolve, invoke, builtin, Sem.run_bind, Sem.run_pure, Result.andThen_ok, List.map_toArray, List.map_cons, List.map_nil, hs, hx, hr']
  exact h v' w' h2 h3 h4
theorem row_cell1 {w : World} (u : Value) : ∀ (a : Addr) (j : Nat) (z : Value × List Int) (x : List Int), some (⟨w.heap.size, 0, none⟩ : Addr) = some a → [(u, x)][j]? = some z → (w.alloc (.cells #[u] 25)).cell? (a.add j) = some z.1 := by
  rintro a j z x he hz
  cases he
  cases j with
  | zero => simp at hz; subst hz; rw [addr_add]; exact cell_new _ _ _
  | succ j => simp at hz

/-- a call of the function value -/
def RetPs (h n q p : Nat) (L : List Lnk) (v : Nat) (f : Nat → Int) (M : List (List Int)) (e : Ending) (w' : World) : Prop :=
  e = .returned (.tuple #[]) ∧ ∃ lv Z f', PsSt h n q p L w' lv Z f' ∧ (∀ i, i < v → f' i = f i) ∧ Z.map Prod.snd = M

set_option maxRecDepth 100000 in
set_option maxHeartbeats 4000000 in
theorem recNext_leaf (hP : PG n L q) (wp : World) (f : Nat → Int) (lv : Value) (Z : List (Value × List Int)) (w : World) (s : PsSt wp.heap.size n q p L w lv Z f) (hp : preF n L q n f) (hb0 : Below wp.heap.size wp w) (hl : Z.length ≤ 1000000000) :
    Calls Try.prog 83 #[.int .i64 n, .pointer (some ⟨wp.heap.size, 0, none⟩), .pointer (some ⟨wp.heap.size + 4, 0, none⟩), .pointer (some ⟨wp.heap.size + 2, 0, none⟩), .pointer (some ⟨wp.heap.size + 5, 0, none⟩)] w
      fun e w' => RetPs wp.heap.size n q p L n f (Z.map Prod.snd ++ piM n L q (lst n f)) e w' ∧ Below wp.heap.size wp w' := by
  have hn8 := hP.good.n8
  have hn1 := hP.good.n1
  have S := hid s
  have HB := hid hb0
  obtain ⟨H, hH⟩ : ∃ H, wp.heap.size = H := ⟨_, rfl⟩
  rw [hH] at S HB ⊢
  have hlt := S.out.lt
  have hc0 : w.cell? ⟨p, 0, none⟩ = some (.int .i64 n) := by
    obtain ⟨g2, bt, vt, hgg, c0, _⟩ := S.out.gr
    simp only [Value.pointer.injEq, Option.some.injEq, Addr.mk.injEq, and_true] at hgg
    subst hgg
    exact c0
  obtain ⟨t0, t1⟩ := S.out.tcell
  have e2 := S.out.bd.cell
  obtain ⟨hpz, hst⟩ := preF_pil hP hp
  have hleaf := piM_leaf (L := L) (q := q) (lst_len n f)
  have hrec : recB n L q (fun i => (lst n f).getD i 0) = recB n L q f := by
    rw [Bool.eq_iff_iff, recB_iff hP.good, recB_iff hP.good]
    exact ⟨fun h => h.congr (fun v hv _ => lst_at f hv), fun h => h.congr (fun v hv _ => (lst_at f hv).symm)⟩
  rw [hrec] at hleaf
  have HLEAF := hid hleaf
  have HPZ := hid (And.intro hpz hst)
  have hll : (lst n f).length ≤ 1048576 := by rw [lst_len]; omega
  clear s hp hb0 hH hpz hst hleaf hrec
  go_enter Try.func83, Try.ntmps83
  go_wp2_with fail
  refine (isRecurrent_c n q p _ L f _ hP S.out.gr S.out.ds.r HPZ.out.1 HPZ.out.2).mono ?_
  rintro e w1 ⟨rfl, hb1⟩
  have S1 := hid (S.out.keep hb1)
  have HB1 := hid (HB.out.trans (hb1.mono (show H ≤ w.heap.size by omega)))
  have hs1 := hb1.size
  clear hb1 hc0 t0 t1 e2
  rcases Bool.eq_false_or_eq_true (recB n L q f) with t | t
  · have HM : Hid (piM n L q (lst n f) = [lst n f]) := by show _ = _; rw [HLEAF.out, t]; rfl
    rw [t]
    have b2 := S1.out.bo.cell
    have b4 := S1.out.bd.cell
    obtain ⟨al, cl, rfl⟩ := S1.out.rows.form
    have HDS : Hid (RInts w1.drew (.slice (some ⟨H + 3, 0, none⟩) n n) (lst n f)) := S1.out.ds.r
    have hlo1 := S1.out.lt
    have hzl : Z.length + 1 ≤ 1099511627776 := by omega
    have HZL := hid hzl
    clear hzl hl
    go_upto_region 2 with fail
    go_region_law (first
      | (refine step_append_vals rfl (.tmp 18) (.tmp 21) rfl (H + 1) _ Z [(.slice a5 (lst n f).length c5, lst n f)] _ _ (by simp [Act.eval]) (by simp [Act.eval]; rfl) HO5.out (by simp) (fun a j z he hz => row_cell1 _ a j z _ he hz) (by simp [Value.oneCell']) HZL.out HLO5.out ?_; intro v6 w6 hO6 hg6 hat6; clear d3; obtain ⟨⟨k1, k2⟩, hS6⟩ := S5.out.push HPZ5.out HF5.out hlo1 hsz5 hO6 hg6 (by rw [World.size_alloc] at hat6; exact hat6); obtain ⟨a6, c6, rfl⟩ : ∃ a c, v6 = .slice a (Z.length + 1) c := (by obtain ⟨a, c, e⟩ := hO6.form; exact ⟨a, c, by rw [e]; simp⟩); have HS6 := hid hS6; have hb6 := (HB5.out.alloc hz5 (.cells #[.slice a5 (lst n f).length c5] 25)).grown hg6 hz6 (fun g hg => by have := S5.out.lat g hg; omega); have HB6 := hid (hb6.setCell (p := ⟨H + 2, 0, none⟩) (show H ≤ H + 2 from Nat.le_add_right H 2) (.slice a6 (Z.length + 1) c6)); clear hO6 hg6 hat6 hS6 hb6)
      | (go_simp; go_at_call 72; (with_reducible refine (clone_c _ (lst n f) _ HDS.out hll).mono ?_); rintro e w5 ⟨u5, rfl, hF5, hb5⟩; have d2 := (hb5.cell (p := ⟨H + 2, 0, none⟩) S1.out.bo.lt).trans b2; have S5 := hid (S1.out.keep (below_of_drew hb5)); obtain ⟨a5, c5, rfl⟩ := hF5.form; have HF5 := hid (show FInts w5 w1.heap.size w5.heap.size (.slice a5 (lst n f).length c5) (lst n f) from hF5); have HPZ5 := hid (S1.out.pool.keep (below_of_drew hb5)); have hsz5 : w1.heap.size ≤ w5.heap.size := hb5.size; have hz5 : H ≤ w5.heap.size := Nat.le_trans (show H ≤ w1.heap.size by omega) hsz5; have HB5 := hid (HB1.out.trans ((show Below w1.heap.size w1 w5 from below_of_drew hb5).mono (show H ≤ w1.heap.size by omega))); have hz6 : H ≤ (w5.alloc (.cells #[.slice a5 (lst n f).length c5] 25)).heap.size := (by simp; omega); have d3 : (w5.alloc (.cells #[.slice a5 (lst n f).length c5] 25)).cell? ⟨H + 2, 0, none⟩ = some (.slice al Z.length cl) := (by rw [World.cell?_alloc_lt _ _ _ (cell_lt d2)]; exact d2); have HO5 := hid (S5.out.rows.keep (w' := w5.alloc (.cells #[.slice a5 (lst n f).length c5] 25)) ((Below.refl _ _).alloc (Nat.le_refl _) _)); have HLO5 := hid (show H + 1 ≤ (w5.alloc (.cells #[.slice a5 (lst n f).length c5] 25)).heap.size by rw [World.size_alloc]; omega); clear hF5))
    all_goals
      go_wp2
      refine bodyPost_ret (v := .tuple #[]) (by simp [results, Try.results83, go_sem]) rfl ?_
      exact ⟨⟨rfl, _, _, f, HS6.out, fun _ _ => rfl, by rw [HM.out, List.map_append]; rfl⟩, HB6.out⟩
  · have HM : Hid (piM n L q (lst n f) = []) := by show _ = _; rw [HLEAF.out, t]; rfl
    rw [t]
    go_wp2
    refine bodyPost_ret (v := .tuple #[]) (by simp [results, Try.results83, go_sem]) rfl ?_
    exact ⟨⟨rfl, lv, Z, f, S1.out, fun _ _ => rfl, by rw [HM.out, List.append_nil]⟩, HB1.out⟩

end Go.Proofs.Ytifdhapaonideaa
