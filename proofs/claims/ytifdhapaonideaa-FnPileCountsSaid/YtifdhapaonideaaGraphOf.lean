/- The program's graphs: graphOf. -/
import Derived.Test.YtifdhapaonideaaLap
import Derived.Deep.RegionHeld3
namespace Go.Proofs.Ytifdhapaonideaa
open Go.RowKit
open Go.Lib (hid)

/-- the number of edges -/
def edgL (L : List Lnk) : Int := (L.map Lnk.n).sum
/-- the valences -/
def valV (n : Nat) (L : List Lnk) (v : Nat) : Int := sumN n (mulL L v)
/-- p is the program's graph of links -/
def RG (w : World) (p : Value) (n : Nat) (L : List Lnk) : Prop :=
  ∃ g bt vt, p = .pointer (some ⟨g, 0, none⟩) ∧ w.cell? ⟨g, 0, none⟩ = some (.int .i64 n) ∧ w.cell? ⟨g, 1, none⟩ = some bt ∧ w.cell? ⟨g, 2, none⟩ = some vt ∧ w.cell? ⟨g, 3, none⟩ = some (.int .i64 (edgL L)) ∧
    RMat w bt (mat n (mulL L)) ∧ RInts w vt (lst n (valV n L))
theorem RG.keep {w w' : World} {p : Value} {n : Nat} {L : List Lnk} (h : RG w p n L) (hb : Below w.heap.size w w') : RG w' p n L := by
  obtain ⟨g, bt, vt, rfl, c0, c1, c2, c3, hm, hv⟩ := h
  exact ⟨g, bt, vt, rfl, (hb.cell (p := ⟨g, 0, none⟩) (cell_lt c0)).trans c0, (hb.cell (p := ⟨g, 1, none⟩) (cell_lt c1)).trans c1, (hb.cell (p := ⟨g, 2, none⟩) (cell_lt c2)).trans c2, (hb.cell (p := ⟨g, 3, none⟩) (cell_lt c3)).trans c3, hm.keep hb, hv.keep hb⟩
theorem RG.drewN {w : World} {p : Value} {n q : Nat} {L : List Lnk} (h : RG w p n L) : RG (w.drewN q) p n L := h
theorem RG.form {w : World} {p : Value} {n : Nat} {L : List Lnk} (h : RG w p n L) : ∃ g, p = .pointer (some ⟨g, 0, none⟩) := by
  obtain ⟨g, bt, vt, rfl, _⟩ := h; exact ⟨g, rfl⟩

theorem edgL_snoc (P : List Lnk) (x : Lnk) : edgL (P ++ [x]) = edgL P + x.n := by simp [edgL]
theorem edgL_bound {n : Nat} {L : List Lnk} (h : GoodL n L) : 0 ≤ edgL L ∧ edgL L ≤ 320 := by
  -- each link is counted twice in the valences
  have key : ∀ P : List Lnk, (∀ x ∈ P, 0 ≤ x.a ∧ x.a < x.b ∧ x.b < n ∧ 1 ≤ x.n ∧ x.n ≤ 5) → sumN n (valV n P) = 2 * edgL P := by
    intro P
    induction P with
    | nil => intro _; exact sumN_zero (fun v _ => sumN_zero (fun u _ => rfl))
    | cons x xs ih =>
      intro hP
      have ih := ih (fun y hy => hP y (by simp [hy]))
      obtain ⟨h1, h2, h3, h4, h5⟩ := hP x (by simp)
      obtain ⟨a, ha⟩ : ∃ a : Nat, x.a = a := ⟨x.a.toNat, by omega⟩
      obtain ⟨b, hb⟩ : ∃ b : Nat, x.b = b := ⟨x.b.toNat, by omega⟩
      have e1 : ∀ v, v < n → valV n (x :: xs) v = (if v = a then x.n else 0) + (if v = b then x.n else 0) + valV n xs v := by
        intro v hv
        unfold valV
        rw [sumN_congr (fun u _ => mulL_cons x xs v u), sumN_add]
        congr 1
        by_cases ea : v = a
        · rw [if_pos ea, if_neg (by omega), sumN_one (v := b) _ (by omega) (fun i _ hi => if_neg (by rw [isLnk_iff]; omega)), if_pos (by rw [isLnk_iff]; omega)]; omega
        · by_cases eb : v = b
          · rw [if_neg ea, if_pos eb, sumN_one (v := a) _ (by omega) (fun i _ hi => if_neg (by rw [isLnk_iff]; omega)), if_pos (by rw [isLnk_iff]; omega)]; omega
          · rw [if_neg ea, if_neg eb, sumN_zero (fun i _ => if_neg (by rw [isLnk_iff]; omega))]; rfl
      rw [sumN_congr e1, sumN_add, sumN_add, ih, sumN_one (v := a) _ (by omega) (fun i _ hi => if_neg hi), sumN_one (v := b) _ (by omega) (fun i _ hi => if_neg hi), if_pos rfl, if_pos rfl]
      unfold edgL
      rw [List.map_cons, List.sum_cons]; omega
  have h1 := key L h.each
  have h2 : sumN n (valV n L) ≤ sumN n (fun _ => 35) := sumN_le (fun v hv => (grL n L h).val_le v hv)
  have h3 : 0 ≤ sumN n (valV n L) := sumN_nonneg (fun v _ => (grL n L h).val_nonneg v)
  rw [Gr.sumN_const] at h2
  have := h.n8
  omega

theorem step_append_row {w : World} {ops : Array Oper} {o : Oper} {a : Act} {K : Act → World → Prop} {E : Prop} (hgd : o.guard = none) (s x : Operand)
    (ho : o.op = .call { callee := .builtin .append, args := #[s, x], argTypes := #[44, 44] }) (lo hi lr hr : Nat) (v r : Value) (ad : Addr) (c : Nat) (M : List (List Int)) (y : List Int) (hs : a.eval s = v) (hx : a.eval x = .slice (some ad) 1 c)
    (hF : FMat w lo hi v M) (hrow : FInts w lr hr r y) (hcell : w.cell? ad = some r) (hlr : hi ≤ lr) (hlo : lo ≤ lr) (hlen : M.length ≤ 1099511627776) (hls : lo ≤ w.heap.size)
    (h : ∀ v' w', FMat w' lo w'.heap.size v' (M ++ [y]) → w.grownBy w' v.ownBlock → v' ≠ .slice none 0 0 → K (a.put o.dst v') w') {Q : Exit → Act → World → Prop} :
    if Region.wanted o (yielded ops a.tmps) = true then Oper.wp Try.prog o a w K Q else E := by
  have hw : Region.wanted o (yielded ops a.tmps) = true := by simp [Region.wanted, hgd]
  rw [if_pos hw]
  obtain ⟨v', w', hr', h2, h3, h4⟩ := run_append_row (c := c) o.type hF hrow hlr hlo hcell hlen hls
  unfold Oper.wp execOp
  simp only [ho, resolve, invoke, builtin, Sem.run_bind, Sem.run_pure, Result.andThen_ok, List.map_toArray, List.map_cons, List.map_nil, hs, hx, hr']
  exact h v' w' h2 h3 h4

/-- the graph while it is made: its own block B, its valences in the block ahead of it -/
structure OG (w0 : World) (n : Nat) (wr : World) (hi : Nat) (bt : Value) (M : List (List Int)) (val : Nat → Int) (ed : Int) : Prop where
  box : wr.heap[w0.heap.size + 1]? = some (.cells #[.int .i64 n, bt, .slice (some ⟨w0.heap.size, 0, none⟩) n n, .int .i64 ed] 81 (0, 0))
  btw : FMat wr (w0.heap.size + 2) hi bt M
  vals : FInts wr w0.heap.size (w0.heap.size + 1) (.slice (some ⟨w0.heap.size, 0, none⟩) n n) (lst n val)
  below : Below w0.heap.size w0 wr
  lt : w0.heap.size + 2 ≤ wr.heap.size
  hi : hi ≤ wr.heap.size

theorem og_cells {w0 : World} {n : Nat} {wr : World} {hi : Nat} {bt : Value} {M : List (List Int)} {val : Nat → Int} {ed : Int} (h : OG w0 n wr hi bt M val ed) :
    wr.cell? ⟨w0.heap.size + 1, 0, none⟩ = some (.int .i64 n) ∧ wr.cell? ⟨w0.heap.size + 1, 1, none⟩ = some bt ∧ wr.cell? ⟨w0.heap.size + 1, 2, none⟩ = some (.slice (some ⟨w0.heap.size, 0, none⟩) n n) ∧ wr.cell? ⟨w0.heap.size + 1, 3, none⟩ = some (.int .i64 ed) ∧
      ∀ i, wr.frozen? ⟨w0.heap.size + 1, i, none⟩ = false := by
  refine ⟨?_, ?_, ?_, ?_, fun i => frozen_of_row _ _ _ _ _ h.box⟩ <;> (rw [cell_of_row _ _ _ _ _ _ h.box]; rfl)
theorem OG.keep {w0 : World} {n : Nat} {wr w' : World} {hi : Nat} {bt : Value} {M : List (List Int)} {val : Nat → Int} {ed : Int} (h : OG w0 n wr hi bt M val ed) (hb : Below wr.heap.size wr w') : OG w0 n w' hi bt M val ed :=
  ⟨(hb.block _ (by have := h.lt; omega)).trans h.box, h.btw.keep hb, h.vals.keep hb, h.below.trans (hb.mono (by have := h.lt; omega)), by have := h.lt; have := hb.size; omega, by have := h.hi; have := hb.size; omega⟩
theorem OG.done {w0 : World} {n : Nat} {wr : World} {hi : Nat} {bt : Value} {L : List Lnk} (h : OG w0 n wr hi bt (mat n (mulL L)) (valV n L) (edgL L)) : RG wr (.pointer (some ⟨w0.heap.size + 1, 0, none⟩)) n L := by
  obtain ⟨c0, c1, c2, c3, _⟩ := og_cells h
  exact ⟨_, _, _, rfl, c0, c1, c2, c3, h.btw.r, h.vals.r⟩

theorem OG.push {w0 : World} {n : Nat} {wr wa w2 : World} {bt bt' : Value} {M M' : List (List Int)} {val : Nat → Int} {ed : Int} (h : OG w0 n wr wr.heap.size bt M val ed) (hb : Below wr.heap.size wr wa) (hg : wa.grownBy w2 bt.ownBlock) (hF : FMat w2 (w0.heap.size + 2) w2.heap.size bt' M') :
    (w2.cell? ⟨w0.heap.size + 1, 1, none⟩ = some bt ∧ w2.frozen? ⟨w0.heap.size + 1, 1, none⟩ = false) ∧ OG w0 n (w2.setCell ⟨w0.heap.size + 1, 1, none⟩ bt') w2.heap.size bt' M' val ed := by
  have ha := h.keep hb
  have hlt := ha.lt
  have hg2 := hg.size
  have hne : ∀ k, bt.ownBlock = some k → w0.heap.size + 2 ≤ k := own_blocks ha.btw
  have hbox : w2.heap[w0.heap.size + 1]? = some (.cells #[.int .i64 n, bt, .slice (some ⟨w0.heap.size, 0, none⟩) n n, .int .i64 ed] 81 (0, 0)) :=
    (hg.block _ (by omega) (fun e => by have := hne _ e.symm; omega)).trans ha.box
  have hset := heap_setCell_same w2 (w0.heap.size + 1) 1 _ _ bt' hbox
  have hss : (w2.setCell ⟨w0.heap.size + 1, 1, none⟩ bt').heap.size = w2.heap.size := by simp [World.setCell]
  have hoth : ∀ b, b ≠ w0.heap.size + 1 → (w2.setCell ⟨w0.heap.size + 1, 1, none⟩ bt').heap[b]? = w2.heap[b]? := fun b hb => heap_setCell_other _ _ _ _ hb
  refine ⟨⟨by rw [cell_of_row _ _ _ _ _ _ hbox]; rfl, frozen_of_row _ _ _ _ _ hbox⟩, ⟨hset, hF.same (fun b h1 _ _ => hoth b (by omega)), ?_, (ha.below.grown hg (by omega) (fun k hk => by have := hne k hk; omega)).setCell (by show w0.heap.size ≤ w0.heap.size + 1; omega) _, by rw [hss]; omega, by rw [hss]; exact Nat.le_refl _⟩⟩
  refine ⟨own_same ha.vals.1 (fun g hg' => ?_), ha.vals.2⟩
  have h1 := ha.vals.2 g hg'
  rw [hoth g (by omega)]
  exact hg.block g (by omega) (fun e => by have := hne _ e.symm; omega)
theorem OG.start {w0 : World} {n : Nat} (hn : n ≤ 1048576) : OG w0 n ((w0.alloc (.cells (madeCells #[.int .i64 0] n) 3)).alloc (.cells #[.int .i64 n, .slice none 0 0, .slice (some ⟨w0.heap.size, 0, none⟩) n n, .int .i64 0] 81))
    ((w0.alloc (.cells (madeCells #[.int .i64 0] n) 3)).alloc (.cells #[.int .i64 n, .slice none 0 0, .slice (some ⟨w0.heap.size, 0, none⟩) n n, .int .i64 0] 81)).heap.size (.slice none 0 0) ((List.range 0).map (fun _ => lst n (fun _ => 0))) (fun _ => 0) 0 := by
  have h1 := fi_made w0 n hn
  have hb1 : Below w0.heap.size w0 (w0.alloc (.cells (madeCells #[.int .i64 0] n) 3)) := (Below.refl _ _).alloc (Nat.le_refl _) _
  have hs1 : (w0.alloc (.cells (madeCells #[.int .i64 0] n) 3)).heap.size = w0.heap.size + 1 := by simp
  refine ⟨by rw [← hs1]; exact heap_alloc_new _ _, mat_nil _ _ _, h1.keep ((Below.refl _ _).alloc (Nat.le_refl _) _), hb1.alloc (by omega) _, by simp, Nat.le_refl _⟩

theorem fm_row {w : World} {lo hi g n cap : Nat} {M : List (List Int)} (h : FMat w lo hi (.slice (some ⟨g, 0, none⟩) n cap) M) {i r k c : Nat} (hc : w.cell? ⟨g, i, none⟩ = some (.slice (some ⟨r, 0, none⟩) k c)) (hil : i < M.length) : lo ≤ r ∧ r < hi := by
  obtain ⟨g', r', y, he, _, _, hc', _, hr, _⟩ := h.at (i := i) hil
  simp only [Option.some.injEq, Addr.mk.injEq, and_true] at he
  subst he
  rw [hc] at hc'
  simp only [Option.some.injEq] at hc'
  subst hc'
  exact ⟨(hr.1.lt r rfl).1, hr.2 r rfl⟩
theorem OG.touchM {w0 : World} {n : Nat} {wr w' : World} {hi : Nat} {bt : Value} {M M' : List (List Int)} {val : Nat → Int} {ed : Int} (h : OG w0 n wr hi bt M val ed) (hF : FMat w' (w0.heap.size + 2) hi bt M') (ht : Touch (w0.heap.size + 2) hi wr w') : OG w0 n w' hi bt M' val ed := by
  have hlt := h.lt
  refine ⟨(ht.block _ (by omega) (by omega)).trans h.box, hF, h.vals.same (.of_touch ht (by omega)), h.below.trans (ht.below (by omega) (by omega)), Nat.le_trans hlt ht.size, Nat.le_trans h.hi ht.size⟩
theorem OG.touchV {w0 : World} {n : Nat} {wr w' : World} {hi : Nat} {bt : Value} {M : List (List Int)} {val val' : Nat → Int} {ed : Int} (h : OG w0 n wr hi bt M val ed) (hF : FInts w' w0.heap.size (w0.heap.size + 1) (.slice (some ⟨w0.heap.size, 0, none⟩) n n) (lst n val')) (ht : Touch w0.heap.size (w0.heap.size + 1) wr w') : OG w0 n w' hi bt M val' ed := by
  have hlt := h.lt
  refine ⟨(ht.block _ (by omega) (by omega)).trans h.box, h.btw.same (.of_touch ht (by omega)), hF, h.below.trans (ht.below (by omega) (by omega)), Nat.le_trans hlt ht.size, Nat.le_trans h.hi ht.size⟩
theorem OG.setE {w0 : World} {n : Nat} {wr : World} {hi : Nat} {bt : Value} {M : List (List Int)} {val : Nat → Int} {ed : Int} (h : OG w0 n wr hi bt M val ed) (e : Int) : OG w0 n (wr.setCell ⟨w0.heap.size + 1, 3, none⟩ (.int .i64 e)) hi bt M val e := by
  have hlt := h.lt
  have hset := heap_setCell_same wr (w0.heap.size + 1) 3 _ _ (.int .i64 e) h.box
  have hss : (wr.setCell ⟨w0.heap.size + 1, 3, none⟩ (.int .i64 e)).heap.size = wr.heap.size := by simp [World.setCell]
  have hoth : ∀ b, b ≠ w0.heap.size + 1 → (wr.setCell ⟨w0.heap.size + 1, 3, none⟩ (.int .i64 e)).heap[b]? = wr.heap[b]? := fun b hb => heap_setCell_other _ _ _ _ hb
  exact ⟨hset, h.btw.same (fun b h1 _ _ => hoth b (by omega)), h.vals.same (fun b _ h2 _ => hoth b (by omega)), h.below.setCell (by show w0.heap.size ≤ w0.heap.size + 1; omega) _, by rw [hss]; exact hlt, by rw [hss]; exact h.hi⟩
theorem mat_mul_step {n : Nat} {P : List Lnk} {a b : Nat} {z : Int} (hP : ∀ x ∈ P, isLnk a b x = false) :
    mat n (upd2 (upd2 (mulL P) a b z) b a z) = mat n (mulL (P ++ [⟨a, b, z⟩])) := by
  refine mat_congr fun v u _ _ => ?_
  rw [mulL_snoc]
  have h0 : mulL P a b = 0 := mulL_none hP
  unfold upd2
  by_cases e1 : v = b ∧ u = a
  · obtain ⟨rfl, rfl⟩ := e1
    rw [if_pos ⟨rfl, rfl⟩, if_pos (isLnk_iff.2 (.inr ⟨rfl, rfl⟩)), mulL_sym, h0]; simp
  · rw [if_neg e1]
    by_cases e2 : v = a ∧ u = b
    · obtain ⟨rfl, rfl⟩ := e2
      rw [if_pos ⟨rfl, rfl⟩, if_pos (isLnk_iff.2 (.inl ⟨rfl, rfl⟩)), h0]; simp
    · rw [if_neg e2, if_neg (by rw [isLnk_iff]; dsimp only; omega)]; omega
theorem lst_val_step {n : Nat} {P : List Lnk} {a b : Nat} {z : Int} (ha : a < n) (hb : b < n) (hab : a ≠ b) :
    lst n (upd (upd (valV n P) a (valV n P a + z)) b (upd (valV n P) a (valV n P a + z) b + z)) = lst n (valV n (P ++ [⟨a, b, z⟩])) := by
  refine lst_congr fun v hv => ?_
  have h := lap_snoc (P := P) (z := z) ha hb v v
  unfold lapV at h
  rw [if_pos rfl, if_pos rfl, if_pos rfl] at h
  have h' : valV n (P ++ [⟨a, b, z⟩]) v = valV n P v + if v = a ∨ v = b then z else 0 := h
  rw [h']
  unfold upd
  by_cases e1 : v = b
  · rw [if_pos e1, if_neg (fun e => hab e.symm), if_pos (Or.inr e1), e1]
  · rw [if_neg e1]
    by_cases e2 : v = a
    · rw [if_pos e2, if_pos (Or.inl e2), e2]
    · rw [if_neg e2, if_neg (by omega)]; omega

set_option maxRecDepth 100000 in
set_option maxHeartbeats 4000000 in
theorem graphOf_no (n : Int) (v : Value) (L : List Lnk) (w : World) (h : RLinks w v L) (hG : goodG n L = false) :
    Calls Try.prog 86 #[.int .i64 n, v] w fun e w' => e = .returned (.tuple #[.pointer none, .bool false]) ∧ Below w.heap.size w w' := by
  have HR := hid h
  obtain ⟨a, cap, rfl, h1, h2, hc⟩ := h
  clear hc
  go_enter Try.func86, Try.ntmps86
  go_wp2_with fail
  refine (isGraph_c n _ L _ HR.out).mono ?_
  rintro e w1 ⟨rfl, hb1⟩
  rw [hG]
  go_wp2
  go_ret2
  exact ⟨rfl, hb1⟩

set_option maxRecDepth 100000 in
set_option maxHeartbeats 4000000 in
theorem graphOf_c (n : Nat) (v : Value) (L : List Lnk) (w : World) (h : RLinks w v L) (hG : GoodL n L) (hg : goodG n L = true) :
    Calls Try.prog 86 #[.int .i64 n, v] w fun e w' => ∃ g, e = .returned (.tuple #[.pointer (some ⟨g, 0, none⟩), .bool true]) ∧ RG w' (.pointer (some ⟨g, 0, none⟩)) n L ∧ Below w.heap.size w w' := by
  have HR := hid h
  obtain ⟨a, cap, rfl, h1, h2, hc⟩ := h
  clear hc
  unfold maxLen at h2
  have hn8 := hG.n8
  have hn1 := hG.n1
  have HG := hid hG; clear hG
  have hmk := run_make_row' (P := Try.prog) 25 3 (.int .i64 0) 8 Try.underlying25 Try.infoInt rfl .i64 .i64 n (by omega) (by omega)
  go_enter Try.func86, Try.ntmps86
  go_wp2_with fail
  refine (isGraph_c n _ L _ HR.out).mono ?_
  rintro e w0 ⟨rfl, hb1⟩
  rw [hg]
  have HB1 := hid hb1
  have HR1 := hid (HR.out.keep hb1)
  have hbz := hb1.size
  clear hb1 hg
  go_wp2
  go_loopg [19] n (fun gk i wr => ∃ k : Nat, ∃ bt, k ≤ n ∧ gk = n - k ∧ i = .int .i64 k ∧ OG w0 n wr wr.heap.size bt ((List.range k).map (fun _ => lst n (fun _ => 0))) (fun _ => 0) 0)
  case atStart => exact ⟨0, _, Nat.zero_le _, rfl, rfl, OG.start (by omega)⟩
  case round =>
    obtain ⟨k, bt, hk, rfl, rfl, hog⟩ := hrel
    by_cases hlt : k < n
    · have hkz : (k : Int) < (n : Int) := by omega
      obtain ⟨wq, hwq⟩ : ∃ wq : World, wq = wr.drew := ⟨_, rfl⟩
      have hogq : OG w0 n wq wq.heap.size bt ((List.range k).map (fun _ => lst n (fun _ => 0))) (fun _ => 0) 0 := by rw [hwq]; exact hog.keep (Below.refl _ _).drew
      obtain ⟨b0, b1, b2, b3, _⟩ := og_cells hog
      have hb1 : Below wq.heap.size wq (wq.alloc (.cells (madeCells #[.int .i64 0] n) 3)) := (Below.refl _ _).alloc (Nat.le_refl _) _
      have hu := fi_made wq n (by omega)
      have hu' : FInts (wq.alloc (.cells (madeCells #[.int .i64 0] n) 3)) wq.heap.size (wq.alloc (.cells (madeCells #[.int .i64 0] n) 3)).heap.size (.slice (some ⟨wq.heap.size, 0, none⟩) n n) (lst n (fun _ => 0)) := by simp; exact hu
      have hbB : Below (w0.heap.size + 2) wq wq := Below.refl _ _
      obtain ⟨q1, q2, q3, q4, q5⟩ := row_one hogq.btw hbB hogq.lt hb1 hu'
      have q3' : ((wq.alloc (.cells (madeCells #[.int .i64 0] n) 3)).alloc (.cells #[.slice (some ⟨wq.heap.size, 0, none⟩) n n] 25)).cell? ⟨wq.heap.size + 1, 0, none⟩ = some (.slice (some ⟨wq.heap.size, 0, none⟩) n n) := by rw [← q3]; simp
      have HBA : Hid (Below wq.heap.size wq ((wq.alloc (.cells (madeCells #[.int .i64 0] n) 3)).alloc (.cells #[.slice (some ⟨wq.heap.size, 0, none⟩) n n] 25))) := hb1.alloc hb1.size _
      have HOG := hid hogq
      have HQ4 := hid q4
      have HQ1 := hid q1
      have HQ2 := hid q2
      have HQ3 := hid q3'
      have HT := hid (mat_zero_succ n k)
      have hkl : ((List.range k).map (fun _ => lst n (fun _ => 0))).length ≤ 1099511627776 := by simp; omega
      have hlow := hogq.lt
      clear hog hogq hu hu' hb1 q1 q2 q3 q3' q4 q5 b0 b2 b3 hbB
      have b1a : (wr.alloc (.cells (madeCells #[.int .i64 0] n) 3)).cell? ⟨w0.heap.size + 1, 1, none⟩ = some bt := by rw [World.cell?_alloc_lt _ _ _ (cell_lt b1)]; exact b1
      have b1b : ((wr.alloc (.cells (madeCells #[.int .i64 0] n) 3)).alloc (.cells #[.slice (some ⟨wr.heap.size, 0, none⟩) n n] 25)).cell? ⟨w0.heap.size + 1, 1, none⟩ = some bt := by rw [World.cell?_alloc_lt _ _ _ (cell_lt b1a)]; exact b1a
      subst hwq
      go_wp2
      go_region_law ((refine step_append_row rfl (.tmp 25) (.tmp 28) rfl _ _ _ _ _ _ _ _ _ (lst n (fun _ => 0)) (by simp [Act.eval]) (by simp [Act.eval]; rfl) HQ1.out HQ2.out HQ3.out (Nat.le_refl _) hlow hkl HQ4.out ?_; intro v' w2 hF' hg hn; obtain ⟨av, nv, cv, rfl⟩ := hF'.form3; have hF2 := hF'; rw [HT.out] at hF2; obtain ⟨⟨s1, s2⟩, hOG2⟩ := HOG.out.push HBA.out hg hF2; have HOG2 := hid hOG2; clear hF' hF2 hg hn hOG2))
      all_goals
        go_wp2
        go_roundg (n - (k + 1))
        case rel => exact ⟨k + 1, _, by omega, rfl, by go_num, by have := HOG2.out; simpa using this⟩
        case measure => omega
    · obtain rfl : k = n := by omega
      have hm0 : (List.range k).map (fun _ => lst k (fun _ => 0)) = mat k (mulL []) := rfl
      have hv0 : lst k (fun _ => 0) = lst k (valV k []) := lst_congr (fun v _ => (sumN_zero (fun _ _ => rfl)).symm)
      obtain ⟨gM, cM, hv, hlo, hhi⟩ := hog.btw.form_some (by simp; omega)
      rw [hm0, mat_len] at hv
      subst hv
      obtain ⟨w1, hw1⟩ : ∃ w1 : World, w1 = wr := ⟨_, rfl⟩
      subst hw1
      have HS : Hid (OG w0 k w1 w1.heap.size (.slice (some ⟨gM, 0, none⟩) k cM) (mat k (mulL (L.take 0))) (valV k (L.take 0)) (edgL (L.take 0))) :=
        ⟨hog.box, hog.btw, by have := hog.vals; rw [hv0] at this; exact this, hog.below, hog.lt, hog.hi⟩
      have hlow := hog.lt
      clear hog hm0 hv0 hmk
      go_wp2
      go_loopg [35] L.length (fun gk i wr => ∃ j : Nat, j ≤ L.length ∧ gk = L.length - j ∧ i = .int .i64 j ∧ OG w0 k wr w1.heap.size (.slice (some ⟨gM, 0, none⟩) k cM) (mat k (mulL (L.take j))) (valV k (L.take j)) (edgL (L.take j)))
      case atStart => exact ⟨0, Nat.zero_le _, rfl, rfl, HS.out⟩
      case round =>
        obtain ⟨j, hj, rfl, rfl, hog⟩ := hrel
        by_cases hltj : j < L.length
        · obtain ⟨a', cap', hv, _, _, hc⟩ := HR1.out.keep hog.below
          simp only [Value.slice.injEq, true_and] at hv
          obtain ⟨rfl, rfl⟩ := hv
          obtain ⟨g, o, x, y, z, rfl, c1, c2, c3, HD, HX⟩ := links_at hc hltj
          have hmem : (⟨x, y, z⟩ : Lnk) ∈ L := by rw [← HX.out]; simp [List.getD, hltj]
          obtain ⟨e1, e2, e3, e4, e5⟩ := HG.out.each _ hmem
          dsimp only at e1 e2 e3 e4 e5
          obtain ⟨a, rfl⟩ : ∃ a : Nat, x = a := ⟨x.toNat, by omega⟩
          obtain ⟨b, rfl⟩ : ∃ b : Nat, y = b := ⟨y.toNat, by omega⟩
          have ha : a < k := by omega
          have hb : b < k := by omega
          have hab : a ≠ b := by omega
          have htk : L.take (j + 1) = L.take j ++ [⟨(a : Int), (b : Int), z⟩] := by
            rw [List.take_succ_eq_append_getElem hltj]
            have := HX.out
            simp [List.getD, hltj] at this
            rw [this]
          have hP : ∀ x ∈ L.take j, isLnk a b x = false := by
            have hs := (HG.out.take (j + 1)).sorted
            rw [htk, List.pairwise_append] at hs
            intro x hx
            have h1 := aheadB_iff.1 (hs.2.2 x hx ⟨(a : Int), (b : Int), z⟩ (List.mem_singleton.2 rfl))
            have h2 := HG.out.each x (List.mem_of_mem_take hx)
            dsimp only at h1
            cases hl : isLnk a b x with
            | false => rfl
            | true => have := isLnk_iff.1 hl; omega
          have hst1 := mat_mul_step (n := k) (z := z) hP
          have hst2 := lst_val_step (n := k) (P := L.take j) (z := z) ha hb hab
          have hst3 := edgL_snoc (L.take j) ⟨(a : Int), (b : Int), z⟩
          rw [← htk] at hst1 hst2 hst3
          have hbv1 : -100 ≤ valV k (L.take j) a ∧ valV k (L.take j) a ≤ 100 := by
            have h1 := (grL k _ (HG.out.take j)).val_le a ha
            have h2 := (grL k _ (HG.out.take j)).val_nonneg a
            have : valV k (L.take j) a = (grL k _ (HG.out.take j)).val a := rfl
            omega
          have hbv2 : -100 ≤ upd (valV k (L.take j)) a (valV k (L.take j) a + z) b ∧ upd (valV k (L.take j)) a (valV k (L.take j) a + z) b ≤ 100 := by
            have h1 := (grL k _ (HG.out.take j)).val_le b hb
            have h2 := (grL k _ (HG.out.take j)).val_nonneg b
            have : valV k (L.take j) b = (grL k _ (HG.out.take j)).val b := rfl
            rw [upd_other _ _ (fun e => hab e.symm)]; omega
          have hbe := edgL_bound (HG.out.take j)
          have hltz : (j : Int) < (L.length : Int) := by omega
          have haz : (a : Int) < (k : Int) := by omega
          have hbz : (b : Int) < (k : Int) := by omega
          -- the copy of the link
          obtain ⟨wp, hwp⟩ : ∃ wp : World, wp = wr.alloc (.cells #[.int .i64 a, .int .i64 b, .int .i64 z] 104) := ⟨_, rfl⟩
          have hbp : Below wr.heap.size wr wp := by rw [hwp]; exact (Below.refl _ _).alloc (Nat.le_refl _) _
          have hnew := heap_alloc_new wr (.cells #[.int .i64 a, .int .i64 b, .int .i64 z] 104)
          rw [← hwp] at hnew
          have hogp := hog.keep hbp
          have hhi := hog.hi
          have hlo2 := hog.lt
          have HWP := hid hwp
          obtain ⟨va, hva⟩ : ∃ va, valV k (L.take j) = va := ⟨_, rfl⟩
          obtain ⟨ed, hed⟩ : ∃ ed, edgL (L.take j) = ed := ⟨_, rfl⟩
          rw [hva, hed] at hogp
          rw [hva] at hst2 hbv1 hbv2
          rw [hed] at hst3 hbe
          have HST := hid (And.intro hst1 (And.intro hst2 hst3))
          clear hc hbp htk hP hst1 hst2 hst3 hmem HX HD hva hed hwp hog HS
          -- the two entries
          obtain ⟨G, C, hrow, hent, hset⟩ := fm_open hogp.btw (mat_len _ _) (mat_sq _ _) (by omega)
          have hs1 := hset a b z ha hb
          rw [mat_set _ _ ha hb] at hs1
          obtain ⟨b0, b1, b2, b3, b4⟩ := og_cells hogp
          have k0 : wp.cell? ⟨wr.heap.size, 0, none⟩ = some (.int .i64 a) := by rw [cell_of_row _ _ _ _ _ _ hnew]; rfl
          have k1 : wp.cell? ⟨wr.heap.size, 1, none⟩ = some (.int .i64 b) := by rw [cell_of_row _ _ _ _ _ _ hnew]; rfl
          have k2 : wp.cell? ⟨wr.heap.size, 2, none⟩ = some (.int .i64 z) := by rw [cell_of_row _ _ _ _ _ _ hnew]; rfl
          have r1 := hrow a ha
          have r2 := hrow b hb
          have d1 := (hent a b ha hb).1
          have d2 := (hent a b ha hb).2
          have d3 := (hent b a hb ha).1
          have d4 := (hent b a hb ha).2
          have hGa := fm_row hogp.btw r1 (by rw [mat_len]; exact ha)
          have hGb := fm_row hogp.btw r2 (by rw [mat_len]; exact hb)
          have n1 : G a ≠ w0.heap.size + 1 := by omega
          have n2 : G a ≠ gM := fun e => by have h1 := hrow a ha; have h2 := (hent a a ha ha).1; rw [e] at h2; rw [h1] at h2; cases h2
          have n3 : G a ≠ wr.heap.size := by omega
          have n4 : G b ≠ w0.heap.size + 1 := by omega
          have n5 : G b ≠ gM := fun e => by have h1 := hrow b hb; have h2 := (hent b b hb hb).1; rw [e] at h2; rw [h1] at h2; cases h2
          have n6 : G b ≠ wr.heap.size := by omega
          have HS1 := hid hs1
          have HOGP := hid hogp
          have HENT := hid hent
          have HSET := hid hset
          have HB4 := hid b4
          have HROW := hid hrow
          clear hs1 hogp hent hset b4 hrow hGa hGb hnew
          go_wp2
          rw [← HWP.out]
          go_region_held3 (fun w' => w'.cell? ⟨w0.heap.size + 1, 1, none⟩ = some (.slice (some ⟨gM, 0, none⟩) k cM) ∧ w'.cell? ⟨gM, a, none⟩ = some (.slice (some ⟨G a, 0, none⟩) k (C a)) ∧ w'.cell? ⟨gM, b, none⟩ = some (.slice (some ⟨G b, 0, none⟩) k (C b)) ∧
              w'.cell? ⟨wr.heap.size, 0, none⟩ = some (.int .i64 a) ∧ w'.cell? ⟨wr.heap.size, 1, none⟩ = some (.int .i64 b) ∧ w'.cell? ⟨wr.heap.size, 2, none⟩ = some (.int .i64 z)) (go_keep) (fail)
          go_wp2
          obtain ⟨wx1, hwx1⟩ : ∃ wx : World, wx = ((wp.setCell ⟨G a, b, none⟩ (.int .i64 z)).setCell ⟨G b, a, none⟩ (.int .i64 z)).drew := ⟨_, rfl⟩
          have hGG : ∀ G' C' : Nat → Nat, (∀ i, i < k → (wp.setCell ⟨G a, b, none⟩ (.int .i64 z)).cell? ⟨gM, i, none⟩ = some (.slice (some ⟨G' i, 0, none⟩) k (C' i))) → G' b = G b := fun G' C' h => by
            have h1 := h b hb
            rw [World.cell?_setCell_far _ _ _ _ n2, r2] at h1
            simp only [Option.some.injEq, Value.slice.injEq, Addr.mk.injEq, and_true] at h1
            exact h1.1.symm
          obtain ⟨G', C', hrow', _, hset'⟩ := fm_open HS1.out.1 (mat_len _ _) (mat_sq _ _) (by omega)
          have hs2 := hset' b a z hb ha
          rw [hGG G' C' hrow', mat_set _ _ hb ha] at hs2
          have tt0 : Touch (w0.heap.size + 2) w1.heap.size wp wx1 := by rw [hwx1]; exact (HS1.out.2.trans hs2.2).drew
          have OG1 : OG w0 k wx1 w1.heap.size (.slice (some ⟨gM, 0, none⟩) k cM) (mat k (mulL (L.take (j + 1)))) va ed := by
            have := HOGP.out.touchM (w' := wx1) (by rw [hwx1]; exact hs2.1) tt0
            rw [HST.out.1] at this; exact this
          have k0 := tt0.cell (by omega) k0
          have k1 := tt0.cell (by omega) k1
          have k2 := tt0.cell (by omega) k2
          rw [← hwx1]
          clear hwx1 hGG hrow' hset' hs2 tt0 r1 r2 d1 d2 d3 d4 n1 n2 n3 n4 n5 n6 b0 b1 b2 b3
          obtain ⟨vb, hvb⟩ : ∃ vb, upd va a (va a + z) = vb := ⟨_, rfl⟩
          rw [hvb] at hbv2 HST
          obtain ⟨vc, hvc⟩ : ∃ vc, upd vb b (vb b + z) = vc := ⟨_, rfl⟩
          rw [hvc] at HST
          obtain ⟨wq1, hwq1⟩ : ∃ wq : World, wq = wx1.drew := ⟨_, rfl⟩
          obtain ⟨hc1, _, hset1⟩ := fi_open OG1.vals
          obtain ⟨_, _, b21, _, _⟩ := og_cells OG1
          have d11 : wq1.cell? ⟨w0.heap.size + 1, 2, none⟩ = some (.slice (some ⟨w0.heap.size, 0, none⟩) k k) := by rw [hwq1]; exact b21
          have d21 : wq1.cell? ⟨w0.heap.size, a, none⟩ = some (.int .i64 (va a)) := by rw [hwq1]; exact (hc1 a (by omega)).1
          have d31 : wq1.frozen? ⟨w0.heap.size, a, none⟩ = false := by rw [hwq1]; exact (hc1 a (by omega)).2
          have d41 : wq1.cell? ⟨wr.heap.size, 0, none⟩ = some (.int .i64 a) := by rw [hwq1]; exact k0
          have d51 : wq1.cell? ⟨wr.heap.size, 1, none⟩ = some (.int .i64 b) := by rw [hwq1]; exact k1
          have d61 : wq1.cell? ⟨wr.heap.size, 2, none⟩ = some (.int .i64 z) := by rw [hwq1]; exact k2
          have hst1 := hset1 a (va a + z) (by omega)
          rw [hvb] at hst1
          obtain ⟨x1, hx1⟩ : ∃ x, va a = x := ⟨_, rfl⟩
          rw [hx1] at d21 hst1 hbv1
          obtain ⟨wx2, hwx2⟩ : ∃ wx : World, wx = wq1.setCell ⟨w0.heap.size, a, none⟩ (.int .i64 (x1 + z)) := ⟨_, rfl⟩
          have tt1 : Touch w0.heap.size (w0.heap.size + 1) wx1 wx2 := by rw [hwx2, hwq1]; exact ⟨hst1.2.os, hst1.2.tape, hst1.2.output, hst1.2.size, hst1.2.block⟩
          have OG2 : OG w0 k wx2 w1.heap.size (.slice (some ⟨gM, 0, none⟩) k cM) (mat k (mulL (L.take (j + 1)))) vb ed := OG1.touchV (by rw [hwx2, hwq1]; exact hst1.1) tt1
          have k0 := tt1.cell (by omega) k0
          have k1 := tt1.cell (by omega) k1
          have k2 := tt1.cell (by omega) k2
          have HWQ1 := hid hwq1
          have HWX2 := hid hwx2
          clear hc1 hset1 hst1 hwq1 hwx2 tt1 hx1 OG1 b21
          obtain ⟨wq2, hwq2⟩ : ∃ wq : World, wq = wx2.drew := ⟨_, rfl⟩
          obtain ⟨hc2, _, hset2⟩ := fi_open OG2.vals
          obtain ⟨_, _, b22, _, _⟩ := og_cells OG2
          have d12 : wq2.cell? ⟨w0.heap.size + 1, 2, none⟩ = some (.slice (some ⟨w0.heap.size, 0, none⟩) k k) := by rw [hwq2]; exact b22
          have d22 : wq2.cell? ⟨w0.heap.size, b, none⟩ = some (.int .i64 (vb b)) := by rw [hwq2]; exact (hc2 b (by omega)).1
          have d32 : wq2.frozen? ⟨w0.heap.size, b, none⟩ = false := by rw [hwq2]; exact (hc2 b (by omega)).2
          have d42 : wq2.cell? ⟨wr.heap.size, 0, none⟩ = some (.int .i64 a) := by rw [hwq2]; exact k0
          have d52 : wq2.cell? ⟨wr.heap.size, 1, none⟩ = some (.int .i64 b) := by rw [hwq2]; exact k1
          have d62 : wq2.cell? ⟨wr.heap.size, 2, none⟩ = some (.int .i64 z) := by rw [hwq2]; exact k2
          have hst2 := hset2 b (vb b + z) (by omega)
          rw [hvc] at hst2
          obtain ⟨x2, hx2⟩ : ∃ x, vb b = x := ⟨_, rfl⟩
          rw [hx2] at d22 hst2 hbv2
          obtain ⟨wx3, hwx3⟩ : ∃ wx : World, wx = wq2.setCell ⟨w0.heap.size, b, none⟩ (.int .i64 (x2 + z)) := ⟨_, rfl⟩
          have tt2 : Touch w0.heap.size (w0.heap.size + 1) wx2 wx3 := by rw [hwx3, hwq2]; exact ⟨hst2.2.os, hst2.2.tape, hst2.2.output, hst2.2.size, hst2.2.block⟩
          have OG3 : OG w0 k wx3 w1.heap.size (.slice (some ⟨gM, 0, none⟩) k cM) (mat k (mulL (L.take (j + 1)))) vc ed := OG2.touchV (by rw [hwx3, hwq2]; exact hst2.1) tt2
          have k0 := tt2.cell (by omega) k0
          have k1 := tt2.cell (by omega) k1
          have k2 := tt2.cell (by omega) k2
          have HWQ2 := hid hwq2
          have HWX3 := hid hwx3
          clear hc2 hset2 hst2 hwq2 hwx3 tt2 hx2 OG2 b22
          obtain ⟨wq3, hwq3⟩ : ∃ wq : World, wq = wx3.drew := ⟨_, rfl⟩
          obtain ⟨_, _, _, b3, b4⟩ := og_cells OG3
          have d13 : wq3.cell? ⟨w0.heap.size + 1, 3, none⟩ = some (.int .i64 ed) := by rw [hwq3]; exact b3
          have d23 : wq3.frozen? ⟨w0.heap.size + 1, 3, none⟩ = false := by rw [hwq3]; exact b4 3
          have d33 : wq3.cell? ⟨wr.heap.size, 2, none⟩ = some (.int .i64 z) := by rw [hwq3]; exact k2
          have hq3 : OG w0 k wq3 w1.heap.size (.slice (some ⟨gM, 0, none⟩) k cM) (mat k (mulL (L.take (j + 1)))) vc ed := by rw [hwq3]; exact OG3.keep (Below.refl _ _).drew
          have hfin := hq3.setE (ed + z)
          have HFIN : Hid (OG w0 k (wq3.setCell ⟨w0.heap.size + 1, 3, none⟩ (.int .i64 (ed + z))) w1.heap.size (.slice (some ⟨gM, 0, none⟩) k cM) (mat k (mulL (L.take (j + 1)))) (valV k (L.take (j + 1))) (edgL (L.take (j + 1)))) := by
            have h1 := HST.out.2.1
            have h2 := HST.out.2.2
            rw [h2]
            exact ⟨hfin.box, hfin.btw, by have := hfin.vals; rw [h1] at this; exact this, hfin.below, hfin.lt, hfin.hi⟩
          have HWQ3 := hid hwq3
          clear b3 b4 hq3 hfin OG3 k0 k1 k2 hwq3 hvb hvc HS1 HOGP HENT HSET HB4 HROW HST
          have f1 : IntKind.i64.wrap (x1 + z) = x1 + z := IntWalk.i64_in _ (by omega)
          refine wp_region_still_tail 11 (by kernel_rfl) (by kernel_rfl) ?_
          change wpStill _ _ wx1.drew _ _ _
          rw [← HWQ1.out]
          simp only [List.take_succ_cons, List.take_zero, List.drop_succ_cons, List.drop_zero]
          repeat still_step
          refine wpStill_nil ?_
          change wpList _ _ _ _ _ wx1.drew
          rw [← HWQ1.out]
          clear f1
          go_wp2
          rw [← HWX2.out]
          clear d11 d21 d31 d41 d51 d61
          have f2 : IntKind.i64.wrap (x2 + z) = x2 + z := IntWalk.i64_in _ (by omega)
          refine wp_region_still_tail 11 (by kernel_rfl) (by kernel_rfl) ?_
          change wpStill _ _ wx2.drew _ _ _
          rw [← HWQ2.out]
          simp only [List.take_succ_cons, List.take_zero, List.drop_succ_cons, List.drop_zero]
          repeat still_step
          refine wpStill_nil ?_
          change wpList _ _ _ _ _ wx2.drew
          rw [← HWQ2.out]
          clear f2
          go_wp2
          rw [← HWX3.out]
          clear d12 d22 d32 d42 d52 d62
          have f3 : IntKind.i64.wrap (ed + z) = ed + z := IntWalk.i64_in _ (by omega)
          refine wp_region_still_tail 9 (by kernel_rfl) (by kernel_rfl) ?_
          change wpStill _ _ wx3.drew _ _ _
          rw [← HWQ3.out]
          simp only [List.take_succ_cons, List.take_zero, List.drop_succ_cons, List.drop_zero]
          repeat still_step
          refine wpStill_nil ?_
          change wpList _ _ _ _ _ wx3.drew
          rw [← HWQ3.out]
          clear f3
          go_wp2
          go_roundg (L.length - (j + 1))
          case rel => exact ⟨j + 1, by omega, rfl, by go_num, HFIN.out⟩
          case measure => omega
        · have hjl : j = L.length := by omega
          subst hjl
          have hog2 := hog
          rw [List.take_length] at hog2
          have HD := hid hog2.done
          have HBL := hid (HB1.out.trans (hog.below.mono hbz))
          clear hog hog2 HS
          go_wp2
          go_ret2
          exact ⟨_, rfl, HD.out, HBL.out⟩

end Go.Proofs.Ytifdhapaonideaa
