/- The splits of a tree metric, by the program: the visitor, and the function value that calls itself. -/
import Derived.Test.YtnkbfgnmodfemaaGreatDoorSplits
import Derived.Test.YtnkbfgnmodfemaaGreatDoorVisit
namespace Go.Proofs.YtnkbfgnmodfemaaGreatDoor
open Go.RowKit
open Go.Lib (hid)

/-- the boxes of splits and of allSplits, and what they hold -/
structure SpSt (wp : World) (n : Nat) (mv : Value) (w : World) (lv uv : Value) (Z : List (Value × List Int)) (ns : List Int) : Prop where
  bel : Below wp.heap.size wp w
  bm : Boxed w wp.heap.size 23 mv
  bl : Boxed w (wp.heap.size + 3) 23 lv
  bu : Boxed w (wp.heap.size + 4) 27 uv
  bn : Boxed w (wp.heap.size + 5) 3 (.int .i64 n)
  bv : Boxed w (wp.heap.size + 6) 71 (.func (.func 58) #[] #[.pointer (some ⟨wp.heap.size, 0, none⟩), .pointer (some ⟨wp.heap.size + 3, 0, none⟩), .pointer (some ⟨wp.heap.size + 4, 0, none⟩)])
  bx : Boxed w (wp.heap.size + 7) 84 (.func (.func 82) #[] #[.pointer (some ⟨wp.heap.size + 5, 0, none⟩), .pointer (some ⟨wp.heap.size + 6, 0, none⟩), .pointer (some ⟨wp.heap.size + 7, 0, none⟩)])
  rows : OMat w (wp.heap.size + 1) lv Z
  lens : FInts w (wp.heap.size + 2) w.heap.size uv ns
  pool : PoolZ w (wp.heap.size + 8) w.heap.size Z
  lat : ∀ g, lv.ownBlock = some g → g = wp.heap.size + 1 ∨ wp.heap.size + 8 ≤ g
  uat : ∀ g, uv.ownBlock = some g → g = wp.heap.size + 2 ∨ wp.heap.size + 8 ≤ g
  pn : ∀ z ∈ Z, ∀ g, z.1.ownBlock = some g → uv.ownBlock ≠ some g
  len : ns.length = Z.length
/-- what they may write -/
def SpD (h : Nat) (lv uv : Value) (b : Nat) : Prop := b = h + 3 ∨ b = h + 4 ∨ lv.ownBlock = some b ∨ uv.ownBlock = some b

theorem SpSt.keep {wp w w' : World} {n : Nat} {mv lv uv : Value} {Z : List (Value × List Int)} {ns : List Int} (s : SpSt wp n mv w lv uv Z ns) (hb : Below w.heap.size w w') : SpSt wp n mv w' lv uv Z ns where
  bel := s.bel.trans (hb.mono s.bel.size)
  bm := (hb.block _ s.bm.lt).trans s.bm
  bl := (hb.block _ s.bl.lt).trans s.bl
  bu := (hb.block _ s.bu.lt).trans s.bu
  bn := (hb.block _ s.bn.lt).trans s.bn
  bv := (hb.block _ s.bv.lt).trans s.bv
  bx := (hb.block _ s.bx.lt).trans s.bx
  rows := s.rows.keep hb
  lens := (s.lens.keep hb).mono (Nat.le_refl _) hb.size
  pool := (s.pool.keep hb).mono (Nat.le_refl _) hb.size
  lat := s.lat
  uat := s.uat
  pn := s.pn
  len := s.len

def stepS (M : List (List Int)) (p : List (List Int) × List Int) (xs : List Int) : List (List Int) × List Int := if 0 < lenF M xs then (p.1 ++ [xs], p.2 ++ [lenF M xs]) else p
theorem stepS_yes {M : List (List Int)} {p : List (List Int) × List Int} {xs : List Int} (h : 0 < lenF M xs) : stepS M p xs = (p.1 ++ [xs], p.2 ++ [lenF M xs]) := by rw [stepS, if_pos h]
theorem stepS_no {M : List (List Int)} {p : List (List Int) × List Int} {xs : List Int} (h : ¬ 0 < lenF M xs) : stepS M p xs = p := by rw [stepS, if_neg h]

theorem SpSt.lt {wp w : World} {n : Nat} {mv lv uv : Value} {Z : List (Value × List Int)} {ns : List Int} (s : SpSt wp n mv w lv uv Z ns) : wp.heap.size + 8 ≤ w.heap.size := s.bx.lt
/-- boxes that are not written -/
theorem SpSt.notD {wp w : World} {n : Nat} {mv lv uv : Value} {Z : List (Value × List Int)} {ns : List Int} (s : SpSt wp n mv w lv uv Z ns) {b : Nat} (hb : b < wp.heap.size + 8) (h1 : b ≠ wp.heap.size + 1) (h2 : b ≠ wp.heap.size + 2) (h3 : b ≠ wp.heap.size + 3) (h4 : b ≠ wp.heap.size + 4) : ¬ SpD wp.heap.size lv uv b := by
  rintro (e | e | e | e)
  · exact h3 e
  · exact h4 e
  · have := s.lat b e; omega
  · have := s.uat b e; omega
/-- rows are not written -/
theorem SpSt.rowD {wp w : World} {n : Nat} {mv lv uv v : Value} {Z : List (Value × List Int)} {ns xs : List Int} (s : SpSt wp n mv w lv uv Z ns) {hi : Nat} (hx : FInts w (wp.heap.size + 8) hi v xs) (hnu : ∀ g, v.ownBlock = some g → uv.ownBlock ≠ some g) : ∀ g, v.ownBlock = some g → ¬ SpD wp.heap.size lv uv g := by
  intro g hg
  have h1 := (hx.1.lt g hg).1
  rintro (e | e | e | e)
  · omega
  · omega
  · exact own_ne hx.1 s.rows (by decide) g hg e
  · exact hnu g hg e

theorem boxed_other {W : World} {B B' : Nat} {t : TypeId} {v : Value} (h : Boxed W B t v) (hne : B ≠ B') (u : Value) : Boxed (W.setCell ⟨B', 0, none⟩ u) B t v := (heap_setCell_other _ _ _ _ hne).trans h

/-- a row appended and stored: what is kept -/
theorem SpSt.keep1 {wp w w1 : World} {n : Nat} {mv lv uv lv1 : Value} {Z : List (Value × List Int)} {ns : List Int} (_ : SpSt wp n mv w lv uv Z ns) {o : Obj} (hg : (w.alloc o).grownBy w1 lv.ownBlock) :
    KeepOn (fun b => ¬ SpD wp.heap.size lv uv b) w (w1.setCell ⟨wp.heap.size + 3, 0, none⟩ lv1) :=
  ((KeepOn.of_below (w' := w.alloc o) ((Below.refl _ _).alloc (Nat.le_refl _) _)).trans (KeepOn.of_grown hg (fun _ hb hS => hS (.inr (.inr (.inl hb)))))).trans (KeepOn.set _ _ _ (fun hS => hS (.inl rfl)))
theorem SpSt.mid {wp w w1 : World} {n : Nat} {mv lv uv lv1 : Value} {Z : List (Value × List Int)} {ns : List Int} (s : SpSt wp n mv w lv uv Z ns) {o : Obj} (hg : (w.alloc o).grownBy w1 lv.ownBlock) :
    Boxed w1 (wp.heap.size + 3) 23 lv ∧ Boxed w1 (wp.heap.size + 4) 27 uv ∧ FInts w1 (wp.heap.size + 2) w1.heap.size uv ns ∧
      ∀ w2 : World, w2 = w1.setCell ⟨wp.heap.size + 3, 0, none⟩ lv1 → Boxed w2 (wp.heap.size + 4) 27 uv ∧ FInts w2 (wp.heap.size + 2) w2.heap.size uv ns ∧ w2.heap.size = w1.heap.size := by
  have h3 : some (wp.heap.size + 3) ≠ lv.ownBlock := fun e => by have := s.lat _ e.symm; omega
  have h4 : some (wp.heap.size + 4) ≠ lv.ownBlock := fun e => by have := s.lat _ e.symm; omega
  have hal : Below w.heap.size w (w.alloc o) := (Below.refl _ _).alloc (Nat.le_refl _) _
  have b3 := (s.bl.alloc o).kept hg h3
  have b4 := (s.bu.alloc o).kept hg h4
  have hf : FInts w1 (wp.heap.size + 2) w1.heap.size uv ns :=
    ⟨(fints_grown (s.lens.keep hal) (s.rows.keep hal) hg).1, fun g hg' => Nat.lt_of_lt_of_le (s.lens.2 g hg') (by have := hg.size; simp at this; omega)⟩
  refine ⟨b3, b4, hf, fun w2 e => ?_⟩
  subst e
  have hsz : (w1.setCell ⟨wp.heap.size + 3, 0, none⟩ lv1).heap.size = w1.heap.size := by simp [World.setCell]
  refine ⟨boxed_other b4 (by omega) _, ⟨own_same hf.1 (fun g hg' => heap_setCell_other _ _ _ _ (fun e => ?_)), fun g hg' => by rw [hsz]; exact hf.2 g hg'⟩, hsz⟩
  have e' : g = wp.heap.size + 3 := e
  have := s.uat g hg'
  omega
theorem SpSt.done {wp w w1 w2 w3 : World} {n : Nat} {mv lv uv v lv1 uv1 : Value} {Z : List (Value × List Int)} {ns ms xs : List Int} (s : SpSt wp n mv w lv uv Z ns) (hx : FInts w (wp.heap.size + 8) w.heap.size v xs)
    (hnz : ∀ z ∈ Z, ∀ g, z.1.ownBlock = some g → v.ownBlock ≠ some g) (hnu : ∀ g, v.ownBlock = some g → uv.ownBlock ≠ some g) {o o2 : Obj}
    (hO : OMat w1 (wp.heap.size + 1) lv1 (Z ++ [(v, xs)])) (hg : (w.alloc o).grownBy w1 lv.ownBlock) (hat : lv1.ownBlock = lv.ownBlock ∨ lv1.ownBlock = some (w.heap.size + 1))
    (hw2 : w2 = w1.setCell ⟨wp.heap.size + 3, 0, none⟩ lv1) (hF : FInts w3 (wp.heap.size + 2) w3.heap.size uv1 ms) (hg2 : (w2.alloc o2).grownBy w3 uv.ownBlock) (hat2 : uv1.ownBlock = uv.ownBlock ∨ uv1.ownBlock = some (w2.heap.size + 1)) (hl : ms.length = ns.length + 1) :
    SpSt wp n mv (w3.setCell ⟨wp.heap.size + 4, 0, none⟩ uv1) lv1 uv1 (Z ++ [(v, xs)]) ms ∧ KeepOn (fun b => ¬ SpD wp.heap.size lv uv b) w (w3.setCell ⟨wp.heap.size + 4, 0, none⟩ uv1) ∧
      ∀ b, SpD wp.heap.size lv1 uv1 b → SpD wp.heap.size lv uv b ∨ w.heap.size ≤ b := by
  have hlt := s.lt
  have hk1 := s.keep1 (lv1 := lv1) hg
  obtain ⟨m1, m2, m3, m4⟩ := s.mid (lv1 := lv1) hg
  obtain ⟨m5, m6, m7⟩ := m4 w2 hw2
  rw [← hw2] at hk1
  have hs1 : w.heap.size + 1 ≤ w1.heap.size := by have := hg.size; simpa using this
  have hs3 : w2.heap.size + 1 ≤ w3.heap.size := by have := hg2.size; simpa using this
  have hs4 : (w3.setCell ⟨wp.heap.size + 4, 0, none⟩ uv1).heap.size = w3.heap.size := by simp [World.setCell]
  have hk2 : KeepOn (fun b => ¬ SpD wp.heap.size lv uv b) w2 (w3.setCell ⟨wp.heap.size + 4, 0, none⟩ uv1) :=
    ((KeepOn.of_below (w' := w2.alloc o2) ((Below.refl _ _).alloc (Nat.le_refl _) _)).trans (KeepOn.of_grown hg2 (fun _ hb hS => hS (.inr (.inr (.inr hb)))))).trans (KeepOn.set _ _ _ (fun hS => hS (.inr (.inl rfl))))
  have hk := hk1.trans hk2
  have lat1 : ∀ g, lv1.ownBlock = some g → g = wp.heap.size + 1 ∨ wp.heap.size + 8 ≤ g := fun g hg' => by
    rcases hat with e | e
    · exact s.lat g (e ▸ hg')
    · rw [e] at hg'; cases hg'; omega
  have uat1 : ∀ g, uv1.ownBlock = some g → g = wp.heap.size + 2 ∨ wp.heap.size + 8 ≤ g := fun g hg' => by
    rcases hat2 with e | e
    · exact s.uat g (e ▸ hg')
    · rw [e] at hg'; cases hg'; omega
  have old : ∀ b, b < wp.heap.size + 8 → b ≠ wp.heap.size + 1 → b ≠ wp.heap.size + 2 → b ≠ wp.heap.size + 3 → b ≠ wp.heap.size + 4 → (w3.setCell ⟨wp.heap.size + 4, 0, none⟩ uv1).heap[b]? = w.heap[b]? :=
    fun b h0 h1 h2 h3 h4 => hk.block b (by omega) (s.notD h0 h1 h2 h3 h4)
  have hu3 : some (wp.heap.size + 3) ≠ uv.ownBlock := fun e => by have := s.uat _ e.symm; omega
  have hu4 : some (wp.heap.size + 4) ≠ uv.ownBlock := fun e => by have := s.uat _ e.symm; omega
  have hb3 : Boxed w2 (wp.heap.size + 3) 23 lv1 := by rw [hw2]; exact m1.set _
  have hpz : ∀ z ∈ Z ++ [(v, xs)], ∀ g, z.1.ownBlock = some g → uv.ownBlock ≠ some g ∧ g < w.heap.size := by
    intro z hz g hg'
    rcases List.mem_append.1 hz with h | h
    · exact ⟨s.pn z h g hg', (s.pool.1 z h).2 g hg'⟩
    · rw [List.mem_singleton] at h; subst h; exact ⟨hnu g hg', hx.2 g hg'⟩
  have hpool : PoolZ w (wp.heap.size + 8) w.heap.size (Z ++ [(v, xs)]) := by
    refine ⟨fun z hz => ?_, ?_⟩
    · rcases List.mem_append.1 hz with h | h
      · exact s.pool.1 z h
      · rw [List.mem_singleton] at h; subst h; exact hx
    · rw [List.pairwise_append]
      refine ⟨s.pool.2, by simp, fun a ha b hb => ?_⟩
      rw [List.mem_singleton] at hb; subst hb; exact hnz a ha
  refine ⟨⟨s.bel.trans (hk.below (fun b hb => s.notD (by omega) (by omega) (by omega) (by omega) (by omega)) (Nat.le_trans (by omega) hlt)), ?_, ?_, ?_, ?_, ?_, ?_, ?_, ?_, ?_, lat1, uat1, ?_, ?_⟩, hk, ?_⟩
  · exact (old _ (by omega) (by omega) (by omega) (by omega) (by omega)).trans s.bm
  · exact boxed_other ((hb3.alloc o2).kept hg2 hu3) (by omega) _
  · exact ((m5.alloc o2).kept hg2 hu4).set _
  · exact (old _ (by omega) (by omega) (by omega) (by omega) (by omega)).trans s.bn
  · exact (old _ (by omega) (by omega) (by omega) (by omega) (by omega)).trans s.bv
  · exact (old _ (by omega) (by omega) (by omega) (by omega) (by omega)).trans s.bx
  · refine own_same hO (fun g hg' => ?_)
    have h1 := lat1 g hg'
    have h2 : w2.heap[g]? = w1.heap[g]? := by rw [hw2]; exact heap_setCell_other _ _ _ _ (by show g ≠ wp.heap.size + 3; omega)
    have h3 : (w2.alloc o2).heap[g]? = w2.heap[g]? := Below.heap_alloc _ _ _ (by have := (hO.lt g hg').2; omega)
    have h4 : w3.heap[g]? = (w2.alloc o2).heap[g]? := hg2.block g (by have := (hO.lt g hg').2; simp; omega) (fun e => own_ne hO m3.1 (by decide) g hg' e.symm)
    rw [heap_setCell_other _ _ _ _ (by show g ≠ wp.heap.size + 4; omega), h4, h3, h2]
  · exact ⟨own_same hF.1 (fun g hg' => heap_setCell_other _ _ _ _ (by have := uat1 g hg'; show g ≠ wp.heap.size + 4; omega)), fun g hg' => by rw [hs4]; exact hF.2 g hg'⟩
  · refine (hpool.same fun z hz g hg' => hk.block g (hpz z hz g hg').2 (s.rowD (hpool.1 z hz) (fun g hg => (hpz z hz g hg).1) g hg')).mono (Nat.le_refl _) hk.size
  · intro z hz g hg' hu
    have h1 := hpz z hz g hg'
    rcases hat2 with e | e
    · exact h1.1 (e ▸ hu)
    · rw [e] at hu; cases hu; omega
  · rw [hl, s.len, List.length_append]; rfl
  · rintro b (e | e | e | e)
    · exact .inl (.inl e)
    · exact .inl (.inr (.inl e))
    · rcases hat with e2 | e2
      · exact .inl (.inr (.inr (.inl (e2 ▸ e))))
      · rw [e2] at e; cases e; exact .inr (by omega)
    · rcases hat2 with e2 | e2
      · exact .inl (.inr (.inr (.inr (e2 ▸ e))))
      · rw [e2] at e; cases e; exact .inr (by omega)

theorem SpSt.box2 {wp w w2 w3 : World} {n : Nat} {mv lv uv u : Value} {Z : List (Value × List Int)} {ns : List Int} (s : SpSt wp n mv w lv uv Z ns) {o2 : Obj} (hb : Boxed w2 (wp.heap.size + 4) 27 u) (hg2 : (w2.alloc o2).grownBy w3 uv.ownBlock) : Boxed w3 (wp.heap.size + 4) 27 u :=
  (hb.alloc o2).kept hg2 (fun e => by have := s.uat _ e.symm; omega)

/-- a result of the visitor, and of the function that calls it -/
def RetSp (wp : World) (n : Nat) (mv : Value) (w : World) (lv uv : Value) (p : List (List Int) × List Int) (e : Ending) (w' : World) : Prop :=
  e = .returned (.tuple #[]) ∧ ∃ lv' uv' : Value, ∃ Z' : List (Value × List Int), ∃ ns' : List Int, SpSt wp n mv w' lv' uv' Z' ns' ∧ (Z'.map Prod.snd, ns') = p ∧
    KeepOn (fun b => ¬ SpD wp.heap.size lv uv b) w w' ∧ ∀ b, SpD wp.heap.size lv' uv' b → SpD wp.heap.size lv uv b ∨ w.heap.size ≤ b

set_option maxRecDepth 100000 in
set_option maxHeartbeats 2000000 in
theorem visit_c (wp : World) (M : List (List Int)) (mv : Value) (hm : metB M = true) (hR : RMat wp mv M) (w : World) (lv uv v : Value) (Z : List (Value × List Int)) (ns xs : List Int) (s : SpSt wp M.length mv w lv uv Z ns) (hx : FInts w (wp.heap.size + 8) w.heap.size v xs)
    (hnz : ∀ z ∈ Z, ∀ g, z.1.ownBlock = some g → v.ownBlock ≠ some g) (hnu : ∀ g, v.ownBlock = some g → uv.ownBlock ≠ some g) (hin : (∀ x ∈ xs, 0 ≤ x ∧ x < (M.length : Int)) ∧ xs.length ≤ 1048576) (hZ : Z.length ≤ 1000) :
    Calls Tryz.prog 58 #[v, .pointer (some ⟨wp.heap.size, 0, none⟩), .pointer (some ⟨wp.heap.size + 3, 0, none⟩), .pointer (some ⟨wp.heap.size + 4, 0, none⟩)] w (RetSp wp M.length mv w lv uv (stepS M (Z.map Prod.snd, ns) xs)) := by
  have HM := hid hm
  have H1 := hid (hR.keep s.bel)
  have HX := hid hx
  have HNZ := hid hnz
  have HNU := hid hnu
  have e1 := s.bm.cell
  have S := hid s
  have hnl := s.len
  obtain ⟨av, cv, rfl⟩ := hx.form
  clear hx hnz hnu s
  go_enter Tryz.func58, Tryz.ntmps58
  go_wp2_with fail
  refine (twiceLength_c _ _ M xs _ HM.out H1.out HX.out.r hin.1 hin.2).mono ?_
  rintro e w1 ⟨rfl, hb1⟩
  have S1 := hid (S.out.keep hb1)
  have HX1 := hid ((HX.out.keep hb1).mono (Nat.le_refl _) hb1.size)
  have HB1 := hid hb1
  obtain ⟨q, hq⟩ : ∃ q, lenF M xs = q := ⟨_, rfl⟩
  rw [hq]
  clear hb1 e1
  by_cases ht : 0 < q
  · have HST := hid (stepS_yes (M := M) (p := (Z.map Prod.snd, ns)) (xs := xs) (by rw [hq]; exact ht))
    rw [hq] at HST
    clear hq
    obtain ⟨al, cl, rfl⟩ := S1.out.rows.form
    obtain ⟨au, cu, rfl⟩ := S1.out.lens.form
    have e3 := S1.out.bl.cell
    have hal := (Below.refl w1.heap.size w1).alloc (Nat.le_refl _) (.cells #[.slice av xs.length cv] 27)
    have hO3 := S1.out.rows.keep hal
    have hlt := S1.out.lt
    clear hal
    have hnl' : ns.length ≤ 1000 := by omega
    clear hnl
    go_wp2_with (at_builtin; first
      | (refine wpList_append_vals rfl _ _ rfl _ _ _ [(.slice av xs.length cv, xs)] _ _ rfl rfl hO3 (by simp) (fun a j z he hz => row_cell _ a j z xs he hz) (by simp [Value.oneCell']) (by simp; omega) (by simp; omega) ?_; intro v4 w4 hO4 hg4 hat4; have hat4' : v4.ownBlock = (Value.slice al Z.length cl).ownBlock ∨ v4.ownBlock = some (w1.heap.size + 1) := hat4.imp id (fun e => by rw [e]; simp); obtain ⟨m1, m2, m3, m4⟩ := S1.out.mid (lv1 := v4) hg4; have HO4 := hid hO4; have HG4 := hid hg4; have HAT4 := hid hat4'; obtain ⟨a4, c4, rfl⟩ : ∃ a c, v4 = .slice a (Z.length + 1) c := (by obtain ⟨a, c, e⟩ := hO4.form; exact ⟨a, c, by rw [e]; simp⟩); have c5 := m1.cell; have f5 := m1.frozen; obtain ⟨m5, m6, m7⟩ := m4 _ rfl; have HM5 := hid m5; have c6 := m5.cell; have m8 := m6.keep ((Below.refl _ _).alloc (Nat.le_refl _) (.cells #[.int .i64 q] 3)); have c7 := cell_new (w4.setCell ⟨wp.heap.size + 3, 0, none⟩ (.slice a4 (Z.length + 1) c4)) (.int .i64 q) 3; rw [show (w4.setCell ⟨wp.heap.size + 3, 0, none⟩ (.slice a4 (Z.length + 1) c4)).heap.size = w4.heap.size from by simp [World.setCell]] at c7; have hs5 := hg4.size; have hs6 : wp.heap.size + 2 ≤ ((w4.setCell ⟨wp.heap.size + 3, 0, none⟩ (.slice a4 (Z.length + 1) c4)).alloc (.cells #[.int .i64 q] 3)).heap.size := (by simp at hs5; simp [World.setCell]; omega); clear hO4 hg4 hat4 hat4' m1 m2 m3 m4 m5 m6 m7 hO3 e3)
      | (refine wpList_push_int rfl _ _ rfl _ _ _ ns q _ rfl rfl m8 c7 (by omega) hs6 ?_; intro g6 c8 w6 hF6 hg6 hat6; have hb6 := S1.out.box2 HM5.out hg6; have c9 := hb6.cell; have f9 := hb6.frozen; have HF6 := hid hF6; have HG6 := hid hg6; have HAT6 := hid hat6; clear hF6 hg6 hat6 hb6 m8 c7))
    go_end0
    obtain ⟨d1, d2, d3⟩ := S1.out.done HX1.out HNZ.out HNU.out HO4.out HG4.out HAT4.out rfl HF6.out HG6.out (HAT6.out.imp (fun e => e.symm) (fun e => by subst e; simp [Value.ownBlock])) (by simp)
    exact ⟨rfl, _, _, _, _, d1, by rw [HST.out, List.map_append]; rfl, (KeepOn.of_below HB1.out).trans d2, fun b hb => (d3 b hb).imp id (fun h => Nat.le_trans HB1.out.size h)⟩
  · have HST := hid (stepS_no (M := M) (p := (Z.map Prod.snd, ns)) (xs := xs) (by rw [hq]; exact ht))
    clear hq
    go_wp2
    go_end0
    exact ⟨rfl, _, _, _, _, S1.out, HST.out.symm, KeepOn.of_below HB1.out, fun b hb => .inl hb⟩

end Go.Proofs.YtnkbfgnmodfemaaGreatDoor
