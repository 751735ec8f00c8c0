/- Drawn nested splits: a list of rows and a list of numbers that grow side by side. -/
import Derived.Test.YtnkbfgnmodfemaaGreatDoorSplD
import Derived.Test.YtnkbfgnmodfemaaGreatDoorVisit
import Derived.Test.YtnkbfgnmodfemaaGreatDoorDiff
import Derived.Test.YtnkbfgnmodfemaaGreatDoorFit
import Derived.Test.YtnkbfgnmodfemaaGreatDoorMos
namespace Go.Proofs.YtnkbfgnmodfemaaGreatDoor
open Go.RowKit
open Go.Lib (hid)

/-- a list of rows, and a list of numbers, in blocks from lo on, below hi, apart from one another -/
structure NS (w : World) (lo hi : Nat) (lv uv : Value) (Z : List (Value × List Int)) (xs : List Int) : Prop where
  rows : OMat w lo lv Z
  lat : ∀ g, lv.ownBlock = some g → g < hi
  pool : PoolZ w lo hi Z
  tw : FInts w lo hi uv xs
  pn : ∀ z ∈ Z, ∀ g, z.1.ownBlock = some g → uv.ownBlock ≠ some g
variable {w w' : World} {lo hi : Nat} {lv uv : Value} {Z : List (Value × List Int)} {xs : List Int}
theorem NS.same (s : NS w lo hi lv uv Z xs) (h : ∀ c, lo ≤ c → c < hi → c < w.heap.size → w'.heap[c]? = w.heap[c]?) : NS w' lo hi lv uv Z xs where
  rows := own_same s.rows (fun g hg => h g (s.rows.lt g hg).1 (s.lat g hg) (s.rows.lt g hg).2)
  lat := s.lat
  pool := s.pool.same (fun z hz g hg => h g ((s.pool.1 z hz).1.lt g hg).1 ((s.pool.1 z hz).2 g hg) ((s.pool.1 z hz).1.lt g hg).2)
  tw := ⟨own_same s.tw.1 (fun g hg => h g (s.tw.1.lt g hg).1 (s.tw.2 g hg) (s.tw.1.lt g hg).2), s.tw.2⟩
  pn := s.pn
theorem NS.mono (s : NS w lo hi lv uv Z xs) {hi' : Nat} (h : hi ≤ hi') : NS w lo hi' lv uv Z xs :=
  ⟨s.rows, fun g hg => Nat.lt_of_lt_of_le (s.lat g hg) h, s.pool.mono (Nat.le_refl _) h, s.tw.mono (Nat.le_refl _) h, s.pn⟩
theorem NS.tch {b : Nat} (s : NS w lo w.heap.size lv uv Z xs) (ht : Touch b (b + 1) w w') (hb : b < lo) : NS w' lo w'.heap.size lv uv Z xs :=
  (s.same (fun c h1 _ h3 => ht.block c h3 (by omega))).mono ht.size
theorem NS.grw (s : NS w lo w.heap.size lv uv Z xs) (hb : Below w.heap.size w w') : NS w' lo w'.heap.size lv uv Z xs :=
  (s.same (fun c _ _ h3 => hb.block c h3)).mono hb.size
theorem NS.dr {b : Nat} (s : NS w lo w.heap.size lv uv Z xs) (hd : Dr b w.heap.size w w') (hb : b < lo) : NS w' lo w'.heap.size lv uv Z xs :=
  (s.same (fun c h1 _ h3 => hd.block c h3 (by omega))).mono hd.size
theorem ns_nil (w : World) (lo hi : Nat) : NS w lo hi (.slice none 0 0) (.slice none 0 0) [] [] :=
  ⟨omat_nil _ _, fun g hg => by simp [Value.ownBlock] at hg, pool_nil _ _ _, ints_nil _ _ _, by simp⟩
/-- a row is appended -/
theorem NS.pushRow {w1 : World} {lv1 u : Value} {ys : List Int} {mid : Nat} (s : NS w lo hi lv uv Z xs) (hm : hi ≤ mid) (hu : FInts w mid w.heap.size u ys) (hlm : lo ≤ mid) (hmw : mid ≤ w.heap.size) {o : Obj}
    (hO : OMat w1 lo lv1 (Z ++ [(u, ys)])) (hg : (w.alloc o).grownBy w1 lv.ownBlock) : NS w1 lo w1.heap.size lv1 uv (Z ++ [(u, ys)]) xs := by
  have hal : Below w.heap.size w (w.alloc o) := (Below.refl _ _).alloc (Nat.le_refl _) _
  have hsz := hg.size
  simp only [World.size_alloc] at hsz
  have hpz : PoolZ w lo w.heap.size (Z ++ [(u, ys)]) := (s.pool.mono (Nat.le_refl _) hm).append ⟨fun z hz => by rw [List.mem_singleton] at hz; subst hz; exact hu, List.pairwise_singleton _ _⟩ hlm hmw
  refine ⟨hO, fun g hg' => (hO.lt g hg').2, ((hpz.keep hal).grown (s.rows.keep hal) hg).mono (Nat.le_refl _) (by omega), ((fints_grown (s.tw.keep hal) (s.rows.keep hal) hg)).mono (Nat.le_refl _) (by omega), fun z hz g hg' => ?_⟩
  rcases List.mem_append.1 hz with h | h
  · exact s.pn z h g hg'
  · rw [List.mem_singleton] at h
    subst h
    intro e
    have := s.tw.2 g e
    have := (hu.1.lt g hg').1
    omega
theorem NS.rowBelow {w1 : World} (s : NS w lo hi lv uv Z xs) (hl : lo ≤ w.heap.size) {o : Obj} (hg : (w.alloc o).grownBy w1 lv.ownBlock) : Below lo w w1 :=
  ((Below.refl lo w).alloc hl o).grown hg (by simp; omega) (fun k hk => (s.rows.lt k hk).1)
/-- a number is appended -/
theorem NS.pushInt {w1 : World} {uv1 : Value} {ys : List Int} (s : NS w lo w.heap.size lv uv Z xs) {o : Obj} (hF : FInts w1 lo w1.heap.size uv1 ys) (hg : (w.alloc o).grownBy w1 uv.ownBlock) (hat : uv1.ownBlock = uv.ownBlock ∨ uv1.ownBlock = some (w.heap.size + 1)) : NS w1 lo w1.heap.size lv uv1 Z ys := by
  have hal : Below w.heap.size w (w.alloc o) := (Below.refl _ _).alloc (Nat.le_refl _) _
  have hsz := hg.size
  simp only [World.size_alloc] at hsz
  have old : ∀ g, g < w.heap.size → uv.ownBlock ≠ some g → w1.heap[g]? = w.heap[g]? := fun g h1 h2 => (hg.block g (by simp; omega) (fun e => h2 e.symm)).trans (hal.block g h1)
  refine ⟨own_same s.rows (fun g hg' => old g (s.rows.lt g hg').2 (fun e => own_ne s.rows s.tw.1 (by decide) g hg' e)), fun g hg' => by have := s.lat g hg'; omega, ?_, hF, fun z hz g hg' => ?_⟩
  · exact (s.pool.same (fun z hz g hg' => old g ((s.pool.1 z hz).2 g hg') (s.pn z hz g hg'))).mono (Nat.le_refl _) (by omega)
  · rcases hat with e | e
    · rw [e]; exact s.pn z hz g hg'
    · rw [e]
      have := (s.pool.1 z hz).2 g hg'
      simp; omega
theorem NS.intBelow {w1 : World} (s : NS w lo hi lv uv Z xs) (hl : lo ≤ w.heap.size) {o : Obj} (hg : (w.alloc o).grownBy w1 uv.ownBlock) : Below lo w w1 :=
  ((Below.refl lo w).alloc hl o).grown hg (by simp; omega) (fun k hk => (s.tw.1.lt k hk).1)
theorem NS.r (s : NS w lo hi lv uv Z xs) : RMat w lv (Z.map Prod.snd) := (s.rows.f s.lat s.pool).r
theorem row_cellD {w : World} (u : Value) : ∀ (a : Addr) (j : Nat) (z : Value × List Int) (x : List Int), some (⟨w.heap.size, 0, none⟩ : Addr) = some a → [(u, x)][j]? = some z → (w.alloc (.cells #[u] 27)).cell? (a.add j) = some z.1 := by
  rintro a j z x he hz
  cases he
  cases j with
  | zero => simp at hz; subst hz; rw [addr_add]; exact cell_new _ _ _
  | succ j => simp at hz
/-- a number is set -/
theorem NS.setTw {g n c : Nat} (s : NS w lo w.heap.size lv (.slice (some ⟨g, 0, none⟩) n c) Z xs) (i : Nat) (y : Int) :
    NS (w.setCell ⟨g, i, none⟩ (.int .i64 y)) lo (w.setCell ⟨g, i, none⟩ (.int .i64 y)).heap.size lv (.slice (some ⟨g, 0, none⟩) n c) Z (xs.set i y) ∧ Below lo w (w.setCell ⟨g, i, none⟩ (.int .i64 y)) := by
  obtain ⟨k1, k2, k3⟩ := s.tw.set i y
  have hgl := s.tw.1.lt g rfl
  refine ⟨⟨own_same s.rows (fun c h => k2.block c (s.rows.lt c h).2 (fun e => own_ne s.rows s.tw.1 (by decide) c h e.symm)), fun c h => by rw [k3]; exact s.lat c h,
    (s.pool.same (fun z hz c h => k2.block c ((s.pool.1 z hz).2 c h) (fun e => s.pn z hz c h e.symm))).mono (Nat.le_refl _) (Nat.le_of_eq k3.symm), by rw [k3]; exact k1, s.pn⟩, (Below.refl lo w).grown k2 (by omega) (fun k hk => by cases hk; exact hgl.1)⟩
def RetNest2 (b k lo n : Nat) (w : World) (e : Ending) (w' : World) : Prop := ∃ (v u : Value) (Z : List (Value × List Int)) (xs : List Int), e = .returned (.tuple #[v, u]) ∧ NS w' lo w'.heap.size v u Z xs ∧ (n ≤ 1 ∨ 1 ≤ xs.length) ∧ Z.length ≤ 11 ∧ xs.length ≤ 11 ∧ Cur w' b k ∧ Dr b lo w w'
def RetNest (b k lo : Nat) (w : World) (e : Ending) (w' : World) : Prop := ∃ (v u : Value) (L : List (List Int)) (ts : List Int), e = .returned (.tuple #[v, u]) ∧ RMat w' v L ∧ RInts w' u ts ∧ Cur w' b k ∧ Dr b lo w w'

end Go.Proofs.YtnkbfgnmodfemaaGreatDoor
