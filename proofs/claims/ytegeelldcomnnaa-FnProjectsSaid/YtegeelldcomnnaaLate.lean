/- The latest starts for an end: both programs' functions. -/
import Derived.Test.YtegeelldcomnnaaProject
import Derived.StillTailTactics
namespace Go.Proofs.Ytegeelldcomnnaa
open Go.RowKit
open Go.Lib (hid)

def lateJ (L : List Tsk) (i : Nat) : List Int → List Int → List Int
  | [], s => s
  | k :: ks, s => lateJ L i ks (s.set k.toNat (min (s.getD k.toNat 0) (s.getD i 0 - (L.getD k.toNat noTsk).time)))
theorem lateJ_nil (L : List Tsk) (i : Nat) (s : List Int) : lateJ L i [] s = s := rfl
theorem lateJ_cons (L : List Tsk) (i : Nat) (k : Int) (ks s : List Int) : lateJ L i (k :: ks) s = lateJ L i ks (s.set k.toNat (min (s.getD k.toNat 0) (s.getD i 0 - (L.getD k.toNat noTsk).time))) := rfl
def lateK (L : List Tsk) : Nat → List Int → List Int
  | 0, s => s
  | i + 1, s => lateK L i (lateJ L i (L.getD i noTsk).needs s)
theorem lateK_zero (L : List Tsk) (s : List Int) : lateK L 0 s = s := rfl
theorem lateK_succ (L : List Tsk) (i : Nat) (s : List Int) : lateK L (i + 1) s = lateK L i (lateJ L i (L.getD i noTsk).needs s) := rfl
def late0 (L : List Tsk) (e : Int) : List Int := L.map fun t => e - t.time
/-- the latest starts with which all end at e -/
def lateF (L : List Tsk) (e : Int) : List Int := lateK L L.length (late0 L e)

/-- bounds of the latest starts -/
def LateOk (e : Int) (n : Nat) (s : List Int) : Prop := s.length = n ∧ ∀ j, j < n → e - 2000 * ((n : Int) - j) ≤ s.getD j 0 ∧ s.getD j 0 ≤ e
theorem late0_ok {L : List Tsk} {e : Int} (hL : GoodT L) : LateOk e L.length (late0 L e) := by
  refine ⟨by simp [late0], fun j hj => ?_⟩
  have ht := (hL.2 j hj).2
  have : (late0 L e).getD j 0 = e - (L.getD j noTsk).time := by simp [late0, List.getD, List.getElem?_eq_getElem hj]
  rw [this]; omega
theorem getD_set_same {s : List Int} {k : Nat} {y : Int} (h : k < s.length) : (s.set k y).getD k 0 = y := by simp [List.getD, h]
theorem getD_set_other {s : List Int} {k j : Nat} {y : Int} (h : k ≠ j) : (s.set k y).getD j 0 = s.getD j 0 := by simp [List.getD, h]
theorem late_step {L : List Tsk} {e : Int} {n i k : Nat} {s : List Int} (hL : GoodT L) (hn : L.length = n) (hs : LateOk e n s) (hi : i < n) (hk : k < i) :
    LateOk e n (s.set k (min (s.getD k 0) (s.getD i 0 - (L.getD k noTsk).time))) := by
  refine ⟨by rw [List.length_set]; exact hs.1, fun j hj => ?_⟩
  by_cases hkj : k = j
  · subst hkj
    rw [getD_set_same (by rw [hs.1]; omega)]
    have h1 := hs.2 k (by omega)
    have h2 := hs.2 i hi
    have h3 := (hL.2 k (by omega)).2
    omega
  · rw [getD_set_other hkj]; exact hs.2 j hj
theorem lateJ_ok {L : List Tsk} {e : Int} {n i : Nat} (hL : GoodT L) (hn : L.length = n) (hi : i < n) : ∀ (ks s : List Int), (∀ x ∈ ks, 0 ≤ x ∧ x < (i : Int)) → LateOk e n s → LateOk e n (lateJ L i ks s) := by
  intro ks
  induction ks with
  | nil => intro s _ h; exact h
  | cons k ks ih =>
    intro s hk hs
    rw [lateJ_cons]
    have := hk k List.mem_cons_self
    exact ih _ (fun x hx => hk x (List.mem_cons_of_mem _ hx)) (late_step hL hn hs hi (by omega))
theorem lateK_ok {L : List Tsk} {e : Int} {n : Nat} (hL : GoodT L) (hn : L.length = n) : ∀ (k : Nat) (s : List Int), k ≤ n → LateOk e n s → LateOk e n (lateK L k s) := by
  intro k
  induction k with
  | zero => intro s _ h; exact h
  | succ k ih => intro s hk hs; rw [lateK_succ]; exact ih _ (by omega) (lateJ_ok hL hn (by omega) _ _ (hL.2 k (by omega)).1 hs)
theorem lateF_ok {L : List Tsk} {e : Int} (hL : GoodT L) : LateOk e L.length (lateF L e) := lateK_ok hL rfl _ _ (Nat.le_refl _) (late0_ok hL)

end Go.Proofs.Ytegeelldcomnnaa
