/- An own square matrix at every index. -/
import Derived.Test.YtnkbfgnmodfemaaGreatDoorMat
import Derived.Test.YtnkbfgnmodfemaaGreatDoorMark
namespace Go.Proofs.YtnkbfgnmodfemaaGreatDoor
open Go.RowKit
open Go.Lib (hid)

/-- f k, f (k+1), .., f (n-1), one behind the other -/
def iterFrom {S : Type} (n k : Nat) (f : Nat → S → S) (s : S) : S := (List.range' k (n - k)).foldl (fun s i => f i s) s
theorem iterFrom_lt {S : Type} {n k : Nat} (f : Nat → S → S) (s : S) (h : k < n) : iterFrom n k f s = iterFrom n (k + 1) f (f k s) := by
  unfold iterFrom; rw [show n - k = (n - (k + 1)) + 1 by omega, List.range'_succ, List.foldl_cons]
theorem iterFrom_ge {S : Type} {n k : Nat} (f : Nat → S → S) (s : S) (h : n ≤ k) : iterFrom n k f s = s := by
  unfold iterFrom; rw [show n - k = 0 by omega]; rfl
theorem iterFrom_inv {S : Type} {n : Nat} {f : Nat → S → S} (P : S → Prop) (hf : ∀ k s, k < n → P s → P (f k s)) : ∀ (d k : Nat) (s : S), d = n - k → P s → P (iterFrom n k f s) := by
  intro d
  induction d with
  | zero => intro k s hd hs; rw [iterFrom_ge _ _ (by omega)]; exact hs
  | succ d ih => intro k s hd hs; rw [iterFrom_lt _ _ (by omega)]; exact ih (k + 1) _ (by omega) (hf k s (by omega) hs)

/-- the entry at row i, column j is y now -/
def setEnt (M : List (List Int)) (i j : Nat) (y : Int) : List (List Int) := M.set i ((M.getD i []).set j y)
theorem setEnt_len (M : List (List Int)) (i j : Nat) (y : Int) : (setEnt M i j y).length = M.length := by simp [setEnt]
theorem sqB_iff {M : List (List Int)} {n : Nat} : sqB M n = true ↔ ∀ r ∈ M, r.length = n := by unfold sqB; rw [List.all_eq_true]; simp
theorem setEnt_sq {M : List (List Int)} {n : Nat} (h : sqB M n = true) (hl : M.length = n) {i : Nat} (hi : i < n) (j : Nat) (y : Int) : sqB (setEnt M i j y) n = true := by
  rw [sqB_iff]
  intro r hr
  unfold setEnt at hr
  rcases List.mem_or_eq_of_mem_set hr with h1 | h1
  · exact sqB_iff.1 h r h1
  · rw [h1, List.length_set]; exact sqB_len h (by omega)
theorem ent_setEnt {M : List (List Int)} {n : Nat} (h : sqB M n = true) (hl : M.length = n) {i j : Nat} (hi : i < n) (hj : j < n) (y : Int) (a b : Nat) :
    ent (setEnt M i j y) a b = if a = i ∧ b = j then y else ent M a b := by
  have hr := sqB_len h (show i < M.length by omega)
  unfold ent setEnt
  by_cases ha : i = a
  · subst ha
    have : (M.set i ((M.getD i []).set j y)).getD i [] = (M.getD i []).set j y := by simp [List.getD, show i < M.length by omega]
    rw [this]
    by_cases hb : j = b
    · subst hb; simp [List.getD] at hr ⊢; simp [hr, hj]
    · rw [if_neg (by omega)]; simp [List.getD, hb]
  · rw [if_neg (by omega)]
    have : (M.set i ((M.getD i []).set j y)).getD a [] = M.getD a [] := by simp [List.getD, ha]
    rw [this]

/-- an own square matrix at every index -/
theorem fm_open {w : World} {lo hi g n cap : Nat} {M : List (List Int)} (h : FMat w lo hi (.slice (some ⟨g, 0, none⟩) n cap) M) (hl : M.length = n) (hsq : sqB M n = true) (hn : 0 < n) :
    ∃ G C : Nat → Nat, (∀ i, i < n → w.cell? ⟨g, i, none⟩ = some (.slice (some ⟨G i, 0, none⟩) n (C i))) ∧
      (∀ i j, i < n → j < n → w.cell? ⟨G i, j, none⟩ = some (.int .i64 (ent M i j)) ∧ w.frozen? ⟨G i, j, none⟩ = false) ∧
      ∀ i j y, i < n → j < n → FMat (w.setCell ⟨G i, j, none⟩ (.int .i64 y)) lo hi (.slice (some ⟨g, 0, none⟩) n cap) (setEnt M i j y) ∧ Touch lo hi w (w.setCell ⟨G i, j, none⟩ (.int .i64 y)) := by
  have each : ∀ i, i < n → ∃ q : Nat × Nat, w.cell? ⟨g, i, none⟩ = some (.slice (some ⟨q.1, 0, none⟩) n q.2) ∧
      (∀ j, j < n → w.cell? ⟨q.1, j, none⟩ = some (.int .i64 (ent M i j)) ∧ w.frozen? ⟨q.1, j, none⟩ = false) ∧
      ∀ j y, j < n → FMat (w.setCell ⟨q.1, j, none⟩ (.int .i64 y)) lo hi (.slice (some ⟨g, 0, none⟩) n cap) (setEnt M i j y) ∧ Touch lo hi w (w.setCell ⟨q.1, j, none⟩ (.int .i64 y)) := by
    intro i hi'
    obtain ⟨g', r, x, he, _, _, hc, _, hr, HX, hset⟩ := h.at (i := i) (by omega)
    simp only [Option.some.injEq, Addr.mk.injEq, and_true] at he
    subst he
    obtain ⟨ar, cr, rfl⟩ := hr.form
    have hx : x.length = n := by rw [← HX.out]; exact sqB_len hsq (show i < M.length by omega)
    obtain ⟨gr, _, rfl, hlo, hhi, _⟩ := hr.at (i := 0) (by omega)
    refine ⟨(gr, cr), by rw [hc, hx], fun j hj => ?_, fun j y hj => ?_⟩
    · obtain ⟨g2, z, he, _, _, hcz, hfz, HZ⟩ := hr.at (i := j) (by omega)
      simp only [Option.some.injEq, Addr.mk.injEq, and_true] at he
      subst he
      refine ⟨?_, hfz⟩
      rw [hcz, ← HZ.out]; unfold ent; rw [HX.out]
    · have hs := hr.set j y
      have hm := hset _ _ hs.1 hs.2.1
      refine ⟨?_, Touch.of_grown hs.2.1 (fun k hk => by cases hk; exact ⟨hlo, hhi⟩)⟩
      unfold setEnt; rw [HX.out]; exact hm
  obtain ⟨q, hq⟩ := Go.Deep.choose_lt each
  exact ⟨fun i => (q i).1, fun i => (q i).2, fun i hi => (hq i hi).1, fun i j hi hj => (hq i hi).2.1 j hj, fun i j y hi hj => (hq i hi).2.2 j y hj⟩

theorem FMat.form_some {w : World} {lo hi : Nat} {v : Value} {M : List (List Int)} (h : FMat w lo hi v M) (hn : 0 < M.length) : ∃ g cap, v = .slice (some ⟨g, 0, none⟩) M.length cap ∧ lo ≤ g ∧ g < hi := by
  obtain ⟨a, cap, rfl⟩ := h.form
  obtain ⟨g, _, _, rfl, h1, h2, _⟩ := h.at (i := 0) hn
  exact ⟨g, cap, rfl, h1, h2⟩

end Go.Proofs.YtnkbfgnmodfemaaGreatDoor
