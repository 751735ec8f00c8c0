/- Drawn metrics, plain: distances of leaves; own matrices under a cursor. -/
import Derived.Test.YtcgcgmlonhganaaDrawL
import Derived.Test.YtcgcgmlonhganaaMetT2
namespace Go.Proofs.Ytcgcgmlonhganaa
open Go.RowKit
open Go.Lib (hid)

theorem FMat.tch {w w' : World} {lo b : Nat} {v : Value} {M : List (List Int)} (h : FMat w lo w.heap.size v M) (ht : Touch b (b + 1) w w') (hb : b < lo) : FMat w' lo w'.heap.size v M :=
  (h.same (.of_touch ht (.inr hb))).mono (Nat.le_refl _) ht.size
theorem FMat.grw {w w' : World} {lo : Nat} {v : Value} {M : List (List Int)} (h : FMat w lo w.heap.size v M) (hb : Below w.heap.size w w') : FMat w' lo w'.heap.size v M :=
  (h.keep hb).mono (Nat.le_refl _) hb.size
theorem FMat.dr {w w' : World} {lo b : Nat} {v : Value} {M : List (List Int)} (h : FMat w lo w.heap.size v M) (hd : Dr b w.heap.size w w') (hb : b < lo) : FMat w' lo w'.heap.size v M :=
  (h.same (fun k h1 h2 _ => hd.block k h2 (by omega))).mono (Nat.le_refl _) hd.size
theorem ints_zero (w : World) (n : Nat) (hn : n ≤ 1048576) : FInts (w.alloc (.cells (madeCells #[.int .i64 0] n) 3)) w.heap.size (w.heap.size + 1) (.slice (some ⟨w.heap.size, 0, none⟩) n n) (List.replicate n 0) := by
  have h := ints_start w n hn []
  refine ⟨?_, fun g hg => by simp [Value.ownBlock] at hg; omega⟩
  simpa using h
theorem rep_succ (n k : Nat) : List.replicate k (List.replicate n (0 : Int)) ++ [List.replicate n 0] = List.replicate (k + 1) (List.replicate n 0) := by
  rw [List.replicate_succ']
theorem rep_sq (n : Nat) : (List.replicate n (List.replicate n (0 : Int))).length = n ∧ sqB (List.replicate n (List.replicate n (0 : Int))) n = true ∧ ∀ i j, ent (List.replicate n (List.replicate n (0 : Int))) i j = 0 := by
  refine ⟨by simp, sqB_iff.2 fun r hr => ?_, fun i j => ?_⟩
  · rw [List.eq_of_mem_replicate hr]; simp
  · unfold ent
    by_cases hi : i < n
    · by_cases hj : j < n
      · simp [List.getD, hi, hj]
      · simp [List.getD, hi, hj]
    · simp [List.getD, hi]

/-- how far two leaves are apart, by steps of two -/
def bdS : Nat → Nat → Nat → Int
  | 0, _, _ => 0
  | f + 1, x, y => if x / 2 = y / 2 then 0 else 2 + bdS f (x / 2) (y / 2)
def bdF (i k : Nat) : Int := if i = k then 0 else 4 + bdS 3 (min i k) (max i k)
theorem bd_all : (∀ i, i < 7 → ∀ k, k < 7 → (i = k ∨ (1 ≤ bdF i k ∧ bdF i k ≤ 8)) ∧ bdF i k = bdF k i ∧ ∀ j, j < 7 → bdF i k ≤ bdF i j + bdF j k) := by decide +kernel
theorem bd_met {n : Nat} (h2 : 2 ≤ n) (h7 : n ≤ 7) : Met n bdF where
  n2 := h2
  n7 := h7
  diag := fun i _ => if_pos rfl
  far := fun i j hi hj hne => by have := (bd_all i (by omega) j (by omega)).1; omega
  sym := fun i j hi hj => (bd_all i (by omega) j (by omega)).2.1
  tri := fun i j k hi hj hk => (bd_all i (by omega) k (by omega)).2.2 j (by omega)
/-- longer ends are given -/
theorem bd_pend {n : Nat} {M : List (List Int)} {b : List Int} (h2 : 2 ≤ n) (h7 : n ≤ 7) (hl : M.length = n) (hs : sqB M n = true) (he : ∀ i j, i < n → j < n → ent M i j = bdF i j) (hb : b.length = n) (hb3 : ∀ x ∈ b, 0 ≤ x ∧ x ≤ 3) : pendB M b = (addM b M, true) ∧ (addM b M).length = n ∧ sqB (addM b M) n = true := by
  have hm := bd_met h2 h7
  subst hl
  have hM : metB M = true := met_iff.2 ⟨hs, h2, h7, fun i hi => by rw [he i i hi hi]; exact hm.diag i hi, fun i j hi hj hne => by rw [he i j hi hj]; exact hm.far i j hi hj hne, fun i j hi hj => by rw [he i j hi hj, he j i hj hi]; exact hm.sym i j hi hj,
    fun i j k hi hj hk => by rw [he i k hi hk, he i j hi hj, he j k hj hk]; exact hm.tri i j k hi hj hk⟩
  obtain ⟨a1, a2, a3⟩ := addM_ent (b := b) hs
  have hbe : ∀ i, i < M.length → 0 ≤ b.getD i 0 ∧ b.getD i 0 ≤ 3 := fun i hi => by
    have : b.getD i 0 ∈ b := by simp [List.getD, show i < b.length by omega]
    exact hb3 _ this
  have hok : pendOk M b = true := by
    unfold pendOk
    rw [hM, hb]
    simp only [beq_self_eq_true, Bool.true_and]
    unfold allB
    rw [List.all_eq_true]
    intro x hx
    exact inB_iff.2 (by have := hb3 x hx; omega)
  have hA : metB (addM b M) = true := met_iff.2 ⟨by rw [a1]; exact a2, by
    rw [a1]
    refine ⟨h2, h7, fun i hi => ?_, fun i j hi hj hne => ?_, fun i j hi hj => ?_, fun i j k hi hj hk => ?_⟩
    · rw [a3 i i hi hi, if_pos rfl, he i i hi hi]; exact hm.diag i hi
    · rw [a3 i j hi hj, if_neg hne, he i j hi hj]
      have := (bd_all i (by omega) j (by omega)).1
      have := hbe i hi; have := hbe j hj; omega
    · rw [a3 i j hi hj, a3 j i hj hi, he i j hi hj, he j i hj hi, hm.sym i j hi hj]
      by_cases e : i = j
      · rw [if_pos e, if_pos e.symm]
      · rw [if_neg e, if_neg (fun x => e x.symm)]; omega
    · rw [a3 i k hi hk, a3 i j hi hj, a3 j k hj hk, he i k hi hk, he i j hi hj, he j k hj hk]
      have t := hm.tri i j k hi hj hk
      have := hbe i hi; have := hbe j hj; have := hbe k hk
      have d1 := hm.diag i hi; have d2 := hm.diag j hj
      by_cases e1 : i = k
      · rw [if_pos e1]
        split <;> split <;> omega
      · rw [if_neg e1]
        by_cases e2 : i = j
        · subst e2; rw [if_pos rfl, if_neg e1]; omega
        · rw [if_neg e2]
          by_cases e3 : j = k
          · subst e3; rw [if_pos rfl]; omega
          · rw [if_neg e3]; omega⟩
  exact ⟨pendB_yes M b hok hA, a1, a2⟩

/-- a drawn matrix: whole, or without its first row -/
def LMat (w : World) (lo : Nat) (v : Value) (M : List (List Int)) : Prop :=
  FMat w lo w.heap.size v M ∨ ∃ g n cap r, v = .slice (some ⟨g, 1, none⟩) n (cap - 1) ∧ FMat w lo w.heap.size (.slice (some ⟨g, 0, none⟩) (n + 1) cap) (r :: M)
theorem LMat.tch {w w' : World} {lo b : Nat} {v : Value} {M : List (List Int)} (h : LMat w lo v M) (ht : Touch b (b + 1) w w') (hb : b < lo) : LMat w' lo v M :=
  h.elim (fun h => .inl (h.tch ht hb)) fun ⟨g, n, cap, r, e, h⟩ => .inr ⟨g, n, cap, r, e, h.tch ht hb⟩
theorem LMat.grw {w w' : World} {lo : Nat} {v : Value} {M : List (List Int)} (h : LMat w lo v M) (hb : Below w.heap.size w w') : LMat w' lo v M :=
  h.elim (fun h => .inl (h.grw hb)) fun ⟨g, n, cap, r, e, h⟩ => .inr ⟨g, n, cap, r, e, h.grw hb⟩
theorem LMat.dr {w w' : World} {lo b : Nat} {v : Value} {M : List (List Int)} (h : LMat w lo v M) (hd : Dr b w.heap.size w w') (hb : b < lo) : LMat w' lo v M :=
  h.elim (fun h => .inl (h.dr hd hb)) fun ⟨g, n, cap, r, e, h⟩ => .inr ⟨g, n, cap, r, e, h.dr hd hb⟩
theorem LMat.mono {w : World} {lo lo' : Nat} {v : Value} {M : List (List Int)} (h : LMat w lo v M) (hl : lo' ≤ lo) : LMat w lo' v M :=
  h.elim (fun h => .inl (h.mono hl (Nat.le_refl _))) fun ⟨g, n, cap, r, e, h⟩ => .inr ⟨g, n, cap, r, e, h.mono hl (Nat.le_refl _)⟩
theorem rmat_tail1 {w : World} {g o n cap : Nat} {r : List Int} {M : List (List Int)} (h : RMat w (.slice (some ⟨g, o, none⟩) (n + 1) cap) (r :: M)) : RMat w (.slice (some ⟨g, o + 1, none⟩) n (cap - 1)) M := by
  obtain ⟨a, c, he, h1, h2, hc⟩ := h
  simp only [Value.slice.injEq, List.length_cons] at he
  obtain ⟨rfl, hn, rfl⟩ := he
  simp only [List.length_cons] at h1 hc
  obtain rfl : n = M.length := by omega
  refine ⟨_, _, rfl, by omega, by omega, fun i hi => ?_⟩
  obtain ⟨g', o', v, he, hcell, hv⟩ := hc (i + 1) (by omega)
  simp only [Option.some.injEq, Addr.mk.injEq, and_true] at he
  obtain ⟨rfl, rfl⟩ := he
  exact ⟨g, o + 1, v, rfl, by rw [show o + 1 + i = o + (i + 1) by omega]; exact hcell, by simpa using hv⟩
theorem LMat.r {w : World} {lo : Nat} {v : Value} {M : List (List Int)} (h : LMat w lo v M) : RMat w v M :=
  h.elim (fun h => h.r) fun ⟨g, n, cap, r, e, h⟩ => by rw [e]; exact rmat_tail1 h.r
theorem LMat.form3 {w : World} {lo : Nat} {v : Value} {M : List (List Int)} (h : LMat w lo v M) : ∃ a n c, v = .slice a n c ∧ Hid (n = M.length) := by
  obtain ⟨a, c, e, _⟩ := h.r
  exact ⟨a, _, c, e, hid rfl⟩

/-- one row of an own square matrix, by its block -/
theorem fm_rowM {w : World} {lo hi g n cap : Nat} {M : List (List Int)} (h : FMat w lo hi (.slice (some ⟨g, 0, none⟩) n cap) M) (hl : M.length = n) (hsq : sqB M n = true) {i : Nat} (hi' : i < n) :
    ∃ gr cr : Nat, w.cell? ⟨g, i, none⟩ = some (.slice (some ⟨gr, 0, none⟩) n cr) ∧ lo ≤ gr ∧ gr < w.heap.size ∧ lo ≤ g ∧ g < w.heap.size ∧ (∀ j, j < n → w.cell? ⟨gr, j, none⟩ = some (.int .i64 (ent M i j)) ∧ w.frozen? ⟨gr, j, none⟩ = false) := by
  obtain ⟨g', r, x, he, hg1, _, hc, _, hr, HX, _⟩ := h.at (i := i) (by omega)
  simp only [Option.some.injEq, Addr.mk.injEq, and_true] at he
  subst he
  obtain ⟨ar, cr, rfl⟩ := hr.form
  have hx : x.length = n := by rw [← HX.out]; exact sqB_len hsq (show i < M.length by omega)
  obtain ⟨gr, _, rfl, hlo, hhi, _⟩ := hr.at (i := 0) (by omega)
  have hcell : ∀ j, j < n → w.cell? ⟨gr, j, none⟩ = some (.int .i64 (ent M i j)) ∧ w.frozen? ⟨gr, j, none⟩ = false := fun j hj => by
    obtain ⟨g2, z, he, _, _, hcz, hfz, HZ⟩ := hr.at (i := j) (by omega)
    simp only [Option.some.injEq, Addr.mk.injEq, and_true] at he
    subst he
    refine ⟨?_, hfz⟩
    rw [hcz, ← HZ.out]; unfold ent; rw [HX.out]
  exact ⟨gr, cr, by rw [hc, hx], hlo, cell_lt (hcell i hi').1, hg1, cell_lt hc, hcell⟩
/-- an entry is set where the row is known to lie -/
theorem fm_setM {w : World} {lo hi g n cap gr cr : Nat} {M : List (List Int)} (h : FMat w lo hi (.slice (some ⟨g, 0, none⟩) n cap) M) (hl : M.length = n) (hsq : sqB M n = true) {i j : Nat} (hi' : i < n) (hj : j < n) (hc : w.cell? ⟨g, i, none⟩ = some (.slice (some ⟨gr, 0, none⟩) n cr)) (y : Int) :
    FMat (w.setCell ⟨gr, j, none⟩ (.int .i64 y)) lo hi (.slice (some ⟨g, 0, none⟩) n cap) (setEnt M i j y) ∧ Touch lo hi w (w.setCell ⟨gr, j, none⟩ (.int .i64 y)) ∧ (w.setCell ⟨gr, j, none⟩ (.int .i64 y)).cell? ⟨g, i, none⟩ = some (.slice (some ⟨gr, 0, none⟩) n cr) := by
  obtain ⟨g', r, x, he, _, _, hc', _, hr, HX, hset⟩ := h.at (i := i) (by omega)
  simp only [Option.some.injEq, Addr.mk.injEq, and_true] at he
  subst he
  rw [hc] at hc'
  obtain rfl := Option.some.inj hc'
  have hx : x.length = n := by rw [← HX.out]; exact sqB_len hsq (show i < M.length by omega)
  obtain ⟨_, _, he, hlo, hhi, hcz, _, _⟩ := hr.at (i := j) (by omega)
  simp only [Option.some.injEq, Addr.mk.injEq, and_true] at he
  subst he
  obtain ⟨_, _, he, _, _, hcz2, _, _⟩ := hr.at (i := i) (by omega)
  simp only [Option.some.injEq, Addr.mk.injEq, and_true] at he
  subst he
  have hne : gr ≠ g := fun e => by
    rw [e, hc] at hcz2
    cases hcz2
  have hs := hr.set j y
  have hm := hset _ _ hs.1 hs.2.1
  refine ⟨?_, Touch.of_grown hs.2.1 (fun k hk => by cases hk; exact ⟨hlo, hhi⟩), ?_⟩
  · unfold setEnt; rw [HX.out]; exact hm
  · have hb := hs.2.1.block g (cell_lt hc) (fun e => by cases e; exact hne rfl)
    rw [World.cell?_of_block (a := ⟨g, i, none⟩) hb]; exact hc
end Go.Proofs.Ytcgcgmlonhganaa
