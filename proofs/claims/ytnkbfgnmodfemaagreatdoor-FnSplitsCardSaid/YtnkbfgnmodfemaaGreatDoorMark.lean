/- Contracts of the laws' own helpers that write marks into slices and look whether they are still there. -/
import Derived.Test.YtnkbfgnmodfemaaGreatDoorMake2
namespace Go.Proofs.YtnkbfgnmodfemaaGreatDoor
open Go.RowKit
open Go.Lib (hid)

/-! ### One own slice, one cell written -/
theorem FInts.at {w : World} {lo hi n cap : Nat} {a : Option Addr} {xs : List Int} (h : FInts w lo hi (.slice a n cap) xs) {i : Nat} (hi' : i < xs.length) :
    ∃ g x, a = some ⟨g, 0, none⟩ ∧ lo ≤ g ∧ g < hi ∧ w.cell? ⟨g, i, none⟩ = some (.int .i64 x) ∧ w.frozen? ⟨g, i, none⟩ = false ∧ Hid (xs.getD i 0 = x) := by
  obtain ⟨a', cap', hv, h1, h2, h3, _, h4⟩ := own_form h.1
  simp only [Value.slice.injEq] at hv
  obtain ⟨rfl, rfl, rfl⟩ := hv
  obtain ⟨g, rfl, hlo, _, hc, hf⟩ := h4 i hi'
  refine ⟨g, xs.getD i 0, rfl, hlo, h.2 g rfl, ?_, hf, rfl⟩
  rw [hc]
  simp [List.getD, List.getElem?_eq_getElem hi']

theorem FInts.set {w : World} {lo hi n cap g : Nat} {xs : List Int} (h : FInts w lo hi (.slice (some ⟨g, 0, none⟩) n cap) xs) (i : Nat) (y : Int) :
    FInts (w.setCell ⟨g, i, none⟩ (.int .i64 y)) lo hi (.slice (some ⟨g, 0, none⟩) n cap) (xs.set i y) ∧ w.grownBy (w.setCell ⟨g, i, none⟩ (.int .i64 y)) (some g) ∧ (w.setCell ⟨g, i, none⟩ (.int .i64 y)).heap.size = w.heap.size := by
  have hn : n = xs.length := by
    obtain ⟨a', cap', hv, _⟩ := own_form h.1
    simp only [Value.slice.injEq] at hv; exact hv.2.1
  subst hn
  have hs := h.1.stored i (.int .i64 y)
  refine ⟨⟨?_, h.2⟩, hs.2, by simp [World.setCell]⟩
  have := hs.1
  rw [← List.map_set] at this
  rw [List.length_set]
  exact this

theorem grown_trans {a b c : World} {row : Option Nat} (h : a.grownBy b row) (k : b.grownBy c row) : a.grownBy c row :=
  ⟨k.os.trans h.os, k.tape.trans h.tape, k.output.trans h.output, Nat.le_trans h.size k.size, fun i hi hr => (k.block i (Nat.lt_of_lt_of_le hi h.size) hr).trans (h.block i hi hr)⟩
theorem grown_refl (w : World) (row : Option Nat) : w.grownBy w row := ⟨rfl, rfl, rfl, Nat.le_refl _, fun _ _ _ => rfl⟩

theorem markL_zero (k : Int) : markL 0 k = [] := rfl
theorem markL_len (n : Nat) (k : Int) : (markL n k).length = n := by simp [markL]
theorem markL_get (n : Nat) (k : Int) (i : Nat) (h : i < n) : (markL n k).getD i 0 = k + i := by simp [markL, List.getD, h]
theorem markL_set (xs : List Int) (k : Int) (i : Nat) (h : i < xs.length) : (markL i k ++ xs.drop i).set i (k + i) = markL (i + 1) k ++ xs.drop (i + 1) := by
  apply List.ext_getElem?
  intro j
  simp only [markL, List.getElem?_set, List.getElem?_append, List.getElem?_map, List.length_append, List.length_map, List.length_range, List.length_drop, List.getElem?_drop]
  by_cases hij : i = j
  · subst hij; simp; omega
  · by_cases hlt : j < i
    · simp [hij, hlt, show j < i + 1 by omega]
    · simp [hij, hlt, show ¬ j < i + 1 by omega]
      congr 1; omega

/-! ### Slices of slices -/
theorem FMat.at {w : World} {lo hi n cap : Nat} {a : Option Addr} {M : List (List Int)} (h : FMat w lo hi (.slice a n cap) M) {i : Nat} (hi' : i < M.length) :
    ∃ g r y, a = some ⟨g, 0, none⟩ ∧ lo ≤ g ∧ g < hi ∧ w.cell? ⟨g, i, none⟩ = some r ∧ w.frozen? ⟨g, i, none⟩ = false ∧ FInts w lo hi r y ∧ Hid (M.getD i [] = y) ∧
      (∀ w' z, FInts w' lo hi r z → w.grownBy w' r.ownBlock → FMat w' lo hi (.slice a n cap) (M.set i z)) := by
  obtain ⟨vs, h0, hb, hl, hr, hd⟩ := h
  obtain ⟨a', cap', hv, h1, h2, h3, _, h4⟩ := own_form h0
  simp only [Value.slice.injEq] at hv
  obtain ⟨rfl, rfl, rfl⟩ := hv
  obtain ⟨g, rfl, hlo, hgs, hc, hf⟩ := h4 i hi'
  have hvi : vs[i]? = some (vs.getD i .nilFunc) := by simp [List.getD, List.getElem?_eq_getElem (show i < vs.length by omega)]
  refine ⟨g, vs.getD i .nilFunc, M.getD i [], rfl, hlo, hb g rfl, by rw [hc, hvi], hf, hr i hi', rfl, fun w' z hz hg => ?_⟩
  have hne : (vs.getD i .nilFunc).ownBlock ≠ some g := by
    intro e
    rcases (hr i hi').1.2 with ⟨e', _⟩ | ⟨g', c', cur', e', _, hg', _⟩
    · rw [e'] at e; simp [Value.ownBlock] at e
    · rw [e'] at e
      simp [Value.ownBlock] at e
      subst e
      rcases h0.2 with ⟨e2, _⟩ | ⟨g2, c2, cur2, e2, _, hg2, _⟩
      · simp at e2
      · simp only [Value.slice.injEq, Option.some.injEq, Addr.mk.injEq, and_true, true_and] at e2
        obtain ⟨rfl, rfl⟩ := e2
        rw [hg'] at hg2
        simp at hg2
  have same : ∀ b, b < w.heap.size → some b ≠ (vs.getD i .nilFunc).ownBlock → w'.heap[b]? = w.heap[b]? := fun b h1 h2 => hg.block b h1 h2
  have hown : w'.ownsRow lo 27 1 (.slice (some ⟨g, 0, none⟩) M.length cap) M.length vs := own_same h0 (fun b hb' => by
    simp [Value.ownBlock] at hb'
    subst hb'
    exact same _ hgs (fun e => hne e.symm))
  refine ⟨vs, by rw [List.length_set]; exact hown, hb, by simpa using hl, fun j hj => ?_, fun j k hjk hk => hd j k hjk (by simpa using hk)⟩
  · rw [List.length_set] at hj
    by_cases e : i = j
    · subst e
      have : (M.set i z).getD i [] = z := by simp [List.getD, hi']
      rw [this]; exact hz
    · have : (M.set i z).getD j [] = M.getD j [] := by simp [List.getD, e]
      rw [this]
      have hrj := hr j hj
      refine ⟨own_same hrj.1 (fun b hb' => same b (hrj.1.lt b hb').2 (fun e' => ?_)), hrj.2⟩
      by_cases hlt : i < j
      · exact hd i j hlt hj b e'.symm hb'
      · exact hd j i (by omega) (by omega) b hb' e'.symm

/-- how many numbers -/
def tot : List (List Int) → Nat
  | [] => 0
  | r :: rs => r.length + tot rs
/-- k, k+1, .. into all rows -/
def markM : List (List Int) → Int → List (List Int)
  | [], _ => []
  | r :: rs, k => markL r.length k :: markM rs (k + r.length)
theorem markM_len (M : List (List Int)) (k : Int) : (markM M k).length = M.length := by
  induction M generalizing k with
  | nil => rfl
  | cons r rs ih => simp [markM, ih]
theorem tot_append (A B : List (List Int)) : tot (A ++ B) = tot A + tot B := by
  induction A with
  | nil => simp [tot]
  | cons r rs ih => simp [tot, ih]; omega
theorem markM_append (A B : List (List Int)) (k : Int) : markM (A ++ B) k = markM A k ++ markM B (k + tot A) := by
  induction A generalizing k with
  | nil => simp [markM, tot]
  | cons r rs ih => simp [markM, tot, ih]; congr 1; omega
theorem tot_markM (M : List (List Int)) (k : Int) : tot (markM M k) = tot M := by
  induction M generalizing k with
  | nil => rfl
  | cons r rs ih => simp [markM, tot, ih, markL_len]
theorem take_succ_getD (M : List (List Int)) (i : Nat) (h : i < M.length) : M.take (i + 1) = M.take i ++ [M.getD i []] := by
  rw [List.take_succ_eq_append_getElem h]; simp [List.getD, List.getElem?_eq_getElem h]
theorem tot_take_le (M : List (List Int)) (i : Nat) : tot (M.take i) ≤ tot M := by
  have := tot_append (M.take i) (M.drop i)
  rw [List.take_append_drop] at this; omega
theorem mark_step (M : List (List Int)) (k : Int) (i : Nat) (h : i < M.length) :
    (markM (M.take i) k ++ M.drop i).set i (markL (M.getD i []).length (k + tot (M.take i))) = markM (M.take (i + 1)) k ++ M.drop (i + 1) := by
  have hl : (markM (M.take i) k).length = i := by rw [markM_len, List.length_take]; omega
  rw [take_succ_getD M i h, markM_append, drop_cons M [] i h, List.set_append_right _ _ (by omega), hl, Nat.sub_self]
  simp [markM]

/-! ### For the laws' walks -/
theorem tot_le {M : List (List Int)} {a : Nat} (h1 : M.length ≤ a) (h2 : ∀ r ∈ M, r.length ≤ a) : tot M ≤ a * a := by
  have : ∀ (M : List (List Int)), (∀ r ∈ M, r.length ≤ a) → tot M ≤ M.length * a := by
    intro M
    induction M with
    | nil => intro _; simp [tot]
    | cons r rs ih =>
      intro h
      have h3 := h r (by simp)
      have h4 := ih (fun x hx => h x (by simp [hx]))
      simp only [tot, List.length_cons, Nat.succ_mul]; omega
  exact Nat.le_trans (this M h2) (Nat.mul_le_mul_right _ h1)
theorem tot_small {M : List (List Int)} (h : (M.length : Int) ≤ 1048576 ∧ ∀ r ∈ M, (r.length : Int) ≤ 1048576) : tot M ≤ 1099511627776 := by
  have := tot_le (M := M) (a := 1048576) (by omega) (fun r hr => by have := h.2 r hr; omega)
  omega

end Go.Proofs.YtnkbfgnmodfemaaGreatDoor
