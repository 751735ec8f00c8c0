/- Piles, plain: what both programs ask, all stable piles in order, the recurrent ones. -/
import Derived.Test.YtifdhapaonideaaPileP
import Derived.Test.YtifdhapaonideaaRankS2
namespace Go.Proofs.Ytifdhapaonideaa
open Go.RowKit
open Go.Lib (hid)

namespace Gr
variable {G : Gr}
theorem Way.trans {a b c k j : Nat} (h : G.Way a b k) (h' : G.Way b c j) : ∃ i, G.Way a c i := by
  induction h' with
  | here => exact ⟨k, h⟩
  | step _ h1 h2 ih => obtain ⟨i, hi⟩ := ih; exact ⟨i + 1, .step hi h1 h2⟩
theorem Way.back {a b k : Nat} (ha : a < G.n) (h : G.Way a b k) : ∃ i, G.Way b a i := by
  induction h with
  | here => exact ⟨0, .here⟩
  | @step u v k hw h1 h2 ih =>
    obtain ⟨i, hi⟩ := ih
    exact Way.trans (.step .here (hw.lt ha) (by rw [G.sym]; exact h2)) hi
theorem Conn.any {q : Nat} (hn : 0 < G.n) (hc : G.Conn 0) (hq : q < G.n) : G.Conn q := fun v hv => by
  obtain ⟨k, hk⟩ := hc q hq
  obtain ⟨i, hi⟩ := hk.back hn
  obtain ⟨j, hj⟩ := hc v hv
  exact hi.trans hj
end Gr

/-- a graph and a sink are valid -/
noncomputable def piGB (n : Int) (L : List Lnk) (q : Int) : Bool := goodG n L && (decide (n ≤ 5) && (inB q 0 (n - 1) && (conB n.toNat L && decide (edgL L ≤ 10))))
/-- numbers are a pile -/
def piPB (n q : Int) (d : List Int) : Bool := ((d.length : Int) == n) && (allB d 0 50 && (d.getD q.toNat 0 == 0))
noncomputable def piAB (n : Int) (L : List Lnk) (q : Int) (d : List Int) : Bool := piGB n L q && piPB n q d
/-- a valid graph with a sink -/
structure PG (n : Nat) (L : List Lnk) (q : Nat) : Prop where
  good : GoodL n L
  con : (grL n L good).Conn q
  hq : q < n
  n5 : n ≤ 5
  e10 : edgL L ≤ 10
theorem PG.n1 {n q : Nat} {L : List Lnk} (h : PG n L q) : 1 ≤ n := h.good.n1
theorem piGB_parts {n : Int} {L : List Lnk} {q : Int} (h : piGB n L q = true) : n = (n.toNat : Int) ∧ q = (q.toNat : Int) ∧ PG n.toNat L q.toNat ∧ goodG n L = true ∧ conB n.toNat L = true ∧ inB q 0 (n - 1) = true := by
  unfold piGB at h
  simp only [Bool.and_eq_true, decide_eq_true_eq] at h
  obtain ⟨h1, h2, h3, h4, h5⟩ := h
  obtain ⟨hG, hn⟩ := goodG_parts h1
  have hq := inB_iff.1 h3
  exact ⟨hn, by omega, ⟨hG, Gr.Conn.any (G := grL n.toNat L hG) hG.n1 ((conB_iff hG).1 h4) (show q.toNat < n.toNat by omega), by omega, by omega, h5⟩, h1, h4, h3⟩
theorem piPB_parts {n q : Nat} {d : List Int} (h : piPB n q d = true) : d.length = n ∧ (∀ x ∈ d, 0 ≤ x ∧ x ≤ 50) ∧ d.getD q 0 = 0 := by
  unfold piPB at h
  simp only [Bool.and_eq_true, beq_iff_eq, Int.toNat_natCast] at h
  exact ⟨by omega, allB_mem h.2.1, h.2.2⟩

/-- all lists whose numbers are at most those of another -/
def stA : List Int → List (List Int)
  | [] => [[]]
  | m :: ms => (List.range (m + 1).toNat).flatMap (fun (k : Nat) => (stA ms).map (fun e => (k : Int) :: e))
/-- those whose first number is below x -/
def stX (ms : List Int) (x : Nat) : List (List Int) := (List.range x).flatMap (fun (k : Nat) => (stA ms).map (fun e => (k : Int) :: e))
theorem stX_succ (ms : List Int) (x : Nat) : stX ms (x + 1) = stX ms x ++ (stA ms).map (fun e => (x : Int) :: e) := by
  unfold stX; rw [List.range_succ, List.flatMap_append]; simp
theorem stA_cons (m : Int) (ms : List Int) : stA (m :: ms) = stX ms (m + 1).toNat := rfl
theorem stA_mem : ∀ (ms : List Int) (e : List Int), e ∈ stA ms ↔ e.length = ms.length ∧ ∀ i, i < ms.length → 0 ≤ e.getD i 0 ∧ e.getD i 0 ≤ ms.getD i 0
  | [], e => by simp [stA]
  | m :: ms, e => by
    simp only [stA, List.mem_flatMap, List.mem_range, List.mem_map]
    constructor
    · rintro ⟨k, hk, e', he', rfl⟩
      obtain ⟨h1, h2⟩ := (stA_mem ms e').1 he'
      refine ⟨by simp [h1], fun i hi => ?_⟩
      cases i with
      | zero => simp; omega
      | succ i => simpa using h2 i (by simpa using hi)
    · rintro ⟨h1, h2⟩
      cases e with
      | nil => simp at h1
      | cons x xs =>
        have h0 := h2 0 (by simp)
        simp at h0
        refine ⟨x.toNat, by omega, xs, (stA_mem ms xs).2 ⟨by simpa using h1, fun i hi => by simpa using h2 (i + 1) (by simpa using hi)⟩, ?_⟩
        rw [Int.toNat_of_nonneg h0.1]
theorem stX_len (ms : List Int) (N : Nat) (h : (stA ms).length ≤ N) : ∀ x, (stX ms x).length ≤ x * N := by
  intro x
  induction x with
  | zero => simp [stX]
  | succ x ih => rw [stX_succ, List.length_append, List.length_map, Nat.succ_mul]; omega
theorem stA_len : ∀ (ms : List Int), (∀ m ∈ ms, m ≤ 34) → (stA ms).length ≤ 35 ^ ms.length
  | [], _ => by simp [stA]
  | m :: ms, h => by
    rw [stA_cons]
    refine Nat.le_trans (stX_len ms _ (stA_len ms (fun x hx => h x (by simp [hx]))) _) ?_
    rw [List.length_cons, Nat.pow_succ, Nat.mul_comm (35 ^ ms.length)]
    exact Nat.mul_le_mul_right _ (by have := h m (by simp); omega)

/-- stable; recurrent -/
noncomputable def stB (n : Nat) (L : List Lnk) (q : Nat) (f : Nat → Int) : Bool := decP (∃ hG : GoodL n L, (grL n L hG).Stab q f)
noncomputable def recB (n : Nat) (L : List Lnk) (q : Nat) (f : Nat → Int) : Bool := decP (∃ hG : GoodL n L, Gr.Rec (grL n L hG) q f)
theorem stB_iff {n q : Nat} {L : List Lnk} (hG : GoodL n L) {f : Nat → Int} : stB n L q f = true ↔ (grL n L hG).Stab q f := by
  unfold stB; rw [decP_iff]; exact ⟨fun ⟨_, h⟩ => h, fun h => ⟨hG, h⟩⟩
theorem recB_iff {n q : Nat} {L : List Lnk} (hG : GoodL n L) {f : Nat → Int} : recB n L q f = true ↔ Gr.Rec (grL n L hG) q f := by
  unfold recB; rw [decP_iff]; exact ⟨fun ⟨_, h⟩ => h, fun h => ⟨hG, h⟩⟩
/-- the greatest stable pile -/
def grtV (n : Nat) (L : List Lnk) (q : Nat) : Nat → Int := fun v => if v = q then 0 else valV n L v - 1
theorem grtV_eq {n q : Nat} {L : List Lnk} (hG : GoodL n L) : grtV n L q = Gr.grt (grL n L hG) q := rfl
/-- all recurrent piles -/
noncomputable def recL (n : Nat) (L : List Lnk) (q : Nat) : List (List Int) := (stA (lst n (grtV n L q))).filter (fun e => recB n L q (fun i => e.getD i 0))
theorem recL_mem {n q : Nat} {L : List Lnk} (h : PG n L q) {e : List Int} (he : e ∈ recL n L q) : e.length = n ∧ Gr.Rec (grL n L h.good) q (fun i => e.getD i 0) ∧ e.getD q 0 = 0 := by
  unfold recL at he
  rw [List.mem_filter] at he
  obtain ⟨h1, h2⟩ := (stA_mem _ _).1 he.1
  rw [lst_len] at h1 h2
  refine ⟨h1, (recB_iff h.good).1 he.2, ?_⟩
  have := h2 q h.hq
  rw [lst_at _ h.hq, grtV, if_pos rfl] at this
  omega
theorem rec_mem {n q : Nat} {L : List Lnk} (h : PG n L q) {f : Nat → Int} (hr : Gr.Rec (grL n L h.good) q f) (h0 : f q = 0) : lst n f ∈ recL n L q := by
  unfold recL
  rw [List.mem_filter]
  refine ⟨(stA_mem _ _).2 ⟨by rw [lst_len, lst_len], fun i hi => ?_⟩, (recB_iff h.good).2 (hr.congr (fun v hv _ => (lst_at f hv).symm))⟩
  rw [lst_len] at hi
  rw [lst_at _ hi, lst_at _ hi, grtV]
  by_cases e : i = q
  · rw [if_pos e, e, h0]; omega
  · rw [if_neg e]
    have h1 := hr.pos i hi e
    have h2 := hr.stab i hi e
    have h3 : (grL n L h.good).val i = valV n L i := rfl
    omega
theorem recL_len {n q : Nat} {L : List Lnk} (h : PG n L q) : (recL n L q).length ≤ 52521875 := by
  unfold recL
  refine Nat.le_trans (List.length_filter_le _ _) (Nat.le_trans (stA_len _ (fun m hm => ?_)) ?_)
  · obtain ⟨i, hi, rfl⟩ := mem_lst.1 hm
    have := (grL n L h.good).val_le i hi
    have h3 : (grL n L h.good).val i = valV n L i := rfl
    unfold grtV; split <;> omega
  · rw [lst_len]
    exact Nat.le_trans (Nat.pow_le_pow_right (by decide) h.n5) (by decide)
/-- two piles that agree but at the sink, and there too -/
theorem lst_eqv {n q : Nat} {L : List Lnk} (hG : GoodL n L) {f g : Nat → Int} (h : Gr.Eqv (grL n L hG) q f g) (hq : f q = g q) : lst n f = lst n g := lst_congr fun i hi => by
  by_cases e : i = q
  · rw [e, hq]
  · exact h i hi e
/-- the first that passes is one that alone passes -/
theorem find_only {α : Type} {l : List α} {p : α → Bool} {x : α} (hx : x ∈ l) (hp : p x = true) (h : ∀ y ∈ l, p y = true → y = x) : l.find? p = some x := by
  cases hf : l.find? p with
  | none => rw [List.find?_eq_none] at hf; exact (hf x hx hp).elim
  | some y => rw [h y (List.mem_of_find?_eq_some hf) (List.find?_some hf)]
end Go.Proofs.Ytifdhapaonideaa
