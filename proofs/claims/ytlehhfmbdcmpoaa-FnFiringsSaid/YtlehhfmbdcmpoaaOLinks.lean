/- Slices of links of the call's own, that grow. -/
import Derived.Test.YtlehhfmbdcmpoaaCur
import Derived.Test.YtlehhfmbdcmpoaaLink
namespace Go.Proofs.Ytlehhfmbdcmpoaa
open Go.RowKit
open Go.Lib (hid)

/-- the cells of links -/
def flatL : List Lnk → List Value
  | [] => []
  | t :: ts => .int .i64 t.a :: .int .i64 t.b :: .int .i64 t.n :: flatL ts
theorem flatL_append (L M : List Lnk) : flatL (L ++ M) = flatL L ++ flatL M := by
  induction L with
  | nil => rfl
  | cons t ts ih => show _ :: _ :: _ :: flatL (ts ++ M) = _ :: _ :: _ :: (flatL ts ++ flatL M); rw [ih]
theorem flatL_len (L : List Lnk) : (flatL L).length = L.length * 3 := by
  induction L with
  | nil => rfl
  | cons t ts ih => show (flatL ts).length + 1 + 1 + 1 = (ts.length + 1) * 3; omega
theorem flatL_at (L : List Lnk) : ∀ i, i < L.length → (flatL L)[i * 3]? = some (.int .i64 (L.getD i noLnk).a) ∧ (flatL L)[i * 3 + 1]? = some (.int .i64 (L.getD i noLnk).b) ∧ (flatL L)[i * 3 + 2]? = some (.int .i64 (L.getD i noLnk).n) := by
  induction L with
  | nil => intro i hi; simp at hi
  | cons t ts ih =>
    intro i hi
    cases i with
    | zero => exact ⟨rfl, rfl, rfl⟩
    | succ i =>
      have := ih i (by simpa using hi)
      rw [show (i + 1) * 3 = i * 3 + 1 + 1 + 1 by omega]
      exact this
theorem flatL_set (L : List Lnk) : ∀ (i : Nat) (q : Int), i < L.length → (flatL L).set (i * 3 + 2) (.int .i64 q) = flatL (L.set i ⟨(L.getD i noLnk).a, (L.getD i noLnk).b, q⟩) := by
  induction L with
  | nil => intro i q hi; simp at hi
  | cons t ts ih =>
    intro i q hi
    cases i with
    | zero => rfl
    | succ i =>
      rw [show (i + 1) * 3 + 2 = i * 3 + 2 + 1 + 1 + 1 by omega]
      show _ :: _ :: _ :: (flatL ts).set (i * 3 + 2) _ = _ :: _ :: _ :: flatL (ts.set i _)
      rw [ih i q (by simpa using hi)]
      rfl

/-- v is a slice of links in a block of its own from lo on -/
def OLinks (w : World) (lo : Nat) (v : Value) (L : List Lnk) : Prop := w.ownsRow lo 78 3 v L.length (flatL L)
theorem olinks_nil (w : World) (lo : Nat) : OLinks w lo (.slice none 0 0) [] := World.ownsRow_nil _ _ _ _
theorem OLinks.keep {w w' : World} {lo : Nat} {v : Value} {L : List Lnk} (h : OLinks w lo v L) (hb : Below w.heap.size w w') : OLinks w' lo v L := by
  refine ⟨h.1, ?_⟩
  rcases h.2 with hn | ⟨g, cap, cur, rfl, hb1, hg, rest⟩
  · exact .inl hn
  · exact .inr ⟨g, cap, cur, rfl, hb1, by rw [hb.block g (Array.getElem?_eq_some_iff.1 hg).1]; exact hg, rest⟩
theorem OLinks.touch {w w' : World} {lo b c : Nat} {v : Value} {L : List Lnk} (h : OLinks w lo v L) (hb : Touch b c w w') (hc : c ≤ lo) : OLinks w' lo v L := by
  refine ⟨h.1, ?_⟩
  rcases h.2 with hn | ⟨g, cap, cur, rfl, hb1, hg, rest⟩
  · exact .inl hn
  · exact .inr ⟨g, cap, cur, rfl, hb1, by rw [hb.block g (Array.getElem?_eq_some_iff.1 hg).1 (by omega)]; exact hg, rest⟩
theorem OLinks.form {w : World} {lo : Nat} {v : Value} {L : List Lnk} (h : OLinks w lo v L) : ∃ a n cap, v = .slice a n cap := by
  rcases h.2 with ⟨rfl, _⟩ | ⟨g, cap, cur, rfl, _⟩
  · exact ⟨_, _, _, rfl⟩
  · exact ⟨_, _, _, rfl⟩
theorem OLinks.form2 {w : World} {lo : Nat} {v : Value} {L : List Lnk} (h : OLinks w lo v L) : ∃ a cap, v = .slice a L.length cap := by
  rcases h.2 with ⟨rfl, hn⟩ | ⟨g, cap, cur, rfl, _⟩
  · rw [hn]; exact ⟨_, _, rfl⟩
  · exact ⟨_, _, rfl⟩
theorem OLinks.r {w : World} {lo : Nat} {v : Value} {L : List Lnk} (h : OLinks w lo v L) : RLinks w v L := by
  have h2' := h
  rcases h.2 with ⟨rfl, hn⟩ | ⟨g, cap, cur, rfl, _, _, hnc, hcm, _⟩
  · have hL : L = [] := List.length_eq_zero_iff.1 hn
    subst hL
    exact ⟨none, 0, rfl, Nat.le_refl _, by unfold maxLen; omega, fun i hi => by simp at hi⟩
  · refine ⟨_, cap, rfl, hnc, hcm, fun i hi => ⟨g, 0, rfl, ?_, ?_, ?_⟩⟩
    · rw [Nat.zero_add, h2'.cellAt (i * 3) (by omega)]; exact (flatL_at L i hi).1
    · rw [Nat.zero_add, h2'.cellAt (i * 3 + 1) (by omega)]; exact (flatL_at L i hi).2.1
    · rw [Nat.zero_add, h2'.cellAt (i * 3 + 2) (by omega)]; exact (flatL_at L i hi).2.2

theorem run_append_links {w : World} {lo : Nat} {v : Value} {L : List Lnk} (ty : TypeId) (h : OLinks w lo v L) {g c : Nat} {x y z : Int}
    (h0 : w.cell? ⟨g, 0, none⟩ = some (.int .i64 x)) (h1 : w.cell? ⟨g, 1, none⟩ = some (.int .i64 y)) (h2 : w.cell? ⟨g, 2, none⟩ = some (.int .i64 z))
    (hlen : L.length + 1 ≤ 1048576) (hlo : lo ≤ w.heap.size) :
    ∃ v' w', (Builtin.append_ #[27, 27] ty #[v, .slice (some ⟨g, 0, none⟩) 1 c]).run Try.prog w = .ok v' w' ∧ OLinks w' lo v' (L ++ [⟨x, y, z⟩]) ∧ w.grownBy w' v.ownBlock := by
  obtain ⟨i0, hi0, hz0, hz1, hz2⟩ := info_parts Try.infoLink
  obtain ⟨v', w', hr, hown, hg, hn⟩ := run_append_own (P := Try.prog) w lo 27 ty 78 i0 (.agg #[.int .i64 0, .int .i64 0, .int .i64 0]) 3 24 Try.underlying27 hi0 hz0 hz1 hz2 rfl (by decide) v L.length (flatL L) h
    ⟨g, 0, none⟩ 1 c (flatL [⟨x, y, z⟩]) (flatL_len _) (fun j u hu => by
      rw [addr_add, Nat.zero_add]
      match j, hu with
      | 0, hu => cases hu; exact h0
      | 1, hu => cases hu; exact h1
      | 2, hu => cases hu; exact h2
      | j + 3, hu => simp [flatL] at hu) (fun u hu => by
      simp only [flatL, List.mem_cons, List.not_mem_nil, or_false] at hu
      rcases hu with rfl | rfl | rfl <;> rfl) (by unfold maxLen; omega) (by omega) hlo
  exact ⟨v', w', hr, by unfold OLinks; rw [List.length_append, flatL_append]; exact hown, hg⟩

theorem wpList_append_links {w : World} {ops : Array Oper} {rest : List Oper} {o : Oper} {a : Act} {Q : Exit → Act → World → Prop} (hgd : o.guard = none) (s x : Operand)
    (ho : o.op = .call { callee := .builtin .append, args := #[s, x], argTypes := #[27, 27] }) (lo : Nat) (v : Value) (L : List Lnk) (g c : Nat) (x1 x2 x3 : Int) (hs : a.eval s = v) (hx : a.eval x = .slice (some ⟨g, 0, none⟩) 1 c)
    (h : OLinks w lo v L) (h0 : w.cell? ⟨g, 0, none⟩ = some (.int .i64 x1)) (h1 : w.cell? ⟨g, 1, none⟩ = some (.int .i64 x2)) (h2 : w.cell? ⟨g, 2, none⟩ = some (.int .i64 x3))
    (hlen : L.length + 1 ≤ 1048576) (hlo : lo ≤ w.heap.size)
    (hh : ∀ v' w', OLinks w' lo v' (L ++ [⟨x1, x2, x3⟩]) → w.grownBy w' v.ownBlock → wpList Try.prog ops Q rest (a.put o.dst v') w') : wpList Try.prog ops Q (o :: rest) a w := by
  refine wpList_plain hgd fun K hK => ?_
  obtain ⟨v', w', hr', h2, h3⟩ := run_append_links (c := c) o.type h h0 h1 h2 hlen hlo
  unfold Oper.wp execOp
  simp only [ho, resolve, invoke, builtin, Sem.run_bind, Sem.run_pure, Result.andThen_ok, List.map_toArray, List.map_cons, List.map_nil, hs, hx, hr']
  exact hK _ _ (hh v' w' h2 h3)

theorem OLinks.below {w w' a : World} {lo B : Nat} {v : Value} {L : List Lnk} (h : OLinks w lo v L) (hb : Below B a w) (hg : w.grownBy w' v.ownBlock) (hlo : B ≤ lo) (hB : B ≤ w.heap.size) : Below B a w' :=
  hb.grown hg hB (fun k hk => Nat.le_trans hlo (h.lt k hk).1)
theorem OLinks.set {w : World} {lo : Nat} {a : Option Addr} {n cap : Nat} {L : List Lnk} (h : OLinks w lo (.slice a n cap) L) {i : Nat} (hi : i < L.length) :
    ∃ g, a = some ⟨g, 0, none⟩ ∧ n = L.length ∧ lo ≤ g ∧ g < w.heap.size ∧ (∃ q, w.cell? ⟨g, i * 3 + 2, none⟩ = some (.int .i64 q)) ∧ w.frozen? ⟨g, i * 3 + 2, none⟩ = false ∧
      ∀ q, OLinks (w.setCell ⟨g, i * 3 + 2, none⟩ (.int .i64 q)) lo (.slice (some ⟨g, 0, none⟩) n cap) (L.set i ⟨(L.getD i noLnk).a, (L.getD i noLnk).b, q⟩) := by
  have h2' := h
  rcases h.2 with ⟨hv, hn⟩ | ⟨g, cap', cur, hv, hlo, hg, hnc, hcm, _⟩
  · omega
  · simp only [Value.slice.injEq] at hv
    obtain ⟨rfl, rfl, rfl⟩ := hv
    refine ⟨g, rfl, rfl, hlo, (Array.getElem?_eq_some_iff.1 hg).1, ⟨(L.getD i noLnk).n, ?_⟩, frozen_of_row _ _ _ _ _ hg, fun q => ?_⟩
    · rw [h2'.cellAt (i * 3 + 2) (by omega)]; exact (flatL_at L i hi).2.2
    · unfold OLinks; rw [← flatL_set L i q hi, List.length_set]; exact (h2'.stored (i * 3 + 2) (.int .i64 q)).1

end Go.Proofs.Ytlehhfmbdcmpoaa
