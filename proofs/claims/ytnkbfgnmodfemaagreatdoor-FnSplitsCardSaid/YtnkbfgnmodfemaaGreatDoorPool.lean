/- Slices of rows that lie in one another's list too: the cells of the slice, and the rows apart. -/
import Derived.Test.YtnkbfgnmodfemaaGreatDoorOwn
import Derived.Maps.AppendAt
namespace Go.Proofs.YtnkbfgnmodfemaaGreatDoor
open Go.RowKit
open Go.Lib (hid)

/-- rows of numbers, each in a block of its own from lo on and below hi -/
def PoolZ (w : World) (lo hi : Nat) (Z : List (Value × List Int)) : Prop :=
  (∀ z ∈ Z, FInts w lo hi z.1 z.2) ∧ Z.Pairwise (fun a b => ∀ g, a.1.ownBlock = some g → b.1.ownBlock ≠ some g)
/-- v is a slice of the values of Z in a block of its own from lo on -/
def OMat (w : World) (lo : Nat) (v : Value) (Z : List (Value × List Int)) : Prop := w.ownsRow lo 27 1 v Z.length (Z.map Prod.fst)

theorem own_ne {w : World} {l1 l2 : Nat} {e1 e2 : TypeId} {n1 n2 : Nat} {v u : Value} {xs ys : List Value} (h : w.ownsRow l1 e1 1 v n1 xs) (h' : w.ownsRow l2 e2 1 u n2 ys) (he : e1 ≠ e2) : ∀ g, v.ownBlock = some g → u.ownBlock ≠ some g := by
  intro g hv hu
  have h1 : ∃ cur, w.heap[g]? = some (.cells cur e1 (0, 0)) := by
    rcases h.2 with ⟨e', _⟩ | ⟨g', c', cur, e', _, hg', _⟩
    · rw [e'] at hv; simp [Value.ownBlock] at hv
    · rw [e'] at hv; simp [Value.ownBlock] at hv; subst hv; exact ⟨cur, hg'⟩
  have h2 : ∃ cur, w.heap[g]? = some (.cells cur e2 (0, 0)) := by
    rcases h'.2 with ⟨e', _⟩ | ⟨g', c', cur, e', _, hg', _⟩
    · rw [e'] at hu; simp [Value.ownBlock] at hu
    · rw [e'] at hu; simp [Value.ownBlock] at hu; subst hu; exact ⟨cur, hg'⟩
  obtain ⟨c1, h1⟩ := h1
  obtain ⟨c2, h2⟩ := h2
  rw [h1] at h2
  simp at h2
  exact he h2.2

theorem pool_nil (w : World) (lo hi : Nat) : PoolZ w lo hi [] := ⟨by simp, List.Pairwise.nil⟩
theorem PoolZ.mono {w : World} {lo hi lo' hi' : Nat} {Z : List (Value × List Int)} (h : PoolZ w lo hi Z) (h1 : lo' ≤ lo) (h2 : hi ≤ hi') : PoolZ w lo' hi' Z := ⟨fun z hz => (h.1 z hz).mono h1 h2, h.2⟩
theorem PoolZ.keep {w w' : World} {lo hi : Nat} {Z : List (Value × List Int)} (h : PoolZ w lo hi Z) (hb : Below w.heap.size w w') : PoolZ w' lo hi Z := ⟨fun z hz => (h.1 z hz).keep hb, h.2⟩
theorem PoolZ.same {w w' : World} {lo hi : Nat} {Z : List (Value × List Int)} (h : PoolZ w lo hi Z) (hb : ∀ z ∈ Z, ∀ g, z.1.ownBlock = some g → w'.heap[g]? = w.heap[g]?) : PoolZ w' lo hi Z :=
  ⟨fun z hz => ⟨own_same (h.1 z hz).1 (hb z hz), (h.1 z hz).2⟩, h.2⟩
theorem PoolZ.sub {w : World} {lo hi : Nat} {Z Y : List (Value × List Int)} (h : PoolZ w lo hi Z) (hs : Y.Sublist Z) : PoolZ w lo hi Y := ⟨fun z hz => h.1 z (hs.subset hz), h.2.sublist hs⟩
theorem PoolZ.append {w : World} {lo mid hi : Nat} {Z Y : List (Value × List Int)} (h : PoolZ w lo mid Z) (k : PoolZ w mid hi Y) (h1 : lo ≤ mid) (h2 : mid ≤ hi) : PoolZ w lo hi (Z ++ Y) := by
  refine ⟨fun z hz => ?_, ?_⟩
  · rcases List.mem_append.1 hz with e | e
    · exact (h.1 z e).mono (Nat.le_refl _) h2
    · exact (k.1 z e).mono h1 (Nat.le_refl _)
  · rw [List.pairwise_append]
    refine ⟨h.2, k.2, fun a ha b hb g hg hg' => ?_⟩
    have := (h.1 a ha).2 g hg
    have := ((k.1 b hb).1.lt g hg').1
    omega
theorem PoolZ.grown {w w' : World} {lo hi lo' n : Nat} {v : Value} {ys : List Value} {Z : List (Value × List Int)} (h : PoolZ w lo hi Z) (hv : w.ownsRow lo' 27 1 v n ys) (hg : w.grownBy w' v.ownBlock) : PoolZ w' lo hi Z :=
  h.same fun z hz g hgz => hg.block g ((h.1 z hz).1.lt g hgz).2 (fun e => own_ne (h.1 z hz).1 hv (by decide) g hgz e.symm)
theorem fints_grown {w w' : World} {lo hi lo' n : Nat} {v u : Value} {xs : List Int} {ys : List Value} (h : FInts w lo hi u xs) (hv : w.ownsRow lo' 27 1 v n ys) (hg : w.grownBy w' v.ownBlock) : FInts w' lo hi u xs :=
  ⟨own_same h.1 (fun g hgz => hg.block g (h.1.lt g hgz).2 (fun e => own_ne h.1 hv (by decide) g hgz e.symm)), h.2⟩

theorem OMat.form {w : World} {lo : Nat} {v : Value} {Z : List (Value × List Int)} (h : OMat w lo v Z) : ∃ a cap, v = .slice a Z.length cap := by
  obtain ⟨a, cap, rfl, _⟩ := own_form h; exact ⟨a, cap, rfl⟩
theorem OMat.form3 {w : World} {lo : Nat} {v : Value} {Z : List (Value × List Int)} (h : OMat w lo v Z) : ∃ a n cap, v = .slice a n cap ∧ n = Z.length := by
  obtain ⟨a, cap, rfl⟩ := h.form; exact ⟨a, _, cap, rfl, rfl⟩
theorem OMat.keep {w w' : World} {lo : Nat} {v : Value} {Z : List (Value × List Int)} (h : OMat w lo v Z) (hb : Below w.heap.size w w') : OMat w' lo v Z := own_same h (fun g hg => hb.block g (h.lt g hg).2)
theorem omat_nil (w : World) (lo : Nat) : OMat w lo (.slice none 0 0) [] := World.ownsRow_nil _ _ _ _
theorem omat_empty (w : World) (lo : Nat) (h : lo ≤ w.heap.size) : OMat (w.alloc (.cells #[] 27)) lo (.slice (some ⟨w.heap.size, 0, none⟩) 0 0) [] := World.ownsRow_made w #[] 0 h (by unfold maxLen; omega) rfl

/-- the matrix that it is -/
theorem OMat.f {w : World} {lo hi : Nat} {v : Value} {Z : List (Value × List Int)} (h : OMat w lo v Z) (hb : ∀ g, v.ownBlock = some g → g < hi) (hp : PoolZ w lo hi Z) : FMat w lo hi v (Z.map Prod.snd) := by
  have hg1 : ∀ i (hi : i < Z.length), (Z.map Prod.fst).getD i .nilFunc = Z[i].1 := fun i hi => by simp [List.getD, hi]
  have hg2 : ∀ i (hi : i < Z.length), (Z.map Prod.snd).getD i [] = Z[i].2 := fun i hi => by simp [List.getD, hi]
  refine ⟨Z.map Prod.fst, by rw [List.length_map]; exact h, hb, by simp, fun i hi => ?_, fun i j hij hj g hg => ?_⟩
  · rw [List.length_map] at hi
    rw [hg1 i hi, hg2 i hi]
    exact hp.1 _ (List.getElem_mem hi)
  · rw [List.length_map] at hj
    rw [hg1 i (by omega)] at hg
    rw [hg1 j hj]
    exact List.pairwise_iff_getElem.1 hp.2 i j (by omega) hj hij g hg
theorem FMat.toZ {w : World} {lo hi : Nat} {v : Value} {M : List (List Int)} (h : FMat w lo hi v M) : ∃ Z : List (Value × List Int), Z.map Prod.snd = M ∧ OMat w lo v Z ∧ PoolZ w lo hi Z ∧ ∀ g, v.ownBlock = some g → g < hi := by
  obtain ⟨vs, h0, hb, hl, hr, hd⟩ := h
  have h1 : (vs.zip M).map Prod.fst = vs := List.map_fst_zip (by omega)
  have h2 : (vs.zip M).map Prod.snd = M := List.map_snd_zip (by omega)
  have h3 : (vs.zip M).length = M.length := by simp [hl]
  have hat : ∀ i (hi : i < (vs.zip M).length), (vs.zip M)[i].1 = vs.getD i .nilFunc ∧ (vs.zip M)[i].2 = M.getD i [] := fun i hi => by
    have : i < M.length := by omega
    have : i < vs.length := by omega
    simp [List.getD, *]
  refine ⟨vs.zip M, h2, by rw [OMat, h1, h3]; exact h0, ⟨fun z hz => ?_, List.pairwise_iff_getElem.2 fun i j hi hj hij g hg => ?_⟩, hb⟩
  · obtain ⟨i, hi, rfl⟩ := List.getElem_of_mem hz
    rw [(hat i hi).1, (hat i hi).2]
    exact hr i (by omega)
  · rw [(hat i hi).1] at hg
    rw [(hat j hj).1]
    exact hd i j hij (by omega) g hg
theorem PoolZ.one {w : World} {lo hi : Nat} {Z : List (Value × List Int)} (h : PoolZ w lo hi Z) : ∀ z ∈ Z, z.1.oneCell' = true := fun z hz => by
  obtain ⟨a, cap, e⟩ := (h.1 z hz).form
  rw [e]; rfl

theorem run_append_vals {w : World} {lo : Nat} {v : Value} {Z Y : List (Value × List Int)} (ty : TypeId) {ad : Option Addr} {c : Nat} (h : OMat w lo v Z) (hn : ad = none → Y = [])
    (hc : ∀ (a : Addr) (j : Nat) (z : Value × List Int), ad = some a → Y[j]? = some z → w.cell? (a.add j) = some z.1) (h1 : ∀ z ∈ Y, z.1.oneCell' = true) (hlen : Z.length + Y.length ≤ 1099511627776) (hlo : lo ≤ w.heap.size) :
    ∃ v' w', (Builtin.append_ #[23, 23] ty #[v, .slice ad Y.length c]).run Tryz.prog w = .ok v' w' ∧ OMat w' lo v' (Z ++ Y) ∧ w.grownBy w' v.ownBlock ∧ (v'.ownBlock = v.ownBlock ∨ v'.ownBlock = some w.heap.size) := by
  obtain ⟨i0, hi0, hz0, hz1, hz2⟩ := info_parts Tryz.infoInts
  cases ad with
  | none =>
    have hy := hn rfl
    subst hy
    refine ⟨v, w, ?_, by simpa using h, grown_refl _ _, .inl rfl⟩
    rcases h.2 with ⟨rfl, hn⟩ | ⟨g, cap', cur, rfl, _, _, hnc, _⟩
    · simp [Builtin.append_, run_underlying Tryz.underlying23, sizeOf, typeInfo, hi0, Builtin.lenOf, Builtin.firstCells]
    · simp [Builtin.append_, run_underlying Tryz.underlying23, sizeOf, typeInfo, hi0, Builtin.lenOf, Builtin.firstCells, hnc, storeCells]
  | some ad =>
    have hnews : ∀ j x, (Y.map Prod.fst)[j]? = some x → w.cell? (ad.add j) = some x := by
      intro j x hx
      rw [List.getElem?_map] at hx
      cases hy : Y[j]? with
      | none => rw [hy] at hx; cases hx
      | some z => rw [hy] at hx; cases hx; exact hc ad j z rfl hy
    obtain ⟨v', w', hr, hown, hg, _, hat⟩ := run_append_own_at (P := Tryz.prog) w lo 23 ty 27 i0 (.slice none 0 0) 1 24 Tryz.underlying23 hi0 hz0 hz1 hz2 rfl (by decide) v Z.length (Z.map Prod.fst) h
      ad Y.length c (Y.map Prod.fst) (by simp) hnews (fun x hx => by obtain ⟨y, hy, rfl⟩ := List.mem_map.1 hx; exact h1 y hy) (by unfold maxLen; omega) (by omega) hlo
    refine ⟨v', w', hr, ?_, hg, hat⟩
    rw [OMat, List.length_append, List.map_append]; exact hown

theorem wpList_append_vals {w : World} {ops : Array Oper} {rest : List Oper} {o : Oper} {a : Act} {Q : Exit → Act → World → Prop} (hgd : o.guard = none) (s x : Operand)
    (ho : o.op = .call { callee := .builtin .append, args := #[s, x], argTypes := #[23, 23] }) (lo : Nat) (v : Value) (Z Y : List (Value × List Int)) (ad : Option Addr) (c : Nat) (hs : a.eval s = v) (hx : a.eval x = .slice ad Y.length c)
    (hF : OMat w lo v Z) (hn : ad = none → Y = []) (hc : ∀ (a : Addr) (j : Nat) (z : Value × List Int), ad = some a → Y[j]? = some z → w.cell? (a.add j) = some z.1) (h1 : ∀ z ∈ Y, z.1.oneCell' = true) (hlen : Z.length + Y.length ≤ 1099511627776) (hls : lo ≤ w.heap.size)
    (h : ∀ v' w', OMat w' lo v' (Z ++ Y) → w.grownBy w' v.ownBlock → (v'.ownBlock = v.ownBlock ∨ v'.ownBlock = some w.heap.size) → wpList Tryz.prog ops Q rest (a.put o.dst v') w') : wpList Tryz.prog ops Q (o :: rest) a w := by
  refine wpList_plain hgd fun K hK => ?_
  obtain ⟨v', w', hr', h2, h3, h4⟩ := run_append_vals (c := c) o.type hF hn hc h1 hlen hls
  unfold Oper.wp execOp
  simp only [ho, resolve, invoke, builtin, Sem.run_bind, Sem.run_pure, Result.andThen_ok, List.map_toArray, List.map_cons, List.map_nil, hs, hx, hr']
  exact hK _ _ (h v' w' h2 h3 h4)

/-- the cells of such a slice -/
theorem OMat.cellsAt {w : World} {lo : Nat} {ad : Option Addr} {n c : Nat} {Z : List (Value × List Int)} (h : OMat w lo (.slice ad n c) Z) :
    (ad = none → Z = []) ∧ ∀ (a : Addr) (j : Nat) (z : Value × List Int), ad = some a → Z[j]? = some z → w.cell? (a.add j) = some z.1 := by
  obtain ⟨a', cap, hv, h1, h2, h3, h4, h5⟩ := own_form h
  simp only [Value.slice.injEq] at hv
  obtain ⟨rfl, _, _⟩ := hv
  refine ⟨fun e => List.length_eq_zero_iff.1 (h4 e), fun a j z e hz => ?_⟩
  have hj : j < Z.length := (List.getElem?_eq_some_iff.1 hz).1
  obtain ⟨g, e2, _, _, hc, _⟩ := h5 j hj
  rw [e] at e2
  cases e2
  rw [addr_add, Nat.zero_add, hc, List.getElem?_map, hz]; rfl

end Go.Proofs.YtnkbfgnmodfemaaGreatDoor
