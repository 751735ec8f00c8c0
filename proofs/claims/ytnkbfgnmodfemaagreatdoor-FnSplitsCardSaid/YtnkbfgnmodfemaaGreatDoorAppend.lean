/- append onto slices of the call's own. -/
import Derived.Test.YtnkbfgnmodfemaaGreatDoorMark
namespace Go.Proofs.YtnkbfgnmodfemaaGreatDoor
open Go.RowKit
open Go.Lib (hid)

theorem addr_add (g o j : Nat) : (⟨g, o, none⟩ : Addr).add j = ⟨g, o + j, none⟩ := by unfold Addr.add; split <;> simp_all

theorem ints_nil (w : World) (lo hi : Nat) : FInts w lo hi (.slice none 0 0) [] := ⟨World.ownsRow_nil _ _ _ _, fun g hg => by simp [Value.ownBlock] at hg⟩
theorem mat_nil (w : World) (lo hi : Nat) : FMat w lo hi (.slice none 0 0) [] :=
  ⟨[], World.ownsRow_nil _ _ _ _, fun g hg => by simp [Value.ownBlock] at hg, rfl, fun i hi => by simp at hi, fun i j _ hj => by simp at hj⟩

/-- a new slice without elements -/
theorem ints_empty (w : World) (lo : Nat) (h : lo ≤ w.heap.size) : FInts (w.alloc (.cells #[] 3)) lo (w.heap.size + 1) (.slice (some ⟨w.heap.size, 0, none⟩) 0 0) [] :=
  ⟨World.ownsRow_made w #[] 0 h (by unfold maxLen; omega) rfl, fun g hg => by simp [Value.ownBlock] at hg; omega⟩
theorem mat_empty (w : World) (lo : Nat) (h : lo ≤ w.heap.size) : FMat (w.alloc (.cells #[] 27)) lo (w.heap.size + 1) (.slice (some ⟨w.heap.size, 0, none⟩) 0 0) [] :=
  ⟨[], World.ownsRow_made w #[] 0 h (by unfold maxLen; omega) rfl, fun g hg => by simp [Value.ownBlock] at hg; omega, rfl, fun i hi => by simp at hi, fun i j _ hj => by simp at hj⟩

/-- a new slice of literal numbers, as the call's own -/
theorem ints_lit (w : World) (lo : Nat) (h : lo ≤ w.heap.size) (xs : List Int) (hx : xs.length ≤ 1048576) :
    FInts (w.alloc (.cells (xs.map (Value.int .i64)).toArray 3)) lo (w.heap.size + 1) (.slice (some ⟨w.heap.size, 0, none⟩) xs.length xs.length) xs := by
  have := World.ownsRow_lit (base := lo) (e := 3) (size := 1) w (xs.map (Value.int .i64)).toArray xs.length h (by unfold maxLen; omega) (by simp)
  exact ⟨by simpa using this, fun g hg => by simp [Value.ownBlock] at hg; omega⟩

theorem run_append_ints {w : World} {lo hi : Nat} {v u : Value} {xs ys : List Int} (ty : TypeId) (h : FInts w lo hi v xs) (h' : RInts w u ys) (hlen : xs.length + ys.length ≤ 1099511627776) (hlo : lo ≤ w.heap.size) :
    ∃ v' w', (Builtin.append_ #[27, 27] ty #[v, u]).run Tryz.prog w = .ok v' w' ∧ FInts w' lo w'.heap.size v' (xs ++ ys) ∧ w.grownBy w' v.ownBlock ∧ (v' = .slice none 0 0 ↔ v = .slice none 0 0 ∧ ys = []) := by
  obtain ⟨a, cap, rfl, h1, h2, hc⟩ := h'
  obtain ⟨i0, hi0, hz0, hz1, hz2⟩ := info_parts Tryz.infoInt
  cases a with
  | none =>
    have hy : ys = [] := by
      cases ys with
      | nil => rfl
      | cons y ys => obtain ⟨g, o, he, _⟩ := hc 0 (by simp); cases he
    subst hy
    refine ⟨v, w, ?_, ⟨by simpa using h.1, fun g hg => (h.1.lt g hg).2⟩, grown_refl _ _, by simp⟩
    rcases h.1.2 with ⟨rfl, hn⟩ | ⟨g, cap', cur, rfl, _, _, hnc, _⟩
    · simp [Builtin.append_, run_underlying Tryz.underlying27, sizeOf, typeInfo, hi0, Builtin.lenOf, Builtin.firstCells]
    · simp [Builtin.append_, run_underlying Tryz.underlying27, sizeOf, typeInfo, hi0, Builtin.lenOf, Builtin.firstCells, hnc, storeCells]
  | some ad =>
    have hnews : ∀ j x, (ys.map (Value.int .i64))[j]? = some x → w.cell? (ad.add j) = some x := by
      intro j x hx
      rw [List.getElem?_map] at hx
      have hj : j < ys.length := by
        by_cases hj : j < ys.length
        · exact hj
        · rw [List.getElem?_eq_none (by omega)] at hx; cases hx
      obtain ⟨g, o, he, hcell⟩ := hc j hj
      cases he
      rw [addr_add, hcell]
      rw [List.getElem?_eq_getElem hj] at hx
      rw [← hx]
      simp [List.getD, List.getElem?_eq_getElem hj]
    obtain ⟨v', w', hr, hown, hg, hn⟩ := run_append_own (P := Tryz.prog) w lo 27 ty 3 i0 (.int .i64 0) 1 8 Tryz.underlying27 hi0 hz0 hz1 hz2 rfl (by decide) v xs.length (xs.map (.int .i64)) h.1
      ad ys.length cap (ys.map (.int .i64)) (by simp) hnews (fun x hx => by obtain ⟨y, _, rfl⟩ := List.mem_map.1 hx; rfl) (by unfold maxLen; omega) (by omega) hlo
    refine ⟨v', w', hr, ⟨?_, fun g hg => (hown.lt g hg).2⟩, hg, ?_⟩
    · rw [List.length_append, List.map_append]; exact hown
    · rw [hn, List.length_eq_zero_iff]

theorem wpList_append_ints {w : World} {ops : Array Oper} {rest : List Oper} {o : Oper} {a : Act} {Q : Exit → Act → World → Prop} (hgd : o.guard = none) (s x : Operand)
    (ho : o.op = .call { callee := .builtin .append, args := #[s, x], argTypes := #[27, 27] }) (lo hi : Nat) (v u : Value) (xs ys : List Int) (hs : a.eval s = v) (hx : a.eval x = u)
    (hF : FInts w lo hi v xs) (hR : RInts w u ys) (hlen : xs.length + ys.length ≤ 1099511627776) (hlo : lo ≤ w.heap.size)
    (h : ∀ v' w', FInts w' lo w'.heap.size v' (xs ++ ys) → w.grownBy w' v.ownBlock → (v' = .slice none 0 0 ↔ v = .slice none 0 0 ∧ ys = []) → wpList Tryz.prog ops Q rest (a.put o.dst v') w') : wpList Tryz.prog ops Q (o :: rest) a w := by
  refine wpList_plain hgd fun K hK => ?_
  obtain ⟨v', w', hr, h2, h3, h4⟩ := run_append_ints o.type hF hR hlen hlo
  unfold Oper.wp execOp
  simp only [ho, resolve, invoke, builtin, Sem.run_bind, Sem.run_pure, Result.andThen_ok, List.map_toArray, List.map_cons, List.map_nil, hs, hx, hr]
  exact hK _ _ (h v' w' h2 h3 h4)

/-- .. inside a region that draws its order -/
theorem step_append_ints {w : World} {ops : Array Oper} {o : Oper} {a : Act} {K : Act → World → Prop} {Q : Exit → Act → World → Prop} {E : Prop} (hgd : o.guard = none) (s x : Operand)
    (ho : o.op = .call { callee := .builtin .append, args := #[s, x], argTypes := #[27, 27] }) (lo hi : Nat) (v u : Value) (xs ys : List Int) (hs : a.eval s = v) (hx : a.eval x = u)
    (hF : FInts w lo hi v xs) (hR : RInts w u ys) (hlen : xs.length + ys.length ≤ 1099511627776) (hlo : lo ≤ w.heap.size)
    (h : ∀ v' w', FInts w' lo w'.heap.size v' (xs ++ ys) → w.grownBy w' v.ownBlock → (v' = .slice none 0 0 ↔ v = .slice none 0 0 ∧ ys = []) → K (a.put o.dst v') w') :
    if Region.wanted o (yielded ops a.tmps) = true then Oper.wp Tryz.prog o a w K Q else E := by
  have hw : Region.wanted o (yielded ops a.tmps) = true := by simp [Region.wanted, hgd]
  rw [if_pos hw]
  obtain ⟨v', w', hr, h2, h3, h4⟩ := run_append_ints o.type hF hR hlen hlo
  unfold Oper.wp execOp
  simp only [ho, resolve, invoke, builtin, Sem.run_bind, Sem.run_pure, Result.andThen_ok, List.map_toArray, List.map_cons, List.map_nil, hs, hx, hr]
  exact h v' w' h2 h3 h4

theorem rints_take {w : World} {a : Option Addr} {n cap i : Nat} {xs : List Int} (h : RInts w (.slice a n cap) xs) (hi : i ≤ n) : RInts w (.slice a i cap) (xs.take i) := by
  obtain ⟨a', cap', hv, h1, h2, hc⟩ := h
  simp only [Value.slice.injEq] at hv
  obtain ⟨rfl, rfl, rfl⟩ := hv
  have hl : (xs.take i).length = i := by rw [List.length_take]; omega
  refine ⟨a, cap, by rw [hl], by omega, h2, fun j hj => ?_⟩
  rw [hl] at hj
  obtain ⟨g, o, ha, hcell⟩ := hc j (by omega)
  refine ⟨g, o, ha, ?_⟩
  rw [hcell]; simp [List.getD, hj]
theorem rints_drop {w : World} {g o n cap i : Nat} {xs : List Int} (h : RInts w (.slice (some ⟨g, o, none⟩) n cap) xs) (hi : i ≤ n) : RInts w (.slice (some ⟨g, o + i, none⟩) (n - i) (cap - i)) (xs.drop i) := by
  obtain ⟨a', cap', hv, h1, h2, hc⟩ := h
  simp only [Value.slice.injEq] at hv
  obtain ⟨rfl, rfl, rfl⟩ := hv
  have hl : (xs.drop i).length = xs.length - i := List.length_drop
  refine ⟨_, _, by rw [hl], by omega, by omega, fun j hj => ?_⟩
  rw [hl] at hj
  obtain ⟨g', o', he, hcell⟩ := hc (i + j) (by omega)
  simp only [Option.some.injEq, Addr.mk.injEq, and_true] at he
  obtain ⟨rfl, rfl⟩ := he
  refine ⟨g, o + i, rfl, ?_⟩
  rw [show o + i + j = o + (i + j) by omega, hcell]; simp [List.getD]
theorem rints_none {w : World} {a : Option Addr} {cap : Nat} (h : cap ≤ maxLen) : RInts w (.slice a 0 cap) [] := ⟨a, cap, rfl, Nat.zero_le _, h, fun i hi => by simp at hi⟩

/-- one row more; the row lies apart from the rows that are there -/
theorem run_append_row {w : World} {lo hi lr hr : Nat} {v r : Value} {M : List (List Int)} {y : List Int} (ty : TypeId) {ad : Addr} {c : Nat} (h : FMat w lo hi v M) (hrow : FInts w lr hr r y) (hlr : hi ≤ lr) (hlo : lo ≤ lr) (hcell : w.cell? ad = some r)
    (hlen : M.length ≤ 1099511627776) (hls : lo ≤ w.heap.size) :
    ∃ v' w', (Builtin.append_ #[23, 23] ty #[v, .slice (some ad) 1 c]).run Tryz.prog w = .ok v' w' ∧ FMat w' lo w'.heap.size v' (M ++ [y]) ∧ w.grownBy w' v.ownBlock ∧ v' ≠ .slice none 0 0 := by
  obtain ⟨vs, h0, hb, hl, hrs, hd⟩ := h
  obtain ⟨i0, hi0, hz0, hz1, hz2⟩ := info_parts Tryz.infoInts
  have hone : r.oneCell' = true := by obtain ⟨a, cap, rfl⟩ := hrow.form; rfl
  obtain ⟨v', w', hrun, hown, hg, hn⟩ := run_append_own (P := Tryz.prog) w lo 23 ty 27 i0 (.slice none 0 0) 1 24 Tryz.underlying23 hi0 hz0 hz1 hz2 rfl (by decide) v M.length vs h0
    ad 1 c [r] (by simp) (fun j x hx => by
      cases j with
      | zero =>
        simp at hx; subst hx
        have : ad.add 0 = ad := by unfold Addr.add; simp
        rw [this]; exact hcell
      | succ j => simp at hx) (fun x hx => by simp at hx; subst hx; exact hone) (by unfold maxLen; omega) (by omega) hls
  have hne : ∀ b, (∃ i, i < M.length ∧ (vs.getD i .nilFunc).ownBlock = some b) ∨ r.ownBlock = some b → some b ≠ v.ownBlock := by
    intro b hb' e
    have hbv := e.symm
    have hT : ∃ cur, w.heap[b]? = some (.cells cur 27 (0, 0)) := by
      rcases h0.2 with ⟨e', _⟩ | ⟨g, c', cur, e', _, hg', _⟩
      · rw [e'] at hbv; simp [Value.ownBlock] at hbv
      · rw [e'] at hbv; simp [Value.ownBlock] at hbv; subst hbv; exact ⟨cur, hg'⟩
    have hI : ∃ cur, w.heap[b]? = some (.cells cur 3 (0, 0)) := by
      have key : ∀ (q : Value) (z : List Int) (l1 l2 : Nat), FInts w l1 l2 q z → q.ownBlock = some b → ∃ cur, w.heap[b]? = some (.cells cur 3 (0, 0)) := by
        intro q z l1 l2 hq hqb
        rcases hq.1.2 with ⟨e', _⟩ | ⟨g, c', cur, e', _, hg', _⟩
        · rw [e'] at hqb; simp [Value.ownBlock] at hqb
        · rw [e'] at hqb; simp [Value.ownBlock] at hqb; subst hqb; exact ⟨cur, hg'⟩
      rcases hb' with ⟨i, hi, hib⟩ | hrb
      · exact key _ _ _ _ (hrs i hi) hib
      · exact key _ _ _ _ hrow hrb
    obtain ⟨c1, h1⟩ := hT
    obtain ⟨c2, h2⟩ := hI
    rw [h1] at h2; simp at h2
  have hsz := hg.size
  have old : ∀ i, i < M.length → (vs ++ [r]).getD i .nilFunc = vs.getD i .nilFunc := fun i hi => by simp [List.getD, List.getElem?_append_left (show i < vs.length by omega)]
  have new : (vs ++ [r]).getD M.length .nilFunc = r := by simp [List.getD, ← hl]
  refine ⟨v', w', hrun, ⟨vs ++ [r], by rw [List.length_append]; exact hown, fun g hg' => (hown.lt g hg').2, by simp [hl], fun i hi => ?_, fun i j hij hj g hgi => ?_⟩, hg, fun e => by have := hn.1 e; simp at this⟩
  · simp only [List.length_append, List.length_cons, List.length_nil] at hi
    by_cases e : i < M.length
    · rw [old i e]
      have : (M ++ [y]).getD i [] = M.getD i [] := by simp [List.getD, List.getElem?_append_left e]
      rw [this]
      have hi' := hrs i e
      refine ⟨own_same hi'.1 (fun b hb' => hg.block b (hi'.1.lt b hb').2 (hne b (.inl ⟨i, e, hb'⟩))), fun b hb' => Nat.lt_of_lt_of_le (hi'.1.lt b hb').2 hsz⟩
    · obtain rfl : i = M.length := by omega
      rw [new]
      have : (M ++ [y]).getD M.length [] = y := by simp [List.getD]
      rw [this]
      exact ⟨own_mono (own_same hrow.1 (fun b hb' => hg.block b (hrow.1.lt b hb').2 (hne b (.inr hb')))) hlo, fun b hb' => Nat.lt_of_lt_of_le (hrow.1.lt b hb').2 hsz⟩
  · simp only [List.length_append, List.length_cons, List.length_nil] at hj
    rw [old i (by omega)] at hgi
    by_cases e : j < M.length
    · rw [old j e]; exact hd i j hij e g hgi
    · obtain rfl : j = M.length := by omega
      rw [new]
      intro hrb
      have h1 := (hrs i (by omega)).2 g hgi
      have h2 := (hrow.1.lt g hrb).1
      omega

theorem wpList_append_row {w : World} {ops : Array Oper} {rest : List Oper} {o : Oper} {a : Act} {Q : Exit → Act → World → Prop} (hgd : o.guard = none) (s x : Operand)
    (ho : o.op = .call { callee := .builtin .append, args := #[s, x], argTypes := #[23, 23] }) (lo hi lr hr : Nat) (v r : Value) (ad : Addr) (c : Nat) (M : List (List Int)) (y : List Int) (hs : a.eval s = v) (hx : a.eval x = .slice (some ad) 1 c)
    (hF : FMat w lo hi v M) (hrow : FInts w lr hr r y) (hcell : w.cell? ad = some r) (hlr : hi ≤ lr) (hlo : lo ≤ lr) (hlen : M.length ≤ 1099511627776) (hls : lo ≤ w.heap.size)
    (h : ∀ v' w', FMat w' lo w'.heap.size v' (M ++ [y]) → w.grownBy w' v.ownBlock → v' ≠ .slice none 0 0 → wpList Tryz.prog ops Q rest (a.put o.dst v') w') : wpList Tryz.prog ops Q (o :: rest) a w := by
  refine wpList_plain hgd fun K hK => ?_
  obtain ⟨v', w', hr', h2, h3, h4⟩ := run_append_row (c := c) o.type hF hrow hlr hlo hcell hlen hls
  unfold Oper.wp execOp
  simp only [ho, resolve, invoke, builtin, Sem.run_bind, Sem.run_pure, Result.andThen_ok, List.map_toArray, List.map_cons, List.map_nil, hs, hx, hr']
  exact hK _ _ (h v' w' h2 h3 h4)

/-- behind an append onto v: what lies from B on, v's block too -/
theorem below_grown {B : Nat} {a w w' : World} {v : Value} (h : Below B a w) (hg : w.grownBy w' v.ownBlock) (hB : B ≤ w.heap.size) (hv : ∀ k, v.ownBlock = some k → B ≤ k) : Below B a w' := h.grown hg hB hv

/-- one number appended: ahead of it, and behind it -/
theorem push_pre {w : World} {lo hi : Nat} {v : Value} {xs : List Int} (h : FInts w lo hi v xs) (x : Int) :
    FInts (w.alloc (.cells #[.int .i64 x] 3)) lo hi v xs ∧ RInts (w.alloc (.cells #[.int .i64 x] 3)) (.slice (some ⟨w.heap.size, 0, none⟩) 1 1) [x] ∧ w.heap.size ≤ (w.alloc (.cells #[.int .i64 x] 3)).heap.size :=
  ⟨h.keep ((Below.refl _ _).alloc (Nat.le_refl _) _), rints_new w [x] (by simp), by simp⟩
theorem push_post {w w' : World} {lo hi : Nat} {v : Value} {xs : List Int} {o : Obj} (h : FInts w lo hi v xs) (hg : (w.alloc o).grownBy w' v.ownBlock) : Touch lo w.heap.size w w' :=
  (Touch.of_below ((Below.refl _ _).alloc (Nat.le_refl _) _)).trans (Touch.of_grown hg (fun k hk => ⟨(h.1.lt k hk).1, (h.1.lt k hk).2⟩))
theorem push_row_post {w w' : World} {lo hi : Nat} {v : Value} {M : List (List Int)} {o : Obj} (h : FMat w lo hi v M) (hg : (w.alloc o).grownBy w' v.ownBlock) : Touch lo hi w w' := by
  obtain ⟨vs, h0, hb, _⟩ := h
  exact (Touch.of_below ((Below.refl _ _).alloc (Nat.le_refl _) _)).trans (Touch.of_grown hg (fun k hk => ⟨(h0.lt k hk).1, hb k hk⟩))

/-- a list of numbers that are no less than 0, as Go's ints -/
def castL (l : List Nat) : List Int := l.map fun (x : Nat) => (x : Int)
theorem castL_len (l : List Nat) : (castL l).length = l.length := by simp [castL]
theorem nats_at {w : World} {a : Option Addr} {l : List Nat} (hc : ∀ i, i < (castL l).length → ∃ g o, a = some ⟨g, o, none⟩ ∧ w.cell? ⟨g, o + i, none⟩ = some (.int .i64 ((castL l).getD i 0))) {k : Nat} (hk : k < l.length) :
    ∃ g o, ∃ x : Nat, a = some ⟨g, o, none⟩ ∧ w.cell? ⟨g, o + k, none⟩ = some (.int .i64 (x : Int)) ∧ Hid (l.drop k = x :: l.drop (k + 1)) ∧ Hid (l.getD k 0 = x) := by
  obtain ⟨g, o, h1, h2⟩ := hc k (by rw [castL_len]; exact hk)
  refine ⟨g, o, l.getD k 0, h1, ?_, drop_cons l 0 k hk, rfl⟩
  rw [h2]; simp [castL, List.getD, hk]
theorem take_succ_getDN (l : List Nat) (i : Nat) (h : i < l.length) : l.take (i + 1) = l.take i ++ [l.getD i 0] := by
  rw [List.take_succ_eq_append_getElem h]; simp [List.getD, List.getElem?_eq_getElem h]

end Go.Proofs.YtnkbfgnmodfemaaGreatDoor
