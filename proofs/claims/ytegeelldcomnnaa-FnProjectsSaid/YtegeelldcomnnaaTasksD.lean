/- Drawn tasks. -/
import Derived.Test.YtegeelldcomnnaaDrawL
import Derived.Test.YtegeelldcomnnaaDelay
import Derived.Deep.CutRange
import Derived.Deep.RegionLaw
namespace Go.Proofs.Ytegeelldcomnnaa
open Go.RowKit
open Go.Lib (hid)

/-- v is a slice of tasks in a block of its own from lo on and below hi; so are the lists of its tasks, each in a block of its own -/
def DTasks (w : World) (lo hi : Nat) (v : Value) (L : List Tsk) : Prop :=
  ∃ rs : List Value, rs.length = L.length ∧ w.ownsRow lo 67 2 v L.length (flatT rs L) ∧ (∀ g, v.ownBlock = some g → g < hi) ∧
    (∀ i, i < L.length → FInts w lo hi (rs.getD i .nilFunc) (L.getD i noTsk).needs) ∧
    ∀ i j, i < j → j < L.length → ∀ g, (rs.getD i .nilFunc).ownBlock = some g → (rs.getD j .nilFunc).ownBlock ≠ some g
theorem own_sameS {w w' : World} {lo st n : Nat} {T : TypeId} {v : Value} {xs : List Value} (h : w.ownsRow lo T st v n xs) (hs : ∀ g, v.ownBlock = some g → w'.heap[g]? = w.heap[g]?) : w'.ownsRow lo T st v n xs := by
  refine ⟨h.1, ?_⟩
  rcases h.2 with hn | ⟨g, cap, cur, rfl, hb1, hg, rest⟩
  · exact .inl hn
  · exact .inr ⟨g, cap, cur, rfl, hb1, by rw [hs g rfl]; exact hg, rest⟩
theorem own_monoS {w : World} {lo lo' st n : Nat} {T : TypeId} {v : Value} {xs : List Value} (h : w.ownsRow lo T st v n xs) (hl : lo' ≤ lo) : w.ownsRow lo' T st v n xs := by
  refine ⟨h.1, ?_⟩
  rcases h.2 with hn | ⟨g, cap, cur, rfl, hb1, rest⟩
  · exact .inl hn
  · exact .inr ⟨g, cap, cur, rfl, Nat.le_trans hl hb1, rest⟩
theorem dtasks_nil (w : World) (lo hi : Nat) : DTasks w lo hi (.slice none 0 0) [] :=
  ⟨[], rfl, World.ownsRow_nil _ _ _ _, fun g hg => by simp [Value.ownBlock] at hg, fun i hi => by simp at hi, fun i j _ hj => by simp at hj⟩
theorem DTasks.same {w w' : World} {lo hi : Nat} {v : Value} {L : List Tsk} (h : DTasks w lo hi v L) (hs : Same lo hi w w') : DTasks w' lo hi v L := by
  obtain ⟨rs, h0, h1, h2, h3, h4⟩ := h
  exact ⟨rs, h0, own_sameS h1 (fun g hg => hs g (h1.lt g hg).1 (h2 g hg) (h1.lt g hg).2), h2, fun i hi => (h3 i hi).same hs, h4⟩
theorem DTasks.mono {w : World} {lo hi lo' hi' : Nat} {v : Value} {L : List Tsk} (h : DTasks w lo hi v L) (h1 : lo' ≤ lo) (h2 : hi ≤ hi') : DTasks w lo' hi' v L := by
  obtain ⟨rs, h0, h3, h4, h5, h6⟩ := h
  exact ⟨rs, h0, own_monoS h3 h1, fun g hg => Nat.lt_of_lt_of_le (h4 g hg) h2, fun i hi => (h5 i hi).mono h1 h2, h6⟩
theorem DTasks.form {w : World} {lo hi : Nat} {v : Value} {L : List Tsk} (h : DTasks w lo hi v L) : ∃ a cap, v = .slice a L.length cap := by
  obtain ⟨rs, h0, h1, _⟩ := h
  rcases h1.2 with ⟨rfl, hn⟩ | ⟨g, cap, cur, rfl, _⟩
  · exact ⟨_, _, by rw [hn]⟩
  · exact ⟨_, _, rfl⟩
theorem DTasks.r {w : World} {lo hi : Nat} {v : Value} {L : List Tsk} (h : DTasks w lo hi v L) : RTasks w v L := by
  obtain ⟨rs, h1, h2, _, h3, _⟩ := h
  have h2' := h2
  rcases h2.2 with ⟨rfl, hn⟩ | ⟨g, cap, cur, rfl, _, _, hnc, hcm, _⟩
  · have hL : L = [] := List.length_eq_zero_iff.1 hn
    subst hL
    exact ⟨none, 0, rfl, Nat.le_refl _, by unfold maxLen; omega, fun i hi => by simp at hi⟩
  · refine ⟨_, cap, rfl, hnc, hcm, fun i hi => ⟨g, 0, rs.getD i .nilFunc, rfl, ?_, ?_, (h3 i hi).r⟩⟩
    · rw [Nat.zero_add, h2'.cellAt (i * 2) (by omega)]; exact (flatT_at rs L h1 i hi).1
    · rw [Nat.zero_add, h2'.cellAt (i * 2 + 1) (by omega)]; exact (flatT_at rs L h1 i hi).2
/-- a slice of ints does not lie where a slice of tasks does -/
theorem ints_apart {w : World} {lo lo' n m : Nat} {v u : Value} {xs ys : List Value} (h : w.ownsRow lo 67 2 v n xs) (h' : w.ownsRow lo' 3 1 u m ys) {g : Nat} (hg : u.ownBlock = some g) : v.ownBlock ≠ some g := by
  intro hv
  rcases h.2 with ⟨rfl, _⟩ | ⟨g1, cap1, cur1, rfl, _, hg1, _⟩
  · simp [Value.ownBlock] at hv
  · rcases h'.2 with ⟨rfl, _⟩ | ⟨g2, cap2, cur2, rfl, _, hg2, _⟩
    · simp [Value.ownBlock] at hg
    · simp only [Value.ownBlock, Option.some.injEq] at hv hg
      subst hv hg
      rw [hg1] at hg2
      simp only [Option.some.injEq, Obj.cells.injEq] at hg2
      exact absurd hg2.2.1 (by decide)
theorem run_append_dtask {W : World} {lo hi : Nat} {v u : Value} {L : List Tsk} {xs : List Int} {tm : Int} (ty : TypeId) (h : DTasks W lo hi v L) (hu : FInts W hi W.heap.size u xs) (hlo : lo ≤ hi) (hhi : hi ≤ W.heap.size) (hlen : L.length < 1048576) :
    ∃ v' w', (Builtin.append_ #[52, 52] ty #[v, .slice (some ⟨W.heap.size, 0, none⟩) 1 1]).run Try.prog (W.alloc (.cells #[u, .int .i64 tm] 67)) = .ok v' w' ∧
      DTasks w' lo w'.heap.size v' (L ++ [⟨xs, tm⟩]) ∧ (W.alloc (.cells #[u, .int .i64 tm] 67)).grownBy w' v.ownBlock := by
  obtain ⟨rs, h0, h1, h2, h3, h4⟩ := h
  have hal : Below W.heap.size W (W.alloc (.cells #[u, .int .i64 tm] 67)) := (Below.refl _ _).alloc (Nat.le_refl _) _
  have hrow := heap_alloc_new W (.cells #[u, .int .i64 tm] 67)
  obtain ⟨i0, hi0, hz0, hz1, hz2⟩ := info_parts Try.infoTask2
  have h1a := own_sameS (w' := W.alloc (.cells #[u, .int .i64 tm] 67)) h1 (fun g hg => hal.block g (h1.lt g hg).2)
  obtain ⟨au, nu, cu, rfl⟩ := hu.form3
  obtain ⟨v', w', hr, hown, hg, hn⟩ := run_append_own (P := Try.prog) (W.alloc (.cells #[.slice au nu cu, .int .i64 tm] 67)) lo 52 ty 67 i0 (.agg #[.slice none 0 0, .int .i64 0]) 2 32 Try.underlying52 hi0 hz0 hz1 hz2 rfl (by decide) v L.length (flatT rs L) h1a
    ⟨W.heap.size, 0, none⟩ 1 1 [.slice au nu cu, .int .i64 tm] rfl (fun j y hy => by
      rw [addr_add, Nat.zero_add, cell_of_row _ _ _ _ _ _ hrow]
      match j, hy with
      | 0, hy => simpa using hy
      | 1, hy => simpa using hy) (fun y hy => by
      simp only [List.mem_cons, List.not_mem_nil, or_false] at hy
      rcases hy with rfl | rfl <;> rfl) (by unfold maxLen; omega) (by omega) (by have := hal.size; omega)
  have hsz := hg.size
  have hal' := hal.size
  -- the lists lie elsewhere than the tasks
  have hkeep : ∀ (q : Value) (ys : List Int) (l h : Nat), FInts W l h q ys → FInts w' l w'.heap.size q ys := fun q ys l h hq => by
    have hq1 := own_same (w' := W.alloc (.cells #[.slice au nu cu, .int .i64 tm] 67)) hq.1 (fun g hg => hal.block g (hq.1.lt g hg).2)
    refine ⟨own_same hq1 (fun b hb' => hg.block b (hq1.lt b hb').2 (fun e => ints_apart h1a hq1 hb' e.symm)), fun b hb' => Nat.lt_of_lt_of_le (hq1.lt b hb').2 hsz⟩
  have old : ∀ i, i < L.length → (rs ++ [Value.slice au nu cu]).getD i .nilFunc = rs.getD i .nilFunc := fun i hi => by simp [List.getD, List.getElem?_append_left (show i < rs.length by omega)]
  have new : (rs ++ [Value.slice au nu cu]).getD L.length .nilFunc = .slice au nu cu := by simp [List.getD, ← h0]
  refine ⟨v', w', hr, ⟨rs ++ [.slice au nu cu], by simp [h0], ?_, fun g hg' => (hown.lt g hg').2, fun i hi' => ?_, fun i j hij hj g hgi => ?_⟩, hg⟩
  · rw [List.length_append, flatT_append _ _ _ _ h0]; exact hown
  · simp only [List.length_append, List.length_cons, List.length_nil] at hi'
    by_cases e : i < L.length
    · rw [old i e]
      have : (L ++ [(⟨xs, tm⟩ : Tsk)]).getD i noTsk = L.getD i noTsk := by simp [List.getD, List.getElem?_append_left e]
      rw [this]
      exact hkeep _ _ _ _ (h3 i e)
    · obtain rfl : i = L.length := by omega
      rw [new]
      have : (L ++ [(⟨xs, tm⟩ : Tsk)]).getD L.length noTsk = ⟨xs, tm⟩ := by simp [List.getD]
      rw [this]
      exact (hkeep _ _ _ _ hu).mono hlo (Nat.le_refl _)
  · simp only [List.length_append, List.length_cons, List.length_nil] at hj
    rw [old i (by omega)] at hgi
    by_cases e : j < L.length
    · rw [old j e]; exact h4 i j hij e g hgi
    · obtain rfl : j = L.length := by omega
      rw [new]
      intro hrb
      have h5 := (h3 i (by omega)).2 g hgi
      have h6 := (hu.1.lt g hrb).1
      omega
theorem wpList_push_dtask {W : World} {ops : Array Oper} {rest : List Oper} {o : Oper} {a : Act} {Q : Exit → Act → World → Prop} (hgd : o.guard = none) (s x : Operand)
    (ho : o.op = .call { callee := .builtin .append, args := #[s, x], argTypes := #[52, 52] }) (lo hi : Nat) (v u : Value) (L : List Tsk) (xs : List Int) (tm : Int) (hs : a.eval s = v) (hx : a.eval x = .slice (some ⟨W.heap.size, 0, none⟩) 1 1)
    (h : DTasks W lo hi v L) (hu : FInts W hi W.heap.size u xs) (hlo : lo ≤ hi) (hhi : hi ≤ W.heap.size) (m : Nat) (hm : Hid (L.length = m)) (hlen : m < 1048576)
    (hh : ∀ a' c' w', DTasks w' lo w'.heap.size (.slice a' (m + 1) c') (L ++ [⟨xs, tm⟩]) → Below lo W w' → wpList Try.prog ops Q rest (a.put o.dst (.slice a' (m + 1) c')) w') :
    wpList Try.prog ops Q (o :: rest) a (W.alloc (.cells #[u, .int .i64 tm] 67)) := by
  refine wpList_plain hgd fun K hK => ?_
  obtain ⟨v', w', hr', h2, h3⟩ := run_append_dtask (tm := tm) o.type h hu hlo hhi (by have : L.length = m := hm.out; omega)
  have hb : Below lo W w' := by
    obtain ⟨rs, h0, h1, _⟩ := h
    exact (((Below.refl lo W).alloc (Nat.le_trans hlo hhi) _).grown h3 (by have := ((Below.refl W.heap.size W).alloc (Nat.le_refl _) (.cells #[u, .int .i64 tm] 67)).size; omega) (fun k hk => (h1.lt k hk).1))
  obtain ⟨a', c', rfl⟩ := h2.form
  have hl : (L ++ [(⟨xs, tm⟩ : Tsk)]).length = m + 1 := by rw [List.length_append, hm.out]; rfl
  rw [hl] at h2 hr'
  unfold Oper.wp execOp
  simp only [ho, resolve, invoke, builtin, Sem.run_bind, Sem.run_pure, Result.andThen_ok, List.map_toArray, List.map_cons, List.map_nil, hs, hx, hr']
  exact hK _ _ (hh a' c' w' h2 hb)
/-- another time for a task -/
theorem DTasks.set {w : World} {lo hi : Nat} {a : Option Addr} {n cap : Nat} {L : List Tsk} (h : DTasks w lo hi (.slice a n cap) L) {i : Nat} (hi' : i < L.length) :
    ∃ g, a = some ⟨g, 0, none⟩ ∧ n = L.length ∧ lo ≤ g ∧ g < w.heap.size ∧ w.cell? ⟨g, i * 2 + 1, none⟩ = some (.int .i64 (L.getD i noTsk).time) ∧ w.frozen? ⟨g, i * 2 + 1, none⟩ = false ∧
      ∀ q, DTasks (w.setCell ⟨g, i * 2 + 1, none⟩ (.int .i64 q)) lo hi (.slice (some ⟨g, 0, none⟩) n cap) (L.set i ⟨(L.getD i noTsk).needs, q⟩) := by
  obtain ⟨rs, h1, h2, h3, h4, h5⟩ := h
  have h2' := h2
  rcases h2.2 with ⟨hv, hn⟩ | ⟨g, cap', cur, hv, hlo, hg, hnc, hcm, _⟩
  · omega
  · simp only [Value.slice.injEq] at hv
    obtain ⟨rfl, rfl, rfl⟩ := hv
    refine ⟨g, rfl, rfl, hlo, (Array.getElem?_eq_some_iff.1 hg).1, ?_, frozen_of_row _ _ _ _ _ hg, fun q => ⟨rs, by simpa using h1, ?_, h3, fun j hj => ?_, fun j k hjk hk => h5 j k hjk (by simpa using hk)⟩⟩
    · rw [h2'.cellAt (i * 2 + 1) (by omega)]; exact (flatT_at rs L h1 i hi').2
    · rw [← flatT_set rs L h1 i q hi', List.length_set]; exact (h2'.stored (i * 2 + 1) _).1
    · rw [List.length_set] at hj
      have hk : ∀ (v : Value) (ys : List Int), FInts w lo hi v ys → FInts (w.setCell ⟨g, i * 2 + 1, none⟩ (.int .i64 q)) lo hi v ys := fun v ys hv => by
        refine ⟨own_same hv.1 (fun b hb => heap_setCell_other _ _ _ _ (fun e => ?_)), hv.2⟩
        subst e
        exact ints_apart h2' hv.1 hb rfl
      by_cases e : i = j
      · subst e
        have : (L.set i ⟨(L.getD i noTsk).needs, q⟩).getD i noTsk = ⟨(L.getD i noTsk).needs, q⟩ := by simp [List.getD, hi']
        rw [this]; exact hk _ _ (h4 i hi')
      · have : (L.set i ⟨(L.getD i noTsk).needs, q⟩).getD j noTsk = L.getD j noTsk := by simp [List.getD, e]
        rw [this]; exact hk _ _ (h4 j hj)
theorem DTasks.dr {w w' : World} {lo b : Nat} {v : Value} {L : List Tsk} (h : DTasks w lo w.heap.size v L) (hd : Dr b w.heap.size w w') (hb : b < lo) : DTasks w' lo w'.heap.size v L :=
  (h.same (fun k h1 h2 _ => hd.block k h2 (by omega))).mono (Nat.le_refl _) hd.size
theorem DTasks.tch {w w' : World} {lo b : Nat} {v : Value} {L : List Tsk} (h : DTasks w lo w.heap.size v L) (ht : Touch b (b + 1) w w') (hb : b < lo) : DTasks w' lo w'.heap.size v L :=
  (h.same (.of_touch ht (.inr hb))).mono (Nat.le_refl _) ht.size
theorem DTasks.grw {w w' : World} {lo : Nat} {v : Value} {L : List Tsk} (h : DTasks w lo w.heap.size v L) (hb : Below w.heap.size w w') : DTasks w' lo w'.heap.size v L :=
  (h.same (.of_below hb)).mono (Nat.le_refl _) hb.size

theorem flatT_setN : ∀ (rs : List Value) (L : List Tsk), rs.length = L.length → ∀ (i : Nat) (v : Value) (ys : List Int), i < L.length → (flatT rs L).set (i * 2) v = flatT (rs.set i v) (L.set i ⟨ys, (L.getD i noTsk).time⟩) := by
  intro rs
  induction rs with
  | nil =>
    intro L h i v ys hi
    cases L with
    | nil => simp at hi
    | cons t ts => simp at h
  | cons r rs ih =>
    intro L h i v ys hi
    cases L with
    | nil => simp at h
    | cons t ts =>
      cases i with
      | zero => rfl
      | succ i =>
        rw [show (i + 1) * 2 = i * 2 + 1 + 1 by omega]
        show r :: _ :: (flatT rs ts).set (i * 2) _ = r :: _ :: flatT (rs.set i v) (ts.set i _)
        rw [ih ts (by simpa using h) i v ys (by simpa using hi)]
        rfl
/-- as DTasks, but two lists may lie in one block: to be read alone -/
def LTasks (w : World) (lo hi : Nat) (v : Value) (L : List Tsk) : Prop :=
  ∃ rs : List Value, rs.length = L.length ∧ w.ownsRow lo 67 2 v L.length (flatT rs L) ∧ (∀ g, v.ownBlock = some g → g < hi) ∧ (∀ i, i < L.length → FInts w lo hi (rs.getD i .nilFunc) (L.getD i noTsk).needs)
theorem DTasks.l {w : World} {lo hi : Nat} {v : Value} {L : List Tsk} (h : DTasks w lo hi v L) : LTasks w lo hi v L := by
  obtain ⟨rs, h0, h1, h2, h3, _⟩ := h
  exact ⟨rs, h0, h1, h2, h3⟩
theorem LTasks.same {w w' : World} {lo hi : Nat} {v : Value} {L : List Tsk} (h : LTasks w lo hi v L) (hs : Same lo hi w w') : LTasks w' lo hi v L := by
  obtain ⟨rs, h0, h1, h2, h3⟩ := h
  exact ⟨rs, h0, own_sameS h1 (fun g hg => hs g (h1.lt g hg).1 (h2 g hg) (h1.lt g hg).2), h2, fun i hi => (h3 i hi).same hs⟩
theorem LTasks.mono {w : World} {lo hi lo' hi' : Nat} {v : Value} {L : List Tsk} (h : LTasks w lo hi v L) (h1 : lo' ≤ lo) (h2 : hi ≤ hi') : LTasks w lo' hi' v L := by
  obtain ⟨rs, h0, h3, h4, h5⟩ := h
  exact ⟨rs, h0, own_monoS h3 h1, fun g hg => Nat.lt_of_lt_of_le (h4 g hg) h2, fun i hi => (h5 i hi).mono h1 h2⟩
theorem LTasks.form {w : World} {lo hi : Nat} {v : Value} {L : List Tsk} (h : LTasks w lo hi v L) : ∃ a cap, v = .slice a L.length cap := by
  obtain ⟨rs, h0, h1, _⟩ := h
  rcases h1.2 with ⟨rfl, hn⟩ | ⟨g, cap, cur, rfl, _⟩
  · exact ⟨_, _, by rw [hn]⟩
  · exact ⟨_, _, rfl⟩
theorem LTasks.r {w : World} {lo hi : Nat} {v : Value} {L : List Tsk} (h : LTasks w lo hi v L) : RTasks w v L := by
  obtain ⟨rs, h1, h2, _, h3⟩ := h
  have h2' := h2
  rcases h2.2 with ⟨rfl, hn⟩ | ⟨g, cap, cur, rfl, _, _, hnc, hcm, _⟩
  · have hL : L = [] := List.length_eq_zero_iff.1 hn
    subst hL
    exact ⟨none, 0, rfl, Nat.le_refl _, by unfold maxLen; omega, fun i hi => by simp at hi⟩
  · refine ⟨_, cap, rfl, hnc, hcm, fun i hi => ⟨g, 0, rs.getD i .nilFunc, rfl, ?_, ?_, (h3 i hi).r⟩⟩
    · rw [Nat.zero_add, h2'.cellAt (i * 2) (by omega)]; exact (flatT_at rs L h1 i hi).1
    · rw [Nat.zero_add, h2'.cellAt (i * 2 + 1) (by omega)]; exact (flatT_at rs L h1 i hi).2
theorem LTasks.dr {w w' : World} {lo b : Nat} {v : Value} {L : List Tsk} (h : LTasks w lo w.heap.size v L) (hd : Dr b w.heap.size w w') (hb : b < lo) : LTasks w' lo w'.heap.size v L :=
  (h.same (fun k h1 h2 _ => hd.block k h2 (by omega))).mono (Nat.le_refl _) hd.size
theorem LTasks.tch {w w' : World} {lo b : Nat} {v : Value} {L : List Tsk} (h : LTasks w lo w.heap.size v L) (ht : Touch b (b + 1) w w') (hb : b < lo) : LTasks w' lo w'.heap.size v L :=
  (h.same (.of_touch ht (.inr hb))).mono (Nat.le_refl _) ht.size
theorem LTasks.grw {w w' : World} {lo : Nat} {v : Value} {L : List Tsk} (h : LTasks w lo w.heap.size v L) (hb : Below w.heap.size w w') : LTasks w' lo w'.heap.size v L :=
  (h.same (.of_below hb)).mono (Nat.le_refl _) hb.size
theorem heap_cell {w w' : World} {g o : Nat} {v : Value} (h : w'.heap[g]? = w.heap[g]?) (hc : w.cell? ⟨g, o, none⟩ = some v) : w'.cell? ⟨g, o, none⟩ = some v := by
  unfold World.cell? at hc ⊢
  simp only at hc ⊢
  rw [h]; exact hc
/-- another list for a task -/
theorem DTasks.needs {w : World} {lo hi : Nat} {a : Option Addr} {n cap : Nat} {L : List Tsk} (h : DTasks w lo hi (.slice a n cap) L) {i : Nat} (hi' : i < L.length) :
    ∃ g au nu cu, a = some ⟨g, 0, none⟩ ∧ lo ≤ g ∧ g < w.heap.size ∧ w.cell? ⟨g, i * 2, none⟩ = some (.slice au nu cu) ∧ w.frozen? ⟨g, i * 2, none⟩ = false ∧ FInts w lo hi (.slice au nu cu) (L.getD i noTsk).needs ∧ (Value.slice au nu cu).ownBlock ≠ some g ∧ g < hi ∧ (∃ cur, w.heap[g]? = some (.cells cur 67 (0, 0))) ∧
      ∀ (w' : World) (v' : Value) (ys : List Int), (∀ c, lo ≤ c → c < hi → c < w.heap.size → (Value.slice au nu cu).ownBlock ≠ some c → w'.heap[c]? = w.heap[c]?) → FInts w' lo w'.heap.size v' ys → hi ≤ w'.heap.size →
        LTasks (w'.setCell ⟨g, i * 2, none⟩ v') lo w'.heap.size (.slice (some ⟨g, 0, none⟩) n cap) (L.set i ⟨ys, (L.getD i noTsk).time⟩) := by
  obtain ⟨rs, h1, h2, h3, h4, h5⟩ := h
  have h2' := h2
  rcases h2.2 with ⟨hv, hn⟩ | ⟨g, cap', cur, hv, hlo, hg, hnc, hcm, _⟩
  · omega
  · simp only [Value.slice.injEq] at hv
    obtain ⟨rfl, rfl, rfl⟩ := hv
    obtain ⟨au, nu, cu, hr⟩ := (h4 i hi').form3
    have hri := h4 i hi'
    rw [hr] at hri
    have hgn : (Value.slice au nu cu).ownBlock ≠ some g := fun e => ints_apart h2' hri.1 e rfl
    have hgh : g < hi := h3 g rfl
    have hc := (flatT_at rs L h1 i hi').1
    rw [hr] at hc
    refine ⟨g, au, nu, cu, rfl, hlo, (Array.getElem?_eq_some_iff.1 hg).1, by rw [h2'.cellAt (i * 2) (by omega)]; exact hc, frozen_of_row _ _ _ _ _ hg, hri, hgn, hgh, ⟨cur, hg⟩, fun w' v' ys hs hF hsz => ?_⟩
    have hw := own_sameS (w' := w') h2' (fun c hc' => by
      have : c = g := by simpa [Value.ownBlock] using hc'.symm
      subst this
      exact hs c hlo hgh (Array.getElem?_eq_some_iff.1 hg).1 hgn)
    have hk : ∀ (v : Value) (zs : List Int) (h' : Nat), FInts w' lo h' v zs → FInts (w'.setCell ⟨g, i * 2, none⟩ v') lo h' v zs := fun v zs h' hv => by
      refine ⟨own_same hv.1 (fun b hb => heap_setCell_other _ _ _ _ (fun e => ?_)), hv.2⟩
      subst e
      exact ints_apart hw hv.1 hb rfl
    refine ⟨rs.set i v', by simpa using h1, ?_, fun c hc' => Nat.lt_of_lt_of_le (h3 c hc') hsz, fun j hj => ?_⟩
    · rw [← flatT_setN rs L h1 i v' ys hi', List.length_set]; exact (hw.stored (i * 2) v').1
    · rw [List.length_set] at hj
      by_cases e : i = j
      · subst e
        have e1 : (L.set i ⟨ys, (L.getD i noTsk).time⟩).getD i noTsk = ⟨ys, (L.getD i noTsk).time⟩ := by simp [List.getD, hi']
        have e2 : (rs.set i v').getD i .nilFunc = v' := by simp [List.getD, show i < rs.length by omega]
        rw [e1, e2]; exact hk _ _ _ hF
      · have e1 : (L.set i ⟨ys, (L.getD i noTsk).time⟩).getD j noTsk = L.getD j noTsk := by simp [List.getD, e]
        have e2 : (rs.set i v').getD j .nilFunc = rs.getD j .nilFunc := by simp [List.getD, e]
        rw [e1, e2]
        have hq := h4 j hj
        refine hk _ _ _ (⟨own_same hq.1 (fun c hc' => hs c (hq.1.lt c hc').1 (hq.2 c hc') (hq.1.lt c hc').2 (fun e' => ?_)), fun c hc' => Nat.lt_of_lt_of_le (hq.2 c hc') hsz⟩)
        rw [← hr] at e'
        rcases Nat.lt_or_gt_of_ne e with h6 | h6
        · exact h5 i j h6 hj c e' hc'
        · exact h5 j i h6 hi' c hc' e'

/-- drawn tasks -/
def RetDT (b k lo : Nat) (w : World) (e : Ending) (w' : World) : Prop := ∃ (v : Value) (L : List Tsk), e = .returned v ∧ L.length ≤ 13 ∧ LTasks w' lo w'.heap.size v L ∧ Cur w' b k ∧ Dr b lo w w'

set_option maxRecDepth 100000 in
set_option maxHeartbeats 4000000 in
theorem tasks_c (b k : Nat) (w : World) (h : Cur w b k) (hk : k ≤ 800000000000) :
    Calls Try.prog 132 #[.pointer (some ⟨b, 0, none⟩)] w (RetDT b (k + 2000) w.heap.size w) := by
  have HH := hid h
  have hlt0 := h.lt
  obtain ⟨lo, hlo⟩ : ∃ lo, w.heap.size = lo := ⟨_, rfl⟩
  have HLO := hid hlo
  rw [hlo] at hlt0 ⊢
  have HS0 : Hid (lo ≤ w.heap.size) := Nat.le_of_eq hlo.symm
  clear h hlo
  go_enter Try.func132, Try.ntmps132
  go_wp2_with fail
  refine (pick_c b k 7 _ HH.out (by omega) (by omega)).mono ?_
  rintro e w1 ⟨n0, rfl, ⟨hn1, hn2⟩, hc1, ht1⟩
  have HC1 := hid hc1
  have HD1 := hid ((Dr.refl b lo w).touch HS0.out ht1)
  have HS1 : Hid (lo ≤ w1.heap.size) := Nat.le_trans HS0.out ht1.size
  clear hc1 ht1
  go_wp2_with fail
  refine (one_c b (k + 2) 12 _ HC1.out (by omega) (by omega)).mono ?_
  rintro e w2 ⟨x, rfl, hc2, ht2⟩
  have HC2 := hid hc2
  have HD2 := hid (HD1.out.touch HS0.out ht2)
  have HS2 : Hid (lo ≤ w2.heap.size) := Nat.le_trans HS1.out ht2.size
  clear hc2 ht2
  cases x
  case' false =>
    obtain ⟨m, hm, hm13⟩ : ∃ m : Nat, n0 = m ∧ m ≤ 13 := ⟨n0.toNat, by omega, by omega⟩
    obtain ⟨wz, hwz⟩ : ∃ wz, wz = w2 := ⟨_, rfl⟩
    subst hwz
    have HCZ := hid (HC2.out.more (show k + 4 ≤ k + 6 by omega))
    have HDZ := HD2
    have HSZ := HS2
  case' true =>
    go_wp2_with fail
    refine (pick_c b (k + 4) 2 _ HC2.out (by omega) (by omega)).mono ?_
    rintro e wz ⟨y0, rfl, ⟨hy1, hy2⟩, hc3, ht3⟩
    have HCZ := hid hc3
    have HDZ := hid (HD2.out.touch HS0.out ht3)
    have HSZ : Hid (lo ≤ wz.heap.size) := Nat.le_trans HS2.out ht3.size
    clear hc3 ht3
    have f1 : IntKind.i64.wrap (12 + y0) = 12 + y0 := IntWalk.i64_in _ (by omega)
    obtain ⟨m, hm, hm13⟩ : ∃ m : Nat, 12 + y0 = m ∧ m ≤ 13 := ⟨(12 + y0).toNat, by omega, by omega⟩
  all_goals
    go_wp2
    try rw [hm]
    clear hm
    go_loopg [3] (m + 1) (fun gk lv wr => ∃ (a : Option Addr) (p c : Nat) (L : List Tsk) (s : Nat), lv = .slice a p c ∧ p ≤ m ∧ gk = m + 1 - p ∧ Hid (L.length = p) ∧ Hid (∀ t ∈ L, t.needs.length ≤ 13) ∧ s ≤ k + 10 + 40 * p ∧ DTasks wr lo wr.heap.size (.slice a p c) L ∧ Cur wr b s ∧ Dr b lo w wr ∧ lo ≤ wr.heap.size)
    case atStart => exact ⟨none, 0, 0, [], k + 6, rfl, by omega, rfl, hid rfl, hid (by simp), by omega, dtasks_nil _ _ _, HCZ.out, HDZ.out, HSZ.out⟩
    case round =>
      obtain ⟨w3, rfl⟩ : ∃ w' : World, w' = wr := ⟨_, rfl⟩
      obtain ⟨a3, p, c3, L, s, rfl, hp, rfl, HLP, HND, hs, hT, hc, hd, hsz⟩ := hrel
      have HT3 := hid hT
      have HC3 := hid hc
      have HD3 := hid hd
      have HS3 := hid hsz
      clear hT hc hd hsz
      by_cases hlt : p < m
      · have hltz : (p : Int) < (m : Int) := by omega
        go_wp2_with fail
        refine (pick_c b s 20 _ HC3.out (by omega) (by omega)).mono ?_
        rintro e w4 ⟨y, rfl, ⟨hy1, hy2⟩, hc4, ht4⟩
        have HC4 := hid hc4
        have HD4 := hid (HD3.out.touch HS0.out ht4)
        have HT4 := hid (HT3.out.tch ht4 hlt0)
        have HS4 : Hid (lo ≤ w4.heap.size) := Nat.le_trans HS3.out ht4.size
        clear hc4 ht4
        have HLT := hid (ints_lit w4 w4.heap.size (Nat.le_refl _) [0, 1, 2, 3, 5, y] (by simp)).r
        have HAL : Hid (Below w4.heap.size w4 _) := (Below.refl w4.heap.size w4).alloc (Nat.le_refl _) (.cells ([0, 1, 2, 3, 5, y].map (.int .i64 ·)).toArray 3)
        go_wp2_with fail
        refine (among_c b (s + 2) _ [0, 1, 2, 3, 5, y] _ (HC4.out.keep HAL.out) (by omega) HLT.out (by simp) (by simp) (fun p hp => by simp [Value.ownBlock] at hp; have := HS4.out; omega)).mono ?_
        rintro e w5 ⟨x5, rfl, _, hc5, ht5⟩
        have HC5 := hid hc5
        have HD5 := hid ((HD4.out.below (HAL.out.mono HS4.out)).touch HS0.out ht5)
        have HT5 := hid ((HT4.out.grw HAL.out).tch ht5 hlt0)
        have HS5 : Hid (lo ≤ w5.heap.size) := Nat.le_trans (Nat.le_trans HS4.out HAL.out.size) ht5.size
        clear hc5 ht5 HLT HAL
        obtain ⟨B, hB⟩ : ∃ B, w5.heap.size = B := ⟨_, rfl⟩
        obtain ⟨w6, hw6⟩ : ∃ w6, w5.alloc (.cells #[.slice none 0 0, .int .i64 x5] 67) = w6 := ⟨_, rfl⟩
        have hal := (Below.refl w5.heap.size w5).alloc (Nat.le_refl _) (.cells #[.slice none 0 0, .int .i64 x5] 67)
        have hrow := heap_alloc_new w5 (.cells #[.slice none 0 0, .int .i64 x5] 67)
        have hT6 := HT5.out.same (.of_below hal)
        have hsz6 : (w5.alloc (.cells #[.slice none 0 0, .int .i64 x5] 67)).heap.size = w5.heap.size + 1 := World.size_alloc _ _
        rw [hw6] at hal hrow hT6 hsz6
        rw [hB] at hal hrow hT6 hsz6
        have HB := hid hB
        have HW6 := hid hw6
        have hloB : lo ≤ B := by rw [← hB]; exact HS5.out
        have HROW6 := hid hrow
        have HT6 := hid hT6
        have HC6 : Hid (Cur w6 b (s + 6)) := (HC5.out.low (hal.mono (by omega))).more (by omega)
        have HD6 := hid (HD5.out.below (hal.mono hloB))
        have HS6 : Hid (B + 1 ≤ w6.heap.size) := Nat.le_of_eq hsz6.symm
        have HF6 : Hid (FInts w6 (B + 1) w6.heap.size (.slice none 0 0) []) := ints_nil _ _ _
        clear hB hw6 hal hrow hT6 hsz6
        go_wp2
        rw [HB.out, HW6.out]
        go_loopg [27] p (fun gk jv wr => ∃ (j : Nat) (u : Value) (xs : List Int) (q : Nat), jv = .int .i64 j ∧ j ≤ p ∧ gk = p - j ∧ xs.length ≤ j ∧ wr.heap[B]? = some (.cells #[u, .int .i64 x5] 67 (0, 0)) ∧ FInts wr (B + 1) wr.heap.size u xs ∧ DTasks wr lo B (.slice a3 p c3) L ∧ Cur wr b q ∧ q ≤ s + 6 + 2 * j ∧ Dr b lo w wr ∧ B + 1 ≤ wr.heap.size)
        case atStart => exact ⟨0, _, [], s + 6, rfl, Nat.zero_le _, rfl, Nat.le_refl _, HROW6.out, HF6.out, HT6.out, HC6.out, by omega, HD6.out, HS6.out⟩
        case round =>
          obtain ⟨w7, rfl⟩ : ∃ w' : World, w' = wr := ⟨_, rfl⟩
          obtain ⟨j, u, xs, q, rfl, hj, rfl, hxl, hrow, hF, hT, hc, hq, hd, hsz⟩ := hrel
          obtain ⟨au, nu, cu, rfl⟩ := hF.form3
          have HROW7 := hid hrow
          have HF7 := hid hF
          have HT7 := hid hT
          have HC7 := hid hc
          have HD7 := hid hd
          have HS7 := hid hsz
          clear hrow hF hT hc hd hsz
          by_cases hltj : j < p
          · have hltzj : (j : Int) < (p : Int) := by omega
            go_wp2_with fail
            refine (one_c b q 3 _ HC7.out (by omega) (by omega)).mono ?_
            rintro e w8 ⟨x, rfl, hc8, ht8⟩
            have HC8 := hid hc8
            have HD8 := hid (HD7.out.touch HS0.out ht8)
            have HF8 := hid (HF7.out.tch ht8 (by omega))
            have HT8 := hid (HT7.out.same (.of_touch ht8 (.inr hlt0)))
            have HS8 : Hid (B + 1 ≤ w8.heap.size) := Nat.le_trans HS7.out ht8.size
            have HROW8 := hid ((ht8.block B (by have := HS7.out; omega) (by omega)).trans HROW7.out)
            clear hc8 ht8
            cases x
            · go_wp2
              go_roundg (p - (j + 1))
              case rel => exact ⟨j + 1, _, xs, q + 2, by go_num, by omega, by omega, by omega, HROW8.out, HF8.out, HT8.out, HC8.out, by omega, HD8.out, HS8.out⟩
              case measure => omega
            · have e0 : w8.cell? ⟨B, 0, none⟩ = some (.slice au nu cu) := by rw [cell_of_row _ _ _ _ _ _ HROW8.out]; rfl
              obtain ⟨xl, hxl2⟩ : ∃ xl, xs.length = xl := ⟨_, rfl⟩
              rw [hxl2] at hxl
              have HXL := hid hxl2
              clear hxl2
              go_wp2_with (at_builtin; (refine wpList_push_r (W0 := w8) rfl _ _ rfl (B + 1) (.slice au nu cu) xs (j : Int) rfl rfl HF8.out (Below.refl _ _) HS8.out xl HXL (by omega) _ (hid rfl) ?_; intro g9 c9 w9 hF9 hb9; have hrow9 := (hb9.block B (by omega)).trans HROW8.out; have e9 : w9.cell? ⟨B, 0, none⟩ = some (.slice au nu cu) := by { rw [cell_of_row _ _ _ _ _ _ hrow9]; rfl }; have d9 := frozen_of_row w9 B 0 _ _ hrow9; have HF9 := hid hF9; have HB9 := hid hb9; have HROW9 := hid hrow9; clear hF9 hb9 hrow9 e0))
              have hset := heap_setCell_same w9 B 0 _ _ (.slice (some ⟨g9, 0, none⟩) (xl + 1) c9) HROW9.out
              have hoth : ∀ c, c ≠ B → (w9.setCell ⟨B, 0, none⟩ (.slice (some ⟨g9, 0, none⟩) (xl + 1) c9)).heap[c]? = w9.heap[c]? := fun c hc => heap_setCell_other _ _ _ _ hc
              have hbs : Below B w9 (w9.setCell ⟨B, 0, none⟩ (.slice (some ⟨g9, 0, none⟩) (xl + 1) c9)) := (Below.refl B w9).setCell (show B ≤ (⟨B, 0, none⟩ : Addr).block from Nat.le_refl B) _
              have hszs : (w9.setCell ⟨B, 0, none⟩ (.slice (some ⟨g9, 0, none⟩) (xl + 1) c9)).heap.size = w9.heap.size := by simp [World.setCell]
              have hF10 := (HF9.out.same (fun c h1 h2 _ => hoth c (by omega))).mono (Nat.le_refl _) (Nat.le_of_eq hszs.symm)
              have hT9 := HT8.out.same (fun c h1 h2 h3 => HB9.out.block c (by omega))
              have hT10 := hT9.same (fun c h1 h2 _ => hoth c (by omega))
              have hC10 := (HC8.out.low (HB9.out.mono (by omega))).low (hbs.mono (by omega))
              have hD10 := (HD8.out.below (HB9.out.mono (by omega))).below (hbs.mono hloB)
              have hS10 : B + 1 ≤ (w9.setCell ⟨B, 0, none⟩ (.slice (some ⟨g9, 0, none⟩) (xl + 1) c9)).heap.size := by rw [hszs]; exact Nat.le_trans HS8.out HB9.out.size
              go_wp2
              go_roundg (p - (j + 1))
              case rel => exact ⟨j + 1, _, xs ++ [(j : Int)], q + 2, by go_num, by omega, by omega, by rw [List.length_append, HXL.out]; simp; omega, hset, hF10, hT10, hC10, by omega, hD10, hS10⟩
              case measure => omega
          · obtain rfl : j = p := by omega
            have e0 : w7.cell? ⟨B, 0, none⟩ = some (.slice au nu cu) := by rw [cell_of_row _ _ _ _ _ _ HROW7.out]; rfl
            have e1 : w7.cell? ⟨B, 1, none⟩ = some (.int .i64 x5) := by rw [cell_of_row _ _ _ _ _ _ HROW7.out]; rfl
            go_wp2_with (at_builtin; (refine wpList_push_dtask rfl _ _ rfl lo B (.slice a3 j c3) (.slice au nu cu) L xs x5 rfl rfl HT7.out (HF7.out.mono (by omega) (Nat.le_refl _)) hloB (by have := HS7.out; omega) j HLP (by omega) ?_; intro a9 c9 w9 hT9 hb9; have HT9 := hid hT9; have HC9 := hid (HC7.out.low (hb9.mono hlt0)); have HD9 := hid (HD7.out.below hb9); have HS9 : Hid (lo ≤ w9.heap.size) := Nat.le_trans (by have := HS7.out; omega) hb9.size; clear hT9 hb9 e0 e1))
            go_roundg (m + 1 - (j + 1))
            case rel => exact ⟨_, j + 1, _, L ++ [⟨xs, x5⟩], q, rfl, by omega, by omega, hid (by rw [List.length_append, HLP.out]; rfl), hid (fun t ht => by
                rcases List.mem_append.1 ht with h | h
                · exact HND.out t h
                · rw [List.mem_singleton] at h; subst h; exact Nat.le_trans hxl (by omega)), by omega, HT9.out, HC9.out, HD9.out, HS9.out⟩
            case measure => omega
      · obtain rfl : p = m := by omega
        by_cases hm0 : 0 < p
        · have hmz : (p : Int) > 0 := by omega
          go_wp2_with fail
          refine (pick_c b s p _ HC3.out (by omega) (by omega)).mono ?_
          rintro e w4 ⟨y, rfl, ⟨hy1, hy2⟩, hc4, ht4⟩
          have HC4 := hid hc4
          have HD4 := hid (HD3.out.touch HS0.out ht4)
          have HT4 := hid (HT3.out.tch ht4 hlt0)
          have HS4 : Hid (lo ≤ w4.heap.size) := Nat.le_trans HS3.out ht4.size
          clear hc4 ht4
          obtain ⟨i, rfl⟩ : ∃ i : Nat, y = i := ⟨y.toNat, by omega⟩
          have hi : i < p := by omega
          have hiz : (i : Int) < (p : Int) := by omega
          go_wp2_with fail
          refine (pick_c b (s + 2) 24 _ HC4.out (by omega) (by omega)).mono ?_
          rintro e w5 ⟨z, rfl, _, hc5, ht5⟩
          have HC5 := hid hc5
          have HD5 := hid (HD4.out.touch HS0.out ht5)
          have HT5 := hid (HT4.out.tch ht5 hlt0)
          have HS5 : Hid (lo ≤ w5.heap.size) := Nat.le_trans HS4.out ht5.size
          clear hc5 ht5
          rcases Bool.eq_false_or_eq_true (z == 0) with t0 | t0
          · have HLT := hid (ints_lit w5 w5.heap.size (Nat.le_refl _) [-1, 1000, 1001] (by simp)).r
            have HAL : Hid (Below w5.heap.size w5 _) := (Below.refl w5.heap.size w5).alloc (Nat.le_refl _) (.cells ([-1, 1000, 1001].map (.int .i64 ·)).toArray 3)
            go_wp2_with fail
            refine (among_c b (s + 4) _ [-1, 1000, 1001] _ (HC5.out.keep HAL.out) (by omega) HLT.out (by simp) (by simp) (fun p hp => by simp [Value.ownBlock] at hp; have := HS5.out; omega)).mono ?_
            rintro e w6 ⟨x6, rfl, _, hc6, ht6⟩
            have HC6 := hid hc6
            have HD6 := hid ((HD5.out.below (HAL.out.mono HS5.out)).touch HS0.out ht6)
            have hT6 := (HT5.out.grw HAL.out).tch ht6 hlt0
            have HS6 : Hid (lo ≤ w6.heap.size) := Nat.le_trans (Nat.le_trans HS5.out HAL.out.size) ht6.size
            clear hc6 ht6 HLT HAL
            obtain ⟨g, rfl, -, hg1, hg2, e1, e2, hset⟩ := hT6.set (i := i) (by rw [HLP.out]; exact hi)
            obtain ⟨tt, htt⟩ : ∃ tt, (L.getD i noTsk).time = tt := ⟨_, rfl⟩
            rw [htt] at e1
            have hst := hset x6
            have hbs : Below lo w6 (w6.setCell ⟨g, i * 2 + 1, none⟩ (.int .i64 x6)) := (Below.refl _ _).setCell hg1 _
            have HT7 := hid (hst.mono (Nat.le_refl _) hbs.size)
            have HC7 := hid ((HC6.out.low (hbs.mono hlt0)).more (show s + 4 + 2 ≤ k + 2000 by omega))
            have HD7 := hid (HD6.out.below hbs)
            clear hset hst htt hbs hT6
            go_wp2
            go_ret
            exact ⟨_, _, rfl, by rw [List.length_set, HLP.out]; omega, HT7.out.l, HC7.out, HD7.out⟩
          · rcases Bool.eq_false_or_eq_true (z == 1) with t1 | t1
            · obtain ⟨g, au, nu, cu, rfl, hg1, hg2, e1, e2, hri, hgn, hgB, ⟨cur, hcur⟩, hset⟩ := HT5.out.needs (i := i) (by rw [HLP.out]; exact hi)
              obtain ⟨ys, hys⟩ : ∃ ys, (L.getD i noTsk).needs = ys := ⟨_, rfl⟩
              rw [hys] at hri
              have HRI := hid hri
              have HSET := hid hset
              have hiL : i < L.length := by rw [HLP.out]; exact hi
              have hyl : ys.length ≤ 13 := by rw [← hys]; exact HND.out _ (by simp [List.getD, List.getElem?_eq_getElem hiL])
              clear hiL
              have f1 : IntKind.i64.wrap ((i : Int) - 1) = (i : Int) - 1 := IntWalk.i64_in _ (by omega)
              clear hri hset hys
              have HCUR := hid hcur
              have hal : Below w5.heap.size w5 (w5.alloc (.cells #[.int .i64 (-1), .int .i64 (i : Int), .int .i64 ((i : Int) - 1)] 3)).drew := ((Below.refl _ _).alloc (Nat.le_refl _) _).drew
              have HLT : Hid (RInts (w5.alloc (.cells #[.int .i64 (-1), .int .i64 (i : Int), .int .i64 ((i : Int) - 1)] 3)).drew (.slice (some ⟨w5.heap.size, 0, none⟩) 3 3) [-1, (i : Int), (i : Int) - 1]) := (ints_lit w5 w5.heap.size (Nat.le_refl _) [-1, (i : Int), (i : Int) - 1] (by simp)).r
              have HCA := hid (HC5.out.keep hal)
              have ea := heap_cell (hal.block g hg2) e1
              have HAL := hid hal
              have hfr : ∀ p, (Value.slice (some ⟨w5.heap.size, 0, none⟩) 3 3).ownBlock = some p → p ≠ b := fun p hp => by simp [Value.ownBlock] at hp; have := HS5.out; omega
              have HFR := hid hfr
              clear hcur hal hfr e2
              go_upto_region 20 with fail
              go_region_law (first
                | (refine step_append_ints rfl (.tmp 67) (.tmp 74) rfl lo _ (.slice au nu cu) (.slice (some ⟨w6.heap.size, 0, none⟩) 1 1) ys [x6] (by simp [Act.eval] <;> rfl) (by simp [Act.eval] <;> rfl) HA6.out HB6.out HLN.out HLO6.out ?_; intro v7 w7 hF7 hg7 hn7; obtain ⟨a7, n7, c7, rfl⟩ := hF7.form3; have hrow7 := (hg7.block g HGL.out (fun e => hgn e.symm)).trans HROWA.out; have e7 := heap_cell (hg7.block g HGL.out (fun e => hgn e.symm)) e6a; have d7 := frozen_of_row w7 g (i * 2) _ _ hrow7; have HF7 := hid hF7; have HG7 := hid hg7; clear hF7 hg7 hn7 hrow7 e6 e6a)
                | (go_simp; go_at_call 93; (with_reducible refine (among_c b (s + 4) _ [-1, (i : Int), (i : Int) - 1] _ HCA.out (by omega) HLT.out (by simp) (by simp) HFR.out).mono ?_); rintro e w6 ⟨x6, rfl, _, hc6, ht6⟩; have hb6 : ∀ c, lo ≤ c → c < w5.heap.size → w6.heap[c]? = w5.heap[c]? := (fun c h1 h2 => (ht6.block c (Nat.lt_of_lt_of_le h2 HAL.out.size) (by omega)).trans (HAL.out.block c h2)); have e6 := heap_cell (hb6 g hg1 hg2) e1; have hS6 : w5.heap.size ≤ w6.heap.size := Nat.le_trans HAL.out.size ht6.size; have hF6 := HRI.out.same (fun c h1 h2 _ => hb6 c h1 h2); obtain ⟨hA6, hB6, hLO6⟩ := push_pre hF6 x6; have hal6 := (Below.refl w6.heap.size w6).alloc (Nat.le_refl _) (.cells #[.int .i64 x6] 3); have HA6 := hid hA6; have HB6 := hid hB6; have HLN : Hid (ys.length + [x6].length ≤ 1099511627776) := (by show _ ≤ _; simp; omega); have HLO6 : Hid (lo ≤ (w6.alloc (.cells #[.int .i64 x6] 3)).heap.size) := Nat.le_trans HS5.out (Nat.le_trans hS6 hal6.size); have HGL : Hid (g < (w6.alloc (.cells #[.int .i64 x6] 3)).heap.size) := Nat.lt_of_lt_of_le (Nat.lt_of_lt_of_le hg2 hS6) hal6.size; have HROWA := hid ((hal6.block g (Nat.lt_of_lt_of_le hg2 hS6)).trans ((hb6 g hg1 hg2).trans HCUR.out)); have e6a := heap_cell (hal6.block g (Nat.lt_of_lt_of_le hg2 hS6)) e6; have HB66 := hid hb6; have HC6 := hid hc6; have HD6 := hid ((HD5.out.below (HAL.out.mono HS5.out)).touch HS0.out ht6); have HS6 := hid hS6; have HAL6 := hid hal6; clear hc6 ht6 hb6 hS6 hF6 hA6 hB6 hLO6 hal6))
              all_goals
                have hst := HSET.out w7 (.slice a7 n7 c7) (ys ++ [x6]) (fun c h1 h2 h3 h4 => (HG7.out.block c (Nat.lt_of_lt_of_le (Nat.lt_of_lt_of_le h3 HS6.out) HAL6.out.size) (fun e => h4 e.symm)).trans ((HAL6.out.block c (Nat.lt_of_lt_of_le h3 HS6.out)).trans (HB66.out c h1 h3))) HF7.out (Nat.le_trans HS6.out (Nat.le_trans HAL6.out.size HG7.out.size))
                have hb7 : Below lo w6 (w7.setCell ⟨g, i * 2, none⟩ (.slice a7 n7 c7)) := ((HAL6.out.mono (Nat.le_trans HS5.out HS6.out)).grown HG7.out HLO6.out (fun k hk => (HRI.out.1.lt k hk).1)).setCell hg1 _
                have hsz7 : w7.heap.size ≤ (w7.setCell ⟨g, i * 2, none⟩ (.slice a7 n7 c7)).heap.size := ((Below.refl lo w7).setCell (p := ⟨g, i * 2, none⟩) hg1 (.slice a7 n7 c7)).size
                have HT7 := hid (hst.mono (Nat.le_refl _) hsz7)
                have HC7 := hid ((HC6.out.low (hb7.mono hlt0)).more (show s + 4 + 2 ≤ k + 2000 by omega))
                have HD7 := hid (HD6.out.below hb7)
                clear hst hb7 hsz7
                go_wp2
                go_ret
                exact ⟨_, _, rfl, by rw [List.length_set, HLP.out]; omega, HT7.out, HC7.out, HD7.out⟩
            · go_wp2
              go_ret
              exact ⟨_, L, rfl, by rw [HLP.out]; omega, HT5.out.l, HC5.out.more (by omega), HD5.out⟩
        · have hmz : ¬ ((p : Int) > 0) := by omega
          go_wp2
          go_ret
          exact ⟨_, L, rfl, by rw [HLP.out]; omega, HT3.out.l, HC3.out.more (by omega), HD3.out⟩

end Go.Proofs.Ytegeelldcomnnaa
