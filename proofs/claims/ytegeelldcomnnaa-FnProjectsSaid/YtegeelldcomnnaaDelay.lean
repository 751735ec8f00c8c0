/- The end with a delay: slices of tasks of the call's own, whose lists are others'; both programs' functions. -/
import Derived.Test.YtegeelldcomnnaaFloats
namespace Go.Proofs.Ytegeelldcomnnaa
open Go.RowKit
open Go.Lib (hid)

/-- the cells of tasks -/
def flatT : List Value → List Tsk → List Value
  | r :: rs, t :: ts => r :: .int .i64 t.time :: flatT rs ts
  | _, _ => []
theorem flatT_append : ∀ (rs : List Value) (L : List Tsk) (rs' : List Value) (M : List Tsk), rs.length = L.length → flatT (rs ++ rs') (L ++ M) = flatT rs L ++ flatT rs' M := by
  intro rs
  induction rs with
  | nil =>
    intro L rs' M h
    cases L with
    | nil => rfl
    | cons t ts => simp at h
  | cons r rs ih =>
    intro L rs' M h
    cases L with
    | nil => simp at h
    | cons t ts => show r :: _ :: flatT (rs ++ rs') (ts ++ M) = r :: _ :: (flatT rs ts ++ flatT rs' M); rw [ih ts rs' M (by simpa using h)]
theorem flatT_len : ∀ (rs : List Value) (L : List Tsk), rs.length = L.length → (flatT rs L).length = L.length * 2 := by
  intro rs
  induction rs with
  | nil =>
    intro L h
    cases L with
    | nil => rfl
    | cons t ts => simp at h
  | cons r rs ih =>
    intro L h
    cases L with
    | nil => simp at h
    | cons t ts => show (flatT rs ts).length + 1 + 1 = (ts.length + 1) * 2; rw [ih ts (by simpa using h)]; omega
theorem flatT_at : ∀ (rs : List Value) (L : List Tsk), rs.length = L.length → ∀ i, i < L.length → (flatT rs L)[i * 2]? = some (rs.getD i .nilFunc) ∧ (flatT rs L)[i * 2 + 1]? = some (.int .i64 (L.getD i noTsk).time) := by
  intro rs
  induction rs with
  | nil =>
    intro L h i hi
    cases L with
    | nil => simp at hi
    | cons t ts => simp at h
  | cons r rs ih =>
    intro L h i hi
    cases L with
    | nil => simp at h
    | cons t ts =>
      cases i with
      | zero => exact ⟨rfl, rfl⟩
      | succ i =>
        have := ih ts (by simpa using h) i (by simpa using hi)
        rw [show (i + 1) * 2 = i * 2 + 1 + 1 by omega]
        exact this
theorem flatT_set : ∀ (rs : List Value) (L : List Tsk), rs.length = L.length → ∀ (i : Nat) (q : Int), i < L.length → (flatT rs L).set (i * 2 + 1) (.int .i64 q) = flatT rs (L.set i ⟨(L.getD i noTsk).needs, q⟩) := by
  intro rs
  induction rs with
  | nil =>
    intro L h i q hi
    cases L with
    | nil => simp at hi
    | cons t ts => simp at h
  | cons r rs ih =>
    intro L h i q hi
    cases L with
    | nil => simp at h
    | cons t ts =>
      cases i with
      | zero => rfl
      | succ i =>
        rw [show (i + 1) * 2 = i * 2 + 1 + 1 by omega]
        show r :: _ :: (flatT rs ts).set (i * 2 + 1) _ = r :: _ :: flatT rs (ts.set i _)
        rw [ih ts (by simpa using h) i q (by simpa using hi)]
        rfl

/-- v is a slice of tasks in a block of its own from lo on; the lists of its tasks read in w0 -/
def OTasks (w0 w : World) (lo : Nat) (v : Value) (L : List Tsk) : Prop :=
  ∃ rs : List Value, rs.length = L.length ∧ w.ownsRow lo 67 2 v L.length (flatT rs L) ∧ ∀ i, i < L.length → RInts w0 (rs.getD i .nilFunc) (L.getD i noTsk).needs

theorem otasks_nil (w0 w : World) (lo : Nat) : OTasks w0 w lo (.slice none 0 0) [] := ⟨[], rfl, World.ownsRow_nil _ _ _ _, fun i hi => by simp at hi⟩
theorem otasks_empty (w0 w : World) (lo : Nat) (h : lo ≤ w.heap.size) : OTasks w0 (w.alloc (.cells #[] 67)) lo (.slice (some ⟨w.heap.size, 0, none⟩) 0 0) [] :=
  ⟨[], rfl, World.ownsRow_made w #[] 0 h (by unfold maxLen; omega) rfl, fun i hi => by simp at hi⟩
theorem OTasks.keep {w0 w w' : World} {lo : Nat} {v : Value} {L : List Tsk} (h : OTasks w0 w lo v L) (hb : Below w.heap.size w w') : OTasks w0 w' lo v L := by
  obtain ⟨rs, h1, h2, h3⟩ := h
  refine ⟨rs, h1, ⟨h2.1, ?_⟩, h3⟩
  rcases h2.2 with hn | ⟨g, cap, cur, rfl, hb1, hg, rest⟩
  · exact .inl hn
  · exact .inr ⟨g, cap, cur, rfl, hb1, by rw [hb.block g (Array.getElem?_eq_some_iff.1 hg).1]; exact hg, rest⟩
theorem OTasks.form {w0 w : World} {lo : Nat} {v : Value} {L : List Tsk} (h : OTasks w0 w lo v L) : ∃ a n cap, v = .slice a n cap := by
  obtain ⟨rs, h1, h2, h3⟩ := h
  rcases h2.2 with ⟨rfl, _⟩ | ⟨g, cap, cur, rfl, _⟩
  · exact ⟨_, _, _, rfl⟩
  · exact ⟨_, _, _, rfl⟩
theorem OTasks.r {w0 w : World} {lo : Nat} {v : Value} {L : List Tsk} (h : OTasks w0 w lo v L) (hb : Below w0.heap.size w0 w) : RTasks w v L := by
  obtain ⟨rs, h1, h2, h3⟩ := h
  have h2' := h2
  rcases h2.2 with ⟨rfl, hn⟩ | ⟨g, cap, cur, rfl, _, _, hnc, hcm, _⟩
  · have hL : L = [] := List.length_eq_zero_iff.1 hn
    subst hL
    exact ⟨none, 0, rfl, Nat.le_refl _, by unfold maxLen; omega, fun i hi => by simp at hi⟩
  · refine ⟨_, cap, rfl, hnc, hcm, fun i hi => ⟨g, 0, rs.getD i .nilFunc, rfl, ?_, ?_, (h3 i hi).keep hb⟩⟩
    · rw [Nat.zero_add, h2'.cellAt (i * 2) (by omega)]; exact (flatT_at rs L h1 i hi).1
    · rw [Nat.zero_add, h2'.cellAt (i * 2 + 1) (by omega)]; exact (flatT_at rs L h1 i hi).2

theorem Try.infoTask2 : (Try.prog.info? 67).map (fun i => (i.zero, i.size, i.bytes)) = some (some (.agg #[.slice none 0 0, .int .i64 0]), 2, 32) := by kernel_rfl
theorem run_append_tasks {w0 w : World} {lo : Nat} {v : Value} {L M : List Tsk} (ty : TypeId) (h : OTasks w0 w lo v L) {g o c : Nat} {r : Nat → Value}
    (hc : ∀ i, i < M.length → w.cell? ⟨g, o + i * 2, none⟩ = some (r i) ∧ w.cell? ⟨g, o + i * 2 + 1, none⟩ = some (.int .i64 (M.getD i noTsk).time) ∧ RInts w0 (r i) (M.getD i noTsk).needs)
    (hlen : L.length + M.length ≤ 1048576) (hlo : lo ≤ w.heap.size) :
    ∃ v' w', (Builtin.append_ #[52, 52] ty #[v, .slice (some ⟨g, o, none⟩) M.length c]).run Try.prog w = .ok v' w' ∧ OTasks w0 w' lo v' (L ++ M) ∧ w.grownBy w' v.ownBlock := by
  obtain ⟨rs, h1, h2, h3⟩ := h
  obtain ⟨i0, hi0, hz0, hz1, hz2⟩ := info_parts Try.infoTask2
  have hml : ((List.range M.length).map r).length = M.length := by simp
  have hat := flatT_at ((List.range M.length).map r) M hml
  have hgd : ∀ i, i < M.length → ((List.range M.length).map r).getD i .nilFunc = r i := fun i hi => by simp [List.getD, hi]
  have hall : ∀ j u, (flatT ((List.range M.length).map r) M)[j]? = some u → w.cell? ((⟨g, o, none⟩ : Addr).add j) = some u ∧ u.oneCell' = true := by
    intro j u hu
    have hj : j < M.length * 2 := by
      have := (List.getElem?_eq_some_iff.1 hu).1
      rw [flatT_len _ _ hml] at this; exact this
    have hi : j / 2 < M.length := by omega
    obtain ⟨a1, a2⟩ := hat (j / 2) hi
    obtain ⟨b1, b2, b3⟩ := hc (j / 2) hi
    rw [hgd _ hi] at a1
    rw [addr_add]
    rcases Nat.mod_two_eq_zero_or_one j with e | e
    · rw [show j / 2 * 2 = j by omega] at a1 b1
      rw [hu] at a1
      cases a1
      refine ⟨b1, ?_⟩
      obtain ⟨a, cap, hv, _⟩ := b3
      rw [hv]; rfl
    · rw [show j / 2 * 2 + 1 = j by omega] at a2
      rw [hu] at a2
      cases a2
      rw [show o + j / 2 * 2 + 1 = o + j by omega] at b2
      exact ⟨b2, rfl⟩
  obtain ⟨v', w', hr, hown, hg, hn⟩ := run_append_own (P := Try.prog) w lo 52 ty 67 i0 (.agg #[.slice none 0 0, .int .i64 0]) 2 32 Try.underlying52 hi0 hz0 hz1 hz2 rfl (by decide) v L.length (flatT rs L) h2
    ⟨g, o, none⟩ M.length c (flatT ((List.range M.length).map r) M) (flatT_len _ _ hml) (fun j u hu => (hall j u hu).1) (fun u hu => by obtain ⟨j, hj⟩ := List.getElem?_of_mem hu; exact (hall j u hj).2) (by unfold maxLen; omega) (by omega) hlo
  refine ⟨v', w', hr, ⟨rs ++ (List.range M.length).map r, by simp [h1], by rw [List.length_append, flatT_append _ _ _ _ h1]; exact hown, fun i hi => ?_⟩, hg⟩
  rw [List.length_append] at hi
  by_cases e : i < L.length
  · have e1 : (rs ++ (List.range M.length).map r).getD i .nilFunc = rs.getD i .nilFunc := by simp [List.getD, List.getElem?_append_left (show i < rs.length by omega)]
    have e2 : (L ++ M).getD i noTsk = L.getD i noTsk := by simp [List.getD, List.getElem?_append_left e]
    rw [e1, e2]; exact h3 i e
  · have e1 : (rs ++ (List.range M.length).map r).getD i .nilFunc = r (i - L.length) := by
      rw [← hgd _ (show i - L.length < M.length by omega)]
      simp only [List.getD]
      rw [List.getElem?_append_right (by omega), h1]
    have e2 : (L ++ M).getD i noTsk = M.getD (i - L.length) noTsk := by simp only [List.getD]; rw [List.getElem?_append_right (by omega)]
    rw [e1, e2]; exact (hc _ (by omega)).2.2

theorem wpList_append_tasks {w : World} {ops : Array Oper} {rest : List Oper} {o : Oper} {a : Act} {Q : Exit → Act → World → Prop} (hgd : o.guard = none) (s x : Operand)
    (ho : o.op = .call { callee := .builtin .append, args := #[s, x], argTypes := #[52, 52] }) (w0 : World) (lo : Nat) (v : Value) (L M : List Tsk) (g of c : Nat) (r : Nat → Value) (hs : a.eval s = v) (hx : a.eval x = .slice (some ⟨g, of, none⟩) M.length c)
    (h : OTasks w0 w lo v L) (hc : ∀ i, i < M.length → w.cell? ⟨g, of + i * 2, none⟩ = some (r i) ∧ w.cell? ⟨g, of + i * 2 + 1, none⟩ = some (.int .i64 (M.getD i noTsk).time) ∧ RInts w0 (r i) (M.getD i noTsk).needs)
    (hlen : L.length + M.length ≤ 1048576) (hlo : lo ≤ w.heap.size)
    (hh : ∀ v' w', OTasks w0 w' lo v' (L ++ M) → w.grownBy w' v.ownBlock → wpList Try.prog ops Q rest (a.put o.dst v') w') : wpList Try.prog ops Q (o :: rest) a w := by
  refine wpList_plain hgd fun K hK => ?_
  obtain ⟨v', w', hr', h2, h3⟩ := run_append_tasks (c := c) o.type h hc hlen hlo
  unfold Oper.wp execOp
  simp only [ho, resolve, invoke, builtin, Sem.run_bind, Sem.run_pure, Result.andThen_ok, List.map_toArray, List.map_cons, List.map_nil, hs, hx, hr']
  exact hK _ _ (hh v' w' h2 h3)

theorem OTasks.below {w0 w w' a : World} {lo B : Nat} {v : Value} {L : List Tsk} (h : OTasks w0 w lo v L) (hb : Below B a w) (hg : w.grownBy w' v.ownBlock) (hlo : B ≤ lo) (hB : B ≤ w.heap.size) : Below B a w' := by
  obtain ⟨rs, h1, h2, h3⟩ := h
  exact hb.grown hg hB (fun k hk => Nat.le_trans hlo (h2.lt k hk).1)
theorem OTasks.set {w0 w : World} {lo : Nat} {a : Option Addr} {n cap : Nat} {L : List Tsk} (h : OTasks w0 w lo (.slice a n cap) L) {i : Nat} (hi : i < L.length) :
    ∃ g, a = some ⟨g, 0, none⟩ ∧ n = L.length ∧ lo ≤ g ∧ g < w.heap.size ∧ w.cell? ⟨g, i * 2 + 1, none⟩ = some (.int .i64 (L.getD i noTsk).time) ∧ w.frozen? ⟨g, i * 2 + 1, none⟩ = false ∧
      ∀ q, OTasks w0 (w.setCell ⟨g, i * 2 + 1, none⟩ (.int .i64 q)) lo (.slice (some ⟨g, 0, none⟩) n cap) (L.set i ⟨(L.getD i noTsk).needs, q⟩) := by
  obtain ⟨rs, h1, h2, h3⟩ := h
  have h2' := h2
  rcases h2.2 with ⟨hv, hn⟩ | ⟨g, cap', cur, hv, hlo, hg, hnc, hcm, _⟩
  · omega
  · simp only [Value.slice.injEq] at hv
    obtain ⟨rfl, rfl, rfl⟩ := hv
    refine ⟨g, rfl, rfl, hlo, (Array.getElem?_eq_some_iff.1 hg).1, ?_, frozen_of_row _ _ _ _ _ hg, fun q => ⟨rs, by simpa using h1, ?_, fun j hj => ?_⟩⟩
    · rw [h2'.cellAt (i * 2 + 1) (by omega)]; exact (flatT_at rs L h1 i hi).2
    · rw [← flatT_set rs L h1 i q hi, List.length_set]; exact (h2'.stored (i * 2 + 1) _).1
    · rw [List.length_set] at hj
      by_cases e : i = j
      · subst e
        have : (L.set i ⟨(L.getD i noTsk).needs, q⟩).getD i noTsk = ⟨(L.getD i noTsk).needs, q⟩ := by simp [List.getD, hi]
        rw [this]; exact h3 i hi
      · have : (L.set i ⟨(L.getD i noTsk).needs, q⟩).getD j noTsk = L.getD j noTsk := by simp [List.getD, e]
        rw [this]; exact h3 j hj

/-! ### The tasks with a delay -/
def delayF (L : List Tsk) (i : Nat) (d : Int) : List Tsk := L.set i ⟨(L.getD i noTsk).needs, (L.getD i noTsk).time + d⟩
theorem delayF_len (L : List Tsk) (i : Nat) (d : Int) : (delayF L i d).length = L.length := by simp [delayF]
theorem delayF_same {L : List Tsk} {i : Nat} {d : Int} (h : i < L.length) : (delayF L i d).getD i noTsk = ⟨(L.getD i noTsk).needs, (L.getD i noTsk).time + d⟩ := by simp [delayF, List.getD, h]
theorem delayF_other {L : List Tsk} {i j : Nat} {d : Int} (h : i ≠ j) : (delayF L i d).getD j noTsk = L.getD j noTsk := by simp [delayF, List.getD, h]
theorem take_succT {L : List Tsk} {k : Nat} (h : k < L.length) : L.take (k + 1) = L.take k ++ [L.getD k noTsk] := by
  rw [List.take_succ_eq_append_getElem h]; simp [List.getD, List.getElem?_eq_getElem h]
theorem delayF_good {L : List Tsk} (h : tasksB L = true) {i : Nat} {d : Int} (h0 : 0 ≤ d) (h1 : d ≤ 1000) : GoodT (delayF L i d) := by
  have hT := tasksB_at h
  refine ⟨by rw [delayF_len]; exact hT.1, fun k hk => ?_⟩
  rw [delayF_len] at hk
  have hk' := hT.2 k hk
  by_cases e : i = k
  · subst e
    rw [delayF_same hk]
    exact ⟨hk'.1, by show 0 ≤ _ + d; omega, by show _ + d ≤ 2000; omega⟩
  · rw [delayF_other e]; exact ⟨hk'.1, hk'.2.1, by omega⟩
def delayB (L : List Tsk) (i d : Int) : Int × Bool :=
  if tasksB L && (inB i 0 ((L.length : Int) - 1) && inB d 0 1000) then (endF (delayF L i.toNat d) (earlyF (delayF L i.toNat d)), true) else (0, false)
theorem delayB_yes {L : List Tsk} {i d : Int} (h : tasksB L = true) (h1 : inB i 0 ((L.length : Int) - 1) = true) (h2 : inB d 0 1000 = true) : delayB L i d = (endF (delayF L i.toNat d) (earlyF (delayF L i.toNat d)), true) := by rw [delayB, h, h1, h2]; rfl
theorem delayB_no1 {L : List Tsk} {i d : Int} (h : tasksB L = false) : delayB L i d = (0, false) := by rw [delayB, h]; rfl
theorem delayB_no2 {L : List Tsk} {i d : Int} (h : inB i 0 ((L.length : Int) - 1) = false) : delayB L i d = (0, false) := by rw [delayB, h]; simp
theorem delayB_no3 {L : List Tsk} {i d : Int} (h : inB d 0 1000 = false) : delayB L i d = (0, false) := by rw [delayB, h]; simp

set_option maxHeartbeats 400000 in
theorem cloneT_c (v : Value) (L : List Tsk) (w : World) (h : RTasks w v L) (hl : L.length ≤ 1048576) (h0 : 0 < L.length) :
    Calls Try.prog 133 #[v] w fun e w' => ∃ u, e = .returned u ∧ OTasks w w' w.heap.size u L ∧ Below w.heap.size w w' := by
  have hb : Below w.heap.size w (w.alloc (.cells #[] 67)) := (Below.refl _ _).alloc (Nat.le_refl _) _
  have hF := otasks_empty w w w.heap.size (Nat.le_refl _)
  obtain ⟨g, o, cap, r, h1, h2, hv, hc⟩ := rtasks_open h
  obtain rfl := hv h0
  have hc' : ∀ i, i < L.length → (w.alloc (.cells #[] 67)).cell? ⟨g, o + i * 2, none⟩ = some (r i) ∧ (w.alloc (.cells #[] 67)).cell? ⟨g, o + i * 2 + 1, none⟩ = some (.int .i64 (L.getD i noTsk).time) ∧ RInts w (r i) (L.getD i noTsk).needs := by
    intro i hi
    obtain ⟨c1, c2, c3⟩ := hc i hi
    exact ⟨(hb.cell (p := ⟨g, o + i * 2, none⟩) (cell_lt c1)).trans c1, (hb.cell (p := ⟨g, o + i * 2 + 1, none⟩) (cell_lt c2)).trans c2, c3⟩
  have HC := hid hc'
  have HF := hid hF
  have HB := hid hb
  clear hc hc' h hv hF hb
  have hnil := fun w => Lib.run_eql_slice_nil (P := Try.prog) w 52 67 (some ⟨g, o, none⟩) L.length cap 0 0 Try.underlying52
  go_enter Try.func133, Try.ntmps133
  go_wp2_with (at_builtin; refine wpList_append_tasks rfl _ _ rfl w w.heap.size _ [] L g o cap r rfl rfl HF.out HC.out (by simpa using hl) (by simp) ?_; intro v' w' hF' hg)
  go_ret
  exact ⟨_, rfl, hF', HF.out.below HB.out hg (Nat.le_refl _) (by simp)⟩

set_option maxRecDepth 100000 in
set_option maxHeartbeats 2000000 in
theorem iEndWithDelay_u (v : Value) (L : List Tsk) (i d : Int) (w : World) (h : RTasks w v L) :
    Calls Try.prog 56 #[v, .int .i64 i, .int .i64 d] w fun e w' => e = .returned (.tuple #[.int .i64 (delayB L i d).1, .bool (delayB L i d).2]) ∧ Below w.heap.size w w' := by
  have HR := hid h
  obtain ⟨a', cap', rfl, q1', q2', hcc⟩ := h
  clear hcc
  unfold maxLen at q2'
  have f0 : IntKind.i64.wrap ((L.length : Int) - 1) = (L.length : Int) - 1 := IntWalk.i64_in _ (by omega)
  rcases Bool.eq_false_or_eq_true (tasksB L) with t | t
  · rcases Bool.eq_false_or_eq_true (inB i 0 ((L.length : Int) - 1)) with t1 | t1
    · rcases Bool.eq_false_or_eq_true (inB d 0 1000) with t2 | t2
      · have HB := hid (delayB_yes t t1 t2)
        have hi := inB_iff.1 t1
        have hd := inB_iff.1 t2
        have HG := hid (good_of_tasksB t)
        obtain ⟨n, rfl⟩ : ∃ n : Nat, i = (n : Int) := ⟨i.toNat, by omega⟩
        rw [Int.toNat_natCast] at HB
        have hl12 := HG.out.1
        have HD := hid (delayF_good t (i := n) hd.1 hd.2)
        have HOK := hid (earlyF_ok HD.out)
        have HT := hid (HG.out.2 n (by omega)).2
        go_enter Try.func56, Try.ntmps56
        go_wp2_with fail
        refine (areTasks_c _ L _ HR.out).mono ?_
        rintro e w1 ⟨rfl, hb1⟩
        rw [t]
        have H1 := hid (HR.out.keep hb1)
        have HB1 := hid hb1
        clear hb1
        go_wp2_with (go_at_call 98; refine (within_c _ _ _ _).mono ?_; rintro r w' ⟨rfl, rfl⟩)
        refine (cloneT_c _ L _ H1.out (by omega) (by omega)).mono ?_
        rintro e w2 ⟨u, rfl, hF, hb2⟩
        obtain ⟨au, nu, cu, rfl⟩ := hF.form
        obtain ⟨gu, rfl, rfl, hlo, hgs, e1, e2, hset⟩ := hF.set (i := n) (by omega)
        have hT := HT.out
        obtain ⟨tm, htm⟩ : ∃ tm, (L.getD n noTsk).time = tm := ⟨_, rfl⟩
        rw [htm] at e1 hT
        have hFD : OTasks w1 (w2.setCell ⟨gu, n * 2 + 1, none⟩ (.int .i64 (tm + d))) w1.heap.size (.slice (some ⟨gu, 0, none⟩) L.length cu) (delayF L n d) := by
          have := hset (tm + d)
          rw [delayF, htm]; exact this
        have hbs := hb2.setCell (p := ⟨gu, n * 2 + 1, none⟩) hlo (.int .i64 (tm + d))
        have HRD := hid (hFD.r hbs)
        have HBD := hid (HB1.out.trans (hbs.mono HB1.out.size))
        clear hF hset htm hFD hbs hb2
        have f1 : IntKind.i64.wrap (tm + d) = tm + d := IntWalk.i64_in _ (by omega)
        have hnz : (n : Int) < (L.length : Int) := by omega
        go_wp2_with fail
        refine (earliest_c _ _ _ HRD.out HD.out).mono ?_
        rintro e w3 ⟨u3, rfl, hF3, hb3⟩
        have H3 := hid (HRD.out.keep hb3)
        have hU := hF3.r
        have HB3 := hid (HBD.out.trans (hb3.mono HBD.out.size))
        clear hb3 hF3
        go_wp2_with fail
        refine (endOf_c _ _ _ _ _ H3.out hU HOK.out.1 (startsOk_bound HOK.out.2 (by rw [HOK.out.1]; exact HD.out.1)) (good_times HD.out)).mono ?_
        rintro e w4 ⟨rfl, hb4⟩
        have HB4 := hid (HB3.out.trans (hb4.mono HB3.out.size))
        clear hb4 hU
        go_wp2
        go_ret2
        exact ⟨by rw [HB.out]; rfl, HB4.out⟩
      · have HB := hid (delayB_no3 (L := L) (i := i) t2)
        go_enter Try.func56, Try.ntmps56
        go_wp2_with fail
        refine (areTasks_c _ L _ HR.out).mono ?_
        rintro e w1 ⟨rfl, hb1⟩
        rw [t]
        go_wp2_with (go_at_call 98; refine (within_c _ _ _ _).mono ?_; rintro r w' ⟨rfl, rfl⟩)
        go_ret2
        exact ⟨by rw [HB.out]; rfl, hb1⟩
    · have HB := hid (delayB_no2 (d := d) t1)
      go_enter Try.func56, Try.ntmps56
      go_wp2_with fail
      refine (areTasks_c _ L _ HR.out).mono ?_
      rintro e w1 ⟨rfl, hb1⟩
      rw [t]
      go_wp2_with (go_at_call 98; refine (within_c _ _ _ _).mono ?_; rintro r w' ⟨rfl, rfl⟩)
      go_ret2
      exact ⟨by rw [HB.out]; rfl, hb1⟩
  · have HB := hid (delayB_no1 (i := i) (d := d) t)
    go_enter Try.func56, Try.ntmps56
    go_wp2_with fail
    refine (areTasks_c _ L _ HR.out).mono ?_
    rintro e w1 ⟨rfl, hb1⟩
    rw [t]
    go_wp2
    go_ret2
    exact ⟨by rw [HB.out]; rfl, hb1⟩

theorem delay_push {w0 wo : World} {B n k : Nat} {d x : Int} {o r : Value} {y : List Int} {L : List Tsk} (hk : k < L.length) (hkl : L.length ≤ 1048575) (hx : (delayF L n d).getD k noTsk = ⟨y, x⟩) (hF : OTasks w0 wo B o ((delayF L n d).take k)) (hr : RInts w0 r y) (hB : B ≤ wo.heap.size) (hb : Below B w0 wo) :
    OTasks w0 ((wo.alloc (.cells #[r, .int .i64 x] 67)).alloc (.cells #[r, .int .i64 x] 67)) B o ((delayF L n d).take k) ∧
    (∀ i, i < [(⟨y, x⟩ : Tsk)].length → ((wo.alloc (.cells #[r, .int .i64 x] 67)).alloc (.cells #[r, .int .i64 x] 67)).cell? ⟨wo.heap.size + 1, 0 + i * 2, none⟩ = some r ∧
      ((wo.alloc (.cells #[r, .int .i64 x] 67)).alloc (.cells #[r, .int .i64 x] 67)).cell? ⟨wo.heap.size + 1, 0 + i * 2 + 1, none⟩ = some (.int .i64 ([(⟨y, x⟩ : Tsk)].getD i noTsk).time) ∧ RInts w0 r ([(⟨y, x⟩ : Tsk)].getD i noTsk).needs) ∧
    ((delayF L n d).take k).length + [(⟨y, x⟩ : Tsk)].length ≤ 1048576 ∧ B ≤ ((wo.alloc (.cells #[r, .int .i64 x] 67)).alloc (.cells #[r, .int .i64 x] 67)).heap.size ∧
    ∀ w' v', OTasks w0 w' B v' ((delayF L n d).take k ++ [⟨y, x⟩]) → ((wo.alloc (.cells #[r, .int .i64 x] 67)).alloc (.cells #[r, .int .i64 x] 67)).grownBy w' o.ownBlock →
      OTasks w0 w' B v' ((delayF L n d).take (k + 1)) ∧ Below B w0 w' ∧ B ≤ w'.heap.size := by
  have hab : Below wo.heap.size wo ((wo.alloc (.cells #[r, .int .i64 x] 67)).alloc (.cells #[r, .int .i64 x] 67)) := ((Below.refl _ _).alloc (Nat.le_refl _) _).alloc (by simp) _
  have s1 : (wo.alloc (.cells #[r, .int .i64 x] 67)).heap.size = wo.heap.size + 1 := by simp
  have hF' := hF.keep hab
  have hrow : ((wo.alloc (.cells #[r, .int .i64 x] 67)).alloc (.cells #[r, .int .i64 x] 67)).heap[wo.heap.size + 1]? = some (.cells #[r, .int .i64 x] 67) := by rw [← s1, heap_alloc_new]
  refine ⟨hF', fun i hi => ?_, ?_, ?_, fun w' v' h1 hg => ?_⟩
  · obtain rfl : i = 0 := by simp at hi; exact hi
    exact ⟨by rw [cell_of_row _ _ _ _ _ _ hrow]; rfl, by rw [cell_of_row _ _ _ _ _ _ hrow]; rfl, hr⟩
  · rw [List.length_take, delayF_len]; simp; omega
  · simp; omega
  · have hBs := hab.size
    have hb' : Below B w0 ((wo.alloc (.cells #[r, .int .i64 x] 67)).alloc (.cells #[r, .int .i64 x] 67)) := hb.trans (hab.mono hB)
    have hb2 := hF'.below hb' hg (Nat.le_refl _) (by omega)
    rw [take_succT (by rw [delayF_len]; exact hk), hx]
    exact ⟨h1, hb2, by have := hg.size; omega⟩

set_option maxRecDepth 100000 in
set_option maxHeartbeats 4000000 in
theorem sEndWithDelay_u (v : Value) (L : List Tsk) (i d : Int) (w : World) (h : RTasks w v L) :
    Calls Try.prog 57 #[v, .int .i64 i, .int .i64 d] w fun e w' => e = .returned (.tuple #[.int .i64 (delayB L i d).1, .bool (delayB L i d).2]) ∧ Below w.heap.size w w' := by
  have HR := hid h
  obtain ⟨a', cap', rfl, q1', q2', hcc⟩ := h
  clear hcc
  unfold maxLen at q2'
  have f0 : IntKind.i64.wrap ((L.length : Int) - 1) = (L.length : Int) - 1 := IntWalk.i64_in _ (by omega)
  rcases Bool.eq_false_or_eq_true (tasksB L) with t | t
  · rcases Bool.eq_false_or_eq_true (inB i 0 ((L.length : Int) - 1)) with t1 | t1
    · rcases Bool.eq_false_or_eq_true (inB d 0 1000) with t2 | t2
      · have HB := hid (delayB_yes t t1 t2)
        have hi := inB_iff.1 t1
        have hd := inB_iff.1 t2
        have HG := hid (good_of_tasksB t)
        obtain ⟨n, rfl⟩ : ∃ n : Nat, i = (n : Int) := ⟨i.toNat, by omega⟩
        rw [Int.toNat_natCast] at HB
        have hl12 := HG.out.1
        have HD := hid (delayF_good t (i := n) hd.1 hd.2)
        have HOK := hid (earlyF_ok HD.out)
        go_enter Try.func57, Try.ntmps57
        go_wp2_with fail
        refine (pjGood_c _ L _ HR.out).mono ?_
        rintro e w1 ⟨rfl, hb1⟩
        rw [t]
        have H1 := hid (HR.out.keep hb1)
        have HB1 := hid hb1
        clear hb1
        obtain ⟨g, o, cap, r, _, _, hv, hc⟩ := rtasks_open H1.out
        have hv := hv (by omega)
        simp only [Value.slice.injEq, true_and] at hv
        obtain ⟨rfl, rfl⟩ := hv
        have HC := hid hc
        clear hc
        go_wp2_with (go_at_call 103; refine (l1In_c _ _ _ _).mono ?_; rintro r w' ⟨rfl, rfl⟩)
        go_loopg [8, 29] L.length (fun gk u i wr => ∃ k : Nat, k ≤ L.length ∧ gk = L.length - k ∧ i = .int .i64 k ∧ OTasks w1 wr w1.heap.size u ((delayF L n d).take k) ∧ Below w1.heap.size w1 wr ∧ w1.heap.size ≤ wr.heap.size)
        case atStart => exact ⟨0, Nat.zero_le _, rfl, rfl, otasks_nil _ _ _, Below.refl _ _, Nat.le_refl _⟩
        case round =>
          obtain ⟨k, hk, rfl, rfl, hF, hb, hsz⟩ := hrel
          obtain ⟨wo, rfl⟩ : ∃ wo : World, wo = wr := ⟨_, rfl⟩
          by_cases hlt : k < L.length
          · obtain ⟨c1, c2, hy⟩ := HC.out k hlt
            have ht0 := (HG.out.2 k hlt).2
            obtain ⟨tm, htm⟩ : ∃ tm, (L.getD k noTsk).time = tm := ⟨_, rfl⟩
            rw [htm] at c2 ht0
            obtain ⟨y, hyy⟩ : ∃ y, (L.getD k noTsk).needs = y := ⟨_, rfl⟩
            rw [hyy] at hy
            have HY := hid hy
            obtain ⟨ay, cy, hry, _, _, _⟩ := hy
            rw [hry] at c1
            rw [hry] at HY
            have e1 := (hb.cell (p := ⟨g, o + k * 2, none⟩) (cell_lt c1)).trans c1
            have e2 := (hb.cell (p := ⟨g, o + k * 2 + 1, none⟩) (cell_lt c2)).trans c2
            obtain ⟨au, nu, cu, rfl⟩ := hF.form
            have hltz : (k : Int) < (L.length : Int) := by omega
            by_cases hkn : k = n
            · subst hkn
              have hx : (delayF L k d).getD k noTsk = ⟨y, tm + d⟩ := by rw [delayF_same hlt, hyy, htm]
              obtain ⟨p1, p2, p3, p4, p5⟩ := delay_push hlt (by omega) hx hF HY.out hsz hb
              have P1 := hid p1
              have P2 := hid p2
              have P3 := hid p3
              have P4 := hid p4
              have P5 := hid p5
              clear p1 p2 p3 p4 p5 hx hF hb c1 c2 htm hyy hry
              have f1 : IntKind.i64.wrap (tm + d) = tm + d := IntWalk.i64_in _ (by omega)
              go_wp2_with (at_builtin; refine wpList_append_tasks rfl _ _ rfl w1 w1.heap.size _ _ [⟨y, tm + d⟩] _ _ _ (fun _ => _) rfl rfl P1.out P2.out P3.out P4.out ?_; intro v' w' hF' hg)
              obtain ⟨q1, q2, q3⟩ := P5.out _ _ hF' hg
              go_roundg (L.length - (k + 1))
              case rel => exact ⟨k + 1, by omega, rfl, by go_num, q1, q2, q3⟩
              case measure => omega
            · have hx : (delayF L n d).getD k noTsk = ⟨y, tm⟩ := by rw [delayF_other (fun e => hkn e.symm), ← hyy, ← htm]
              obtain ⟨p1, p2, p3, p4, p5⟩ := delay_push hlt (by omega) hx hF HY.out hsz hb
              have P1 := hid p1
              have P2 := hid p2
              have P3 := hid p3
              have P4 := hid p4
              have P5 := hid p5
              clear p1 p2 p3 p4 p5 hx hF hb c1 c2 htm hyy hry
              have hne := beq_nat_false hkn
              go_wp2_with (at_builtin; refine wpList_append_tasks rfl _ _ rfl w1 w1.heap.size _ _ [⟨y, tm⟩] _ _ _ (fun _ => _) rfl rfl P1.out P2.out P3.out P4.out ?_; intro v' w' hF' hg)
              obtain ⟨q1, q2, q3⟩ := P5.out _ _ hF' hg
              go_roundg (L.length - (k + 1))
              case rel => exact ⟨k + 1, by omega, rfl, by go_num, q1, q2, q3⟩
              case measure => omega
          · rw [List.take_of_length_le (by rw [delayF_len]; omega)] at hF
            have HRD := hid (hF.r hb)
            have HBD := hid (HB1.out.trans (hb.mono HB1.out.size))
            obtain ⟨au, nu, cu, rfl⟩ := hF.form
            clear hF hb
            go_wp2_with fail
            refine (pjEarly_c _ _ _ HRD.out HD.out).mono ?_
            rintro e w3 ⟨u3, rfl, hF3, hb3⟩
            have H3 := hid (HRD.out.keep hb3)
            have hU := hF3.r
            have HB3 := hid (HBD.out.trans (hb3.mono HBD.out.size))
            clear hb3 hF3
            go_wp2_with fail
            refine (pjEnd_c _ _ _ _ _ H3.out hU HOK.out.1 (startsOk_bound HOK.out.2 (by rw [HOK.out.1]; exact HD.out.1)) (good_times HD.out)).mono ?_
            rintro e w4 ⟨rfl, hb4⟩
            have HB4 := hid (HB3.out.trans (hb4.mono HB3.out.size))
            clear hb4 hU
            go_wp2
            go_ret2
            exact ⟨by rw [HB.out]; rfl, HB4.out⟩
      · have HB := hid (delayB_no3 (L := L) (i := i) t2)
        go_enter Try.func57, Try.ntmps57
        go_wp2_with fail
        refine (pjGood_c _ L _ HR.out).mono ?_
        rintro e w1 ⟨rfl, hb1⟩
        rw [t]
        go_wp2_with (go_at_call 103; refine (l1In_c _ _ _ _).mono ?_; rintro r w' ⟨rfl, rfl⟩)
        go_ret2
        exact ⟨by rw [HB.out]; rfl, hb1⟩
    · have HB := hid (delayB_no2 (d := d) t1)
      go_enter Try.func57, Try.ntmps57
      go_wp2_with fail
      refine (pjGood_c _ L _ HR.out).mono ?_
      rintro e w1 ⟨rfl, hb1⟩
      rw [t]
      go_wp2_with (go_at_call 103; refine (l1In_c _ _ _ _).mono ?_; rintro r w' ⟨rfl, rfl⟩)
      go_ret2
      exact ⟨by rw [HB.out]; rfl, hb1⟩
  · have HB := hid (delayB_no1 (i := i) (d := d) t)
    go_enter Try.func57, Try.ntmps57
    go_wp2_with fail
    refine (pjGood_c _ L _ HR.out).mono ?_
    rintro e w1 ⟨rfl, hb1⟩
    rw [t]
    go_wp2
    go_ret2
    exact ⟨by rw [HB.out]; rfl, hb1⟩

end Go.Proofs.Ytegeelldcomnnaa
