/- Visitors: a function value that is called again and again by a function that makes memory of its own: what is asked of it; the choices of k of n points. -/
import Derived.Test.YtnkbfgnmodfemaaGreatDoorAppend
import Derived.Test.YtnkbfgnmodfemaaGreatDoorMat
import Derived.RangeFuncBox
import Derived.Deep.AppendLies
import Derived.Laws.EntriesVeiled
namespace Go.Proofs.YtnkbfgnmodfemaaGreatDoor
open Go.RowKit
open Go.Lib (hid)

/-- what lies in S is as it was -/
structure KeepOn (S : Nat → Prop) (w w' : World) : Prop where
  os : w'.os = w.os
  tape : w'.tape = w.tape
  output : w'.output = w.output
  size : w.heap.size ≤ w'.heap.size
  block : ∀ b, b < w.heap.size → S b → w'.heap[b]? = w.heap[b]?
theorem KeepOn.refl (S : Nat → Prop) (w : World) : KeepOn S w w := ⟨rfl, rfl, rfl, Nat.le_refl _, fun _ _ _ => rfl⟩
theorem KeepOn.trans {S : Nat → Prop} {a b c : World} (h : KeepOn S a b) (k : KeepOn S b c) : KeepOn S a c :=
  ⟨k.os.trans h.os, k.tape.trans h.tape, k.output.trans h.output, Nat.le_trans h.size k.size, fun i hi hs => (k.block i (Nat.lt_of_lt_of_le hi h.size) hs).trans (h.block i hi hs)⟩
theorem KeepOn.mono {S T : Nat → Prop} {w w' : World} (h : KeepOn S w w') (hs : ∀ b, b < w.heap.size → T b → S b) : KeepOn T w w' := ⟨h.os, h.tape, h.output, h.size, fun b hb ht => h.block b hb (hs b hb ht)⟩
theorem KeepOn.of_below {S : Nat → Prop} {w w' : World} (h : Below w.heap.size w w') : KeepOn S w w' := ⟨h.os, h.tape, h.output, h.size, fun b hb _ => h.block b hb⟩
theorem KeepOn.of_grown {S : Nat → Prop} {w w' : World} {row : Option Nat} (h : w.grownBy w' row) (hs : ∀ b, row = some b → ¬ S b) : KeepOn S w w' := ⟨h.os, h.tape, h.output, h.size, fun b hb ht => h.block b hb (fun e => hs b e.symm ht)⟩
theorem KeepOn.below {S : Nat → Prop} {w w' : World} {B : Nat} (h : KeepOn S w w') (hs : ∀ b, b < B → S b) (hB : B ≤ w.heap.size) : Below B w w' := ⟨h.os, h.tape, h.output, h.size, fun b hb => h.block b (by omega) (hs b hb)⟩
theorem KeepOn.drewN {S : Nat → Prop} {a w : World} (h : KeepOn S a w) (n : Nat) : KeepOn S a (w.drewN n) := ⟨h.os, h.tape, h.output, h.size, h.block⟩
theorem KeepOn.set {S : Nat → Prop} (w : World) (b : Nat) (v : Value) (hs : ¬ S b) : KeepOn S w (w.setCell ⟨b, 0, none⟩ v) :=
  ⟨rfl, rfl, rfl, by simp [World.setCell], fun c _ hc => heap_setCell_other _ _ _ _ (fun e => hs (by have e' : c = b := e; rw [← e']; exact hc))⟩

/-- a visitor returned: whether to go on; its state; its blocks D' -/
def RetV {σ : Type} (V : σ → World → (Nat → Prop) → Prop) (D : Nat → Prop) (w : World) (b : Bool) (s : σ) (e : Ending) (w' : World) : Prop :=
  ∃ D' : Nat → Prop, e = .returned (.bool b) ∧ V s w' D' ∧ (∀ c, D' c → c < w'.heap.size ∧ (D c ∨ w.heap.size ≤ c)) ∧ KeepOn (fun c => ¬ D c) w w'
/-- what is asked of a visitor F, from block h on others work -/
structure Vis (σ : Type) (h : Nat) (F : Nat) (caps : Array Value) (ok : σ → List Int → Bool) (step : σ → List Int → σ) (V : σ → World → (Nat → Prop) → Prop) (pre : List Int → Prop) : Prop where
  enter : ∀ args w, (callFunc F args).run Tryz.prog w = .ok (.enter F args) w
  frame : ∀ s w w' D, V s w D → KeepOn (fun b => b < h ∨ D b) w w' → V s w' D
  call : ∀ s w D v xs, V s w D → RInts w v xs → pre xs → h ≤ w.heap.size → Calls Tryz.prog F (#[v] ++ caps) w (RetV V D w (ok s xs) (step s xs))

section
variable {σ : Type} (ok : σ → List Int → Bool) (step : σ → List Int → σ)
/-- a loop over i, as long as it says yes -/
def loopR (f : Nat → σ → Bool × σ) : Nat → Nat → σ → Bool × σ
  | 0, _, s => (true, s)
  | m + 1, i, s => if (f i s).1 then loopR f m (i + 1) (f i s).2 else (false, (f i s).2)
theorem loopR_zero (f : Nat → σ → Bool × σ) (i : Nat) (s : σ) : loopR f 0 i s = (true, s) := rfl
theorem loopR_yes {f : Nat → σ → Bool × σ} {m i : Nat} {s : σ} (h : (f i s).1 = true) : loopR f (m + 1) i s = loopR f m (i + 1) (f i s).2 := by rw [loopR, if_pos h]
theorem loopR_no {f : Nat → σ → Bool × σ} {m i : Nat} {s : σ} (h : (f i s).1 = false) : loopR f (m + 1) i s = (false, (f i s).2) := by rw [loopR, if_neg (by rw [h]; simp)]
/-- all choices of k of n behind xs, from first on -/
def nextR (n k : Nat) : Nat → Nat → List Int → σ → Bool × σ
  | 0, _, xs, s => if xs.length = k then (ok s xs, step s xs) else (true, s)
  | d + 1, first, xs, s => if xs.length = k then (ok s xs, step s xs) else loopR (fun i s => nextR n k d (i + 1) (xs ++ [(i : Int)]) s) (n - first) first s
theorem nextR_yes {n k d first : Nat} {xs : List Int} {s : σ} (h : xs.length = k) : nextR ok step n k d first xs s = (ok s xs, step s xs) := by
  cases d <;> simp [nextR, h]
theorem nextR_no {n k d first : Nat} {xs : List Int} {s : σ} (h : ¬ xs.length = k) : nextR ok step n k (d + 1) first xs s = loopR (fun i s => nextR ok step n k d (i + 1) (xs ++ [(i : Int)]) s) (n - first) first s := by
  simp [nextR, h]
theorem nextR_end {n k first : Nat} {xs : List Int} {s : σ} (h : ¬ xs.length = k) (hf : n ≤ first) (d : Nat) : nextR ok step n k d first xs s = (true, s) := by
  cases d with
  | zero => simp [nextR, h]
  | succ d => rw [nextR_no ok step h, show n - first = 0 by omega, loopR_zero]
end

theorem fints_new {w : World} {lo hi : Nat} {v : Value} {xs : List Int} (h : FInts w lo hi v xs) : FInts w lo w.heap.size v xs := ⟨h.1, fun g hg => (h.1.lt g hg).2⟩
theorem fints_len3 {w : World} {lo hi : Nat} {a : Option Addr} {m c : Nat} {xs : List Int} (h : FInts w lo hi (.slice a m c) xs) : m = xs.length := by
  obtain ⟨a', c', hv, _⟩ := own_form h.1
  simp only [Value.slice.injEq] at hv
  exact hv.2.1
theorem fints_pos {w : World} {lo hi : Nat} {v : Value} {xs : List Int} (h : FInts w lo hi v xs) (h0 : 0 < xs.length) : ∃ g c, v = .slice (some ⟨g, 0, none⟩) xs.length c := by
  obtain ⟨a, cap, rfl⟩ := h.form
  obtain ⟨g, x, rfl, _⟩ := h.at (i := 0) h0
  exact ⟨g, cap, rfl⟩
theorem fints_pop {w : World} {lo hi m cap : Nat} {a : Option Addr} {xs : List Int} {x : Int} (h : FInts w lo hi (.slice a (m + 1) cap) (xs ++ [x])) : FInts w lo hi (.slice a m cap) xs := by
  have hm : m = xs.length := by have := h.form; obtain ⟨_, _, e⟩ := this; simp only [Value.slice.injEq] at e; simp at e; omega
  subst hm
  refine ⟨⟨by simp, ?_⟩, fun g hg => h.2 g (by cases a with | none => simp [Value.ownBlock] at hg | some a => exact hg)⟩
  rcases h.1.2 with ⟨hv, hn⟩ | ⟨g, cap', cur, hv, hb, hg, hnc, hcm, hcs, ht⟩
  · simp at hn
  · simp only [Value.slice.injEq] at hv
    obtain ⟨rfl, _, rfl⟩ := hv
    refine .inr ⟨g, cap, cur, rfl, hb, hg, by simp at hnc; omega, hcm, hcs, ?_⟩
    have h1 := congrArg (List.take xs.length) ht
    rw [List.take_take] at h1
    simp at h1
    rw [Nat.mul_one]
    exact h1

/-- the boxes of choices, from block h on, and the list that it has come to -/
structure ChSt (h n k : Nat) (F : Nat) (caps : Array Value) (D : Nat → Prop) (w : World) (xs : List Int) (lv : Value) : Prop where
  bn : Boxed w h 3 (.int .i64 n)
  bk : Boxed w (h + 1) 3 (.int .i64 k)
  bv : Boxed w (h + 2) 78 (.func (.func F) #[] caps)
  bl : Boxed w (h + 4) 27 lv
  bx : Boxed w (h + 5) 64 (.func (.func 92) #[] #[.pointer (some ⟨h + 4, 0, none⟩), .pointer (some ⟨h + 1, 0, none⟩), .pointer (some ⟨h + 2, 0, none⟩), .pointer (some ⟨h, 0, none⟩), .pointer (some ⟨h + 5, 0, none⟩)])
  row : FInts w (h + 3) w.heap.size lv xs
  no : ∀ j, j < 6 → ¬ D (h + j)
  nor : ∀ g, lv.ownBlock = some g → ¬ D g
  dlt : ∀ b, D b → b < w.heap.size
/-- what the choices' own blocks are, and what is kept -/
theorem ChSt.lt {h n k F : Nat} {caps : Array Value} {D : Nat → Prop} {w : World} {xs : List Int} {lv : Value} (c : ChSt h n k F caps D w xs lv) : h + 5 < w.heap.size := c.bx.lt
theorem ChSt.rowne {h n k F : Nat} {caps : Array Value} {D : Nat → Prop} {w : World} {xs : List Int} {lv : Value} (c : ChSt h n k F caps D w xs lv) : ∀ g, lv.ownBlock = some g → g = h + 3 ∨ h + 6 ≤ g := by
  intro g hg
  have h1 := (c.row.1.lt g hg).1
  have h2 := c.bl.not_row (by decide) c.row.1
  have h3 := c.bx.not_row (by decide) c.row.1
  rw [hg] at h2 h3
  simp only [ne_eq, Option.some.injEq] at h2 h3
  omega
/-- another's step -/
theorem ChSt.step {h n k F : Nat} {caps : Array Value} {D D' : Nat → Prop} {w w' : World} {xs : List Int} {lv : Value} (c : ChSt h n k F caps D w xs lv) (hk : KeepOn (fun b => ¬ D b) w w') (hD : ∀ b, D' b → b < w'.heap.size ∧ (D b ∨ w.heap.size ≤ b)) : ChSt h n k F caps D' w' xs lv := by
  have hlt := c.lt
  have old : ∀ j, j < 6 → w'.heap[h + j]? = w.heap[h + j]? := fun j hj => hk.block _ (by omega) (c.no j hj)
  refine ⟨(old 0 (by omega)).trans c.bn, (old 1 (by omega)).trans c.bk, (old 2 (by omega)).trans c.bv, (old 4 (by omega)).trans c.bl, (old 5 (by omega)).trans c.bx, ?_, fun j hj hd => ?_, fun g hg hd => ?_, fun b hb => (hD b hb).1⟩
  · exact fints_new ⟨own_same c.row.1 (fun g hg => hk.block g (c.row.1.lt g hg).2 (c.nor g hg)), fun g hg => Nat.lt_of_lt_of_le (c.row.1.lt g hg).2 hk.size⟩
  · rcases (hD _ hd).2 with h1 | h1
    · exact c.no j hj h1
    · omega
  · rcases (hD _ hd).2 with h1 | h1
    · exact c.nor g hg h1
    · have := (c.row.1.lt g hg).2; omega

theorem ChSt.push {h n k F : Nat} {caps : Array Value} {D : Nat → Prop} {w w1 : World} {xs : List Int} {lv : Value} {x : Int} {g cap : Nat} (c : ChSt h n k F caps D w xs lv)
    (hF : FInts w1 (h + 3) w1.heap.size (.slice (some ⟨g, 0, none⟩) (xs.length + 1) cap) (xs ++ [x])) (hg : (w.alloc (.cells #[.int .i64 x] 3)).grownBy w1 lv.ownBlock) (hat : lv.ownBlock = some g ∨ g = w.heap.size + 1) :
    (Boxed w1 (h + 4) 27 lv ∧ w1.cell? ⟨h + 5, 0, none⟩ = some (.func (.func 92) #[] #[.pointer (some ⟨h + 4, 0, none⟩), .pointer (some ⟨h + 1, 0, none⟩), .pointer (some ⟨h + 2, 0, none⟩), .pointer (some ⟨h, 0, none⟩), .pointer (some ⟨h + 5, 0, none⟩)])) ∧
    ChSt h n k F caps D (w1.setCell ⟨h + 4, 0, none⟩ (.slice (some ⟨g, 0, none⟩) (xs.length + 1) cap)) (xs ++ [x]) (.slice (some ⟨g, 0, none⟩) (xs.length + 1) cap) ∧
    KeepOn (fun b => b < h ∨ D b) w (w1.setCell ⟨h + 4, 0, none⟩ (.slice (some ⟨g, 0, none⟩) (xs.length + 1) cap)) := by
  have hlt := c.lt
  have hF' : w1.ownsRow (h + 3) 3 1 (.slice (some ⟨g, 0, none⟩) (xs.length + 1) cap) (xs.length + 1) ((xs ++ [x]).map (Value.int .i64)) := by simpa using hF.1
  obtain ⟨b1, b2, b3, b4, b5⟩ := c.bl.appended (by decide) c.row.1 (by omega) (by omega) hF' hg
  have hrow := c.rowne
  have hx1 : Boxed w1 (h + 5) _ _ := (c.bx.alloc _).kept hg (c.bx.not_row (by decide) c.row.1)
  have hs2 : (w1.setCell ⟨h + 4, 0, none⟩ (.slice (some ⟨g, 0, none⟩) (xs.length + 1) cap)).heap.size = w1.heap.size := by simp [World.setCell]
  have hsz : w.heap.size + 1 ≤ w1.heap.size := by have := hg.size; simpa using this
  have hnd4 : ¬ D (h + 4) := c.no 4 (by omega)
  refine ⟨⟨b1, hx1.cell⟩, ⟨(b5.block h (by omega)).trans c.bn, (b5.block (h + 1) (by omega)).trans c.bk, (b5.block (h + 2) (by omega)).trans c.bv, b2, ?_, fints_new ⟨by simpa using b3, hF.2⟩, c.no, fun g' hg' => ?_, fun b hb => ?_⟩, ?_⟩
  · show (w1.setCell _ _).heap[h + 5]? = _
    rw [heap_setCell_other _ _ _ _ (by show h + 5 ≠ h + 4; omega)]; exact hx1
  · simp only [Value.ownBlock, Option.some.injEq] at hg'
    subst hg'
    rcases hat with e | e
    · exact c.nor _ e
    · intro hd; have := c.dlt _ hd; omega
  · have := c.dlt b hb; omega
  · refine ((KeepOn.of_below (w' := w.alloc (.cells #[.int .i64 x] 3)) ((Below.refl _ _).alloc (Nat.le_refl _) _)).trans (KeepOn.of_grown hg (fun b hb hS => ?_))).trans (KeepOn.set _ _ _ (by intro hS; rcases hS with e | e; omega; exact hnd4 e))
    rcases hS with e | e
    · have := hrow b hb; omega
    · exact c.nor b hb e
theorem ChSt.pop {h n k F : Nat} {caps : Array Value} {D : Nat → Prop} {w : World} {xs : List Int} {x : Int} {a : Option Addr} {m cap : Nat} (c : ChSt h n k F caps D w (xs ++ [x]) (.slice a (m + 1) cap)) :
    ChSt h n k F caps D (w.setCell ⟨h + 4, 0, none⟩ (.slice a m cap)) xs (.slice a m cap) ∧ KeepOn (fun b => b < h ∨ D b) w (w.setCell ⟨h + 4, 0, none⟩ (.slice a m cap)) := by
  have hnd4 : ¬ D (h + 4) := c.no 4 (by omega)
  have oth : ∀ b, b ≠ h + 4 → (w.setCell ⟨h + 4, 0, none⟩ (.slice a m cap)).heap[b]? = w.heap[b]? := fun b hb => heap_setCell_other _ _ _ _ hb
  have hob : ∀ g, (Value.slice a m cap).ownBlock = some g → (Value.slice a (m + 1) cap).ownBlock = some g := fun g hg => by
    cases a with
    | none => simp [Value.ownBlock] at hg
    | some a => exact hg
  have hpop := fints_pop c.row
  refine ⟨⟨(oth _ (by omega)).trans c.bn, (oth _ (by omega)).trans c.bk, (oth _ (by omega)).trans c.bv, c.bl.set _, (oth _ (by omega)).trans c.bx, ?_, c.no, fun g hg => c.nor g (hob g hg), fun b hb => by simpa [World.setCell] using c.dlt b hb⟩, KeepOn.set _ _ _ (by intro hS; rcases hS with e | e; omega; exact hnd4 e)⟩
  refine fints_new (hi := w.heap.size) ⟨own_same hpop.1 (fun g hg => oth g ?_), hpop.2⟩
  have := c.rowne g (hob g hg); omega

theorem wpList_push_int {w : World} {ops : Array Oper} {rest : List Oper} {o : Oper} {a : Act} {Q : Exit → Act → World → Prop} (hgd : o.guard = none) (s x : Operand)
    (ho : o.op = .call { callee := .builtin .append, args := #[s, x], argTypes := #[27, 27] }) (lo hi : Nat) (v : Value) (xs : List Int) (y : Int) (b : Nat) (hs : a.eval s = v) (hx : a.eval x = .slice (some ⟨b, 0, none⟩) 1 1)
    (hF : FInts w lo hi v xs) (hc : w.cell? ⟨b, 0, none⟩ = some (.int .i64 y)) (hlen : xs.length + 1 ≤ 1099511627776) (hlo : lo ≤ w.heap.size)
    (h : ∀ g cap w', FInts w' lo w'.heap.size (.slice (some ⟨g, 0, none⟩) (xs.length + 1) cap) (xs ++ [y]) → w.grownBy w' v.ownBlock → (v.ownBlock = some g ∨ g = w.heap.size) → wpList Tryz.prog ops Q rest (a.put o.dst (.slice (some ⟨g, 0, none⟩) (xs.length + 1) cap)) w') : wpList Tryz.prog ops Q (o :: rest) a w := by
  obtain ⟨i0, hi0, hz0, hz1, hz2⟩ := info_parts Tryz.infoInt
  refine wpList_append_lies (P := Tryz.prog) w hgd s x 27 ho lo 3 i0 (.int .i64 0) 1 8 Tryz.underlying27 hi0 hz0 hz1 hz2 rfl (by decide) v xs.length (xs.map (.int .i64)) hs hF.1 ⟨b, 0, none⟩ 1 1 [.int .i64 y] hx (by simp) (fun j u hu => ?_) (by simp [Value.oneCell']) (by decide) (by unfold maxLen; omega) (by omega) hlo _ rfl (fun g cap w' h1 h2 h3 h4 => h g cap w' ⟨?_, fun g' hg' => (h1.lt g' hg').2⟩ h2 h3)
  · cases j with
    | zero => simp at hu; subst hu; rw [addr_add]; exact hc
    | succ j => simp at hu
  · rw [List.length_append, List.map_append]; exact h1

/-- a result of the choices behind a beginning xs -/
def RetCh {σ : Type} (h n k F : Nat) (caps : Array Value) (V : σ → World → (Nat → Prop) → Prop) (D : Nat → Prop) (w : World) (xs : List Int) (p : Bool × σ) (e : Ending) (w' : World) : Prop :=
  ∃ D' : Nat → Prop, e = .returned (.bool p.1) ∧ V p.2 w' D' ∧ (∀ c, D' c → c < w'.heap.size ∧ (D c ∨ w.heap.size ≤ c)) ∧ KeepOn (fun c => c < h ∧ ¬ D c) w w' ∧ (p.1 = true → ∃ lv, ChSt h n k F caps D' w' xs lv)

set_option maxRecDepth 100000 in
set_option maxHeartbeats 4000000 in
theorem choices1_c {σ : Type} {ok : σ → List Int → Bool} {step : σ → List Int → σ} {V : σ → World → (Nat → Prop) → Prop} {pre : List Int → Prop} {h F : Nat} {caps : Array Value} (n k : Nat) (hn : n ≤ 1000) (hk : k ≤ 1000)
    (HV : Vis σ h F caps ok step V pre) (hpre : ∀ xs : List Int, xs.length = k → (∀ x ∈ xs, 0 ≤ x ∧ x < (n : Int)) → xs.Pairwise (· < ·) → pre xs) :
    ∀ (d first : Nat) (xs : List Int) (lv : Value) (s : σ) (D : Nat → Prop) (w : World), n - first ≤ d → first ≤ n → xs.length ≤ first → (∀ x ∈ xs, 0 ≤ x ∧ x < (first : Int)) → xs.Pairwise (· < ·) → ChSt h n k F caps D w xs lv → V s w D →
      Calls Tryz.prog 92 #[.int .i64 first, .pointer (some ⟨h + 4, 0, none⟩), .pointer (some ⟨h + 1, 0, none⟩), .pointer (some ⟨h + 2, 0, none⟩), .pointer (some ⟨h, 0, none⟩), .pointer (some ⟨h + 5, 0, none⟩)] w
        (RetCh h n k F caps V D w xs (nextR ok step n k d first xs s)) := by
  intro d
  induction d with
  | zero =>
    intro first xs lv s D w hd hf hl hx hp hc hV
    obtain rfl : first = n := by omega
    obtain ⟨al, ml, cl, rfl⟩ := hc.row.form3
    obtain rfl := fints_len3 hc.row
    have e1 := hc.bl.cell
    have e2 := hc.bk.cell
    have e3 := hc.bv.cell
    have e4 := hc.bn.cell
    have henter := HV.enter
    have HC := hid hc
    have HVV := hid hV
    have HX := hid (And.intro hx hp)
    clear hc hV hx hp
    by_cases t : xs.length = k
    · subst t
      have HP := hid (hpre xs rfl (fun x hx => by have := HX.out.1 x hx; omega) HX.out.2)
      have HR := hid (nextR_yes ok step (n := first) (d := 0) (first := first) (xs := xs) (s := s) rfl)
      go_enter Tryz.func92, Tryz.ntmps92
      go_wp2
      refine (HV.call s w D _ xs HVV.out HC.out.row.r HP.out (by have := HC.out.lt; omega)).mono ?_
      rintro e w1 ⟨D1, rfl, hV1, hD1, hk1⟩
      have H1 := hid hV1
      clear hV1
      go_wp2
      go_ret
      exact ⟨D1, by rw [HR.out]; rfl, by rw [HR.out]; exact H1.out, hD1, hk1.mono (fun b _ h => h.2), fun _ => ⟨_, HC.out.step hk1 hD1⟩⟩
    · have tt := beq_nat_false t
      have HR := hid (nextR_end ok step (n := first) (first := first) (s := s) t (Nat.le_refl _) 0)
      go_enter Tryz.func92, Tryz.ntmps92
      go_wp2
      go_loopg [8] 0 (fun gk iv wr => gk = 0 ∧ iv = .int .i64 first ∧ wr = w)
      case atStart => exact ⟨rfl, rfl, rfl⟩
      case round =>
        obtain ⟨rfl, rfl, rfl⟩ := hrel
        go_wp2
        go_ret
        exact ⟨D, by rw [HR.out]; rfl, by rw [HR.out]; exact HVV.out, fun c hc => ⟨HC.out.dlt c hc, .inl hc⟩, KeepOn.refl _ _, fun _ => ⟨_, HC.out⟩⟩
  | succ d ih =>
    intro first xs lv s D w hd hf hl hx hp hc hV
    have IH := hid ih
    clear ih
    obtain ⟨al, ml, cl, rfl⟩ := hc.row.form3
    obtain rfl := fints_len3 hc.row
    have e1 := hc.bl.cell
    have e2 := hc.bk.cell
    have e3 := hc.bv.cell
    have henter := HV.enter
    have HC := hid hc
    have HVV := hid hV
    have HX := hid (And.intro hx hp)
    clear hc hV hx hp
    by_cases t : xs.length = k
    · subst t
      have HP := hid (hpre xs rfl (fun x hx => by have := HX.out.1 x hx; omega) HX.out.2)
      have HR := hid (nextR_yes ok step (n := n) (d := d + 1) (first := first) (xs := xs) (s := s) rfl)
      go_enter Tryz.func92, Tryz.ntmps92
      go_wp2
      refine (HV.call s w D _ xs HVV.out HC.out.row.r HP.out (by have := HC.out.lt; omega)).mono ?_
      rintro e w1 ⟨D1, rfl, hV1, hD1, hk1⟩
      have H1 := hid hV1
      clear hV1
      go_wp2
      go_ret
      exact ⟨D1, by rw [HR.out]; rfl, by rw [HR.out]; exact H1.out, hD1, hk1.mono (fun b _ h => h.2), fun _ => ⟨_, HC.out.step hk1 hD1⟩⟩
    · have tt := beq_nat_false t
      have HR := hid (nextR_no ok step (n := n) (d := d) (first := first) (s := s) t)
      clear henter e3
      obtain ⟨f, hf'⟩ : ∃ f : Nat → σ → Bool × σ, f = fun i s => nextR ok step n k d (i + 1) (xs ++ [(i : Int)]) s := ⟨_, rfl⟩
      rw [← hf'] at HR
      have HFF : Hid (∀ i s, f i s = nextR ok step n k d (i + 1) (xs ++ [(i : Int)]) s) := fun i s => by rw [hf']
      clear hf'
      go_enter Tryz.func92, Tryz.ntmps92
      go_wp2
      clear e1 e2
      go_loopg [8] (n - first) (fun gk iv wr => ∃ i : Nat, ∃ s' : σ, ∃ D' : Nat → Prop, ∃ lv', first ≤ i ∧ i ≤ n ∧ gk = n - i ∧ iv = .int .i64 i ∧ nextR ok step n k (d + 1) first xs s = loopR f (n - i) i s' ∧ ChSt h n k F caps D' wr xs lv' ∧ V s' wr D' ∧ (∀ c, D' c → D c ∨ w.heap.size ≤ c) ∧ KeepOn (fun c => c < h ∧ ¬ D c) w wr)
      case atStart => exact ⟨first, s, D, _, Nat.le_refl _, hf, rfl, rfl, HR.out, HC.out, HVV.out, fun c hc => .inl hc, KeepOn.refl _ _⟩
      case round =>
        obtain ⟨i, s1, D1, lv1, hi0, hi, rfl, rfl, hr, hc, hV, hD, hkp⟩ := hrel
        have HRR := hid hr
        have HV1 := hid hV
        have HD1 := hid hD
        have HKP := hid hkp
        have HC1 := hid hc
        have e4 := hc.bn.cell
        clear hr hV hD hkp
        by_cases hlt : i < n
        · obtain ⟨a1, m1, c1, rfl⟩ := hc.row.form3
          obtain rfl := fints_len3 hc.row
          have e1 := hc.bl.cell
          have hF0 := hc.row.keep ((Below.refl _ _).alloc (Nat.le_refl _) (.cells #[.int .i64 (i : Int)] 3))
          have hcn := cell_new wr (.int .i64 (i : Int)) 3
          have hlo : h + 3 ≤ (wr.alloc (.cells #[.int .i64 (i : Int)] 3)).heap.size := by have := hc.lt; simp; omega
          have hlt' : (i : Int) < (n : Int) := by omega
          have HXI := hid (show (∀ x ∈ xs ++ [(i : Int)], 0 ≤ x ∧ x < ((i + 1 : Nat) : Int)) ∧ (xs ++ [(i : Int)]).Pairwise (· < ·) from ⟨fun x hx => by
            rcases List.mem_append.1 hx with h1 | h1
            · have := HX.out.1 x h1; omega
            · simp at h1; omega, by
            rw [List.pairwise_append]
            refine ⟨HX.out.2, by simp, fun a ha b hb => ?_⟩
            simp at hb
            have := HX.out.1 a ha; omega⟩)
          clear hc
          go_wp2_with (at_builtin; refine wpList_push_int rfl _ _ rfl (h + 3) _ _ xs (i : Int) _ rfl rfl hF0 hcn (by omega) hlo ?_; intro g1 cap1 w1 hF1 hg1 hat1; obtain ⟨⟨hb1, hb2⟩, hb3, hb4⟩ := HC1.out.push hF1 hg1 (hat1.imp id (fun e => by simpa using e)); have hc1 := hb1.cell; have hf1 := hb1.frozen; have HB3 := hid hb3; have HB4 := hid hb4; clear hb1 hb3 hb4 hF1 hg1 hat1)
          have hnum : ((i + 1 : Nat) : Int) = (i : Int) + 1 := by omega
          have hcall := IH.out (i + 1) (xs ++ [(i : Int)]) _ s1 D1 _ (by omega) (by omega) (by simp; omega) HXI.out.1 HXI.out.2 HB3.out (HV.frame _ _ _ _ HV1.out HB4.out)
          rw [hnum, ← HFF.out i s1] at hcall
          clear hnum
          refine hcall.mono ?_
          clear hcall
          rintro e w3 ⟨D3, rfl, hV3, hD3, hk3, hc3⟩
          have hsw : w.heap.size ≤ wr.heap.size := HKP.out.size
          have hDD : ∀ c, D3 c → D c ∨ w.heap.size ≤ c := fun c hc => by
            rcases (hD3 c hc).2 with h1 | h1
            · exact HD1.out c h1
            · have := HB4.out.size; omega
          have hkk : KeepOn (fun c => c < h ∧ ¬ D c) w w3 := (HKP.out.trans (HB4.out.mono (fun b _ hb => .inl hb.1))).trans (hk3.mono (fun b _ hb => ⟨hb.1, fun hd => by
            rcases HD1.out b hd with h1 | h1
            · exact hb.2 h1
            · have := HC.out.lt; omega⟩))
          rcases Bool.eq_false_or_eq_true (f i s1).1 with t3 | t3
          · rw [t3]
            obtain ⟨lv3, hc3⟩ := hc3 t3
            obtain ⟨g3, c3, rfl⟩ := fints_pos hc3.row (by simp)
            have hl3 : (xs ++ [(i : Int)]).length = xs.length + 1 := by simp
            rw [hl3] at hc3
            have e5 := hc3.bl.cell
            have f5 := hc3.bl.frozen
            have hcap : xs.length + 1 ≤ c3 := by
              obtain ⟨a', c', hv, hle, _⟩ := hc3.row.r
              simp only [Value.slice.injEq] at hv
              rw [← hv.2.2, hl3] at hle; exact hle
            obtain ⟨hp1, hp2⟩ := hc3.pop
            have HP1 := hid hp1
            have HV4 := hid (HV.frame _ _ _ _ hV3 hp2)
            have HDD := hid hDD
            have HKK := hid (hkk.trans (hp2.mono (fun b _ hb => .inl hb.1)))
            have HL : Hid (nextR ok step n k (d + 1) first xs s = loopR f (n - (i + 1)) (i + 1) (f i s1).2) := by
              show _ = _
              rw [HRR.out, show n - i = (n - (i + 1)) + 1 by omega, loopR_yes t3]
            have f6 : IntKind.i64.wrap (((xs.length + 1 : Nat) : Int) - 1) = (xs.length : Int) := by rw [IntWalk.i64_in _ (by omega)]; omega
            have hcapz : (xs.length : Int) ≤ (c3 : Int) := by omega
            clear hc3 hp1 hp2 hV3 hDD hkk hD3 hk3 hl3 hb2 hc1 hf1 e4
            go_wp2
            go_roundg (n - (i + 1))
            case rel => exact ⟨i + 1, _, D3, _, by omega, by omega, rfl, by go_num, HL.out, HP1.out, HV4.out, HDD.out, HKK.out⟩
            case measure => omega
          · rw [t3]
            have HL : Hid (nextR ok step n k (d + 1) first xs s = (false, (f i s1).2)) := by
              show _ = _
              rw [HRR.out, show n - i = (n - (i + 1)) + 1 by omega, loopR_no t3]
            have HV3 := hid hV3
            have HDD := hid (fun c hc => And.intro (hD3 c hc).1 (hDD c hc))
            have HKK := hid hkk
            clear hc3 hV3 hDD hkk hD3 hk3 hb2 hc1 hf1 e4
            go_wp2
            go_ret
            exact ⟨D3, by rw [HL.out]; rfl, by rw [HL.out]; exact HV3.out, HDD.out, HKK.out, fun hh => by rw [HL.out] at hh; cases hh⟩
        · obtain rfl : i = n := by omega
          have HL : Hid (nextR ok step i k (d + 1) first xs s = (true, s1)) := by show _ = _; rw [HRR.out, Nat.sub_self, loopR_zero]
          clear hc
          go_wp2
          go_ret
          exact ⟨D1, by rw [HL.out]; rfl, by rw [HL.out]; exact HV1.out, fun c hc => ⟨HC1.out.dlt c hc, HD1.out c hc⟩, HKP.out, fun _ => ⟨_, HC1.out⟩⟩

theorem ch_start (w : World) (n k F : Nat) (caps : Array Value) (D : Nat → Prop) (hD : ∀ b, D b → b < w.heap.size) :
    let W := ((((((w.alloc (.cells #[.int .i64 n] 3)).alloc (.cells #[.int .i64 k] 3)).alloc (.cells #[.func (.func F) #[] caps] 78)).alloc (.cells #[] 3)).alloc (.cells #[.slice (some ⟨w.heap.size + 1 + 1 + 1, 0, none⟩) 0 0] 27)).alloc
      (.cells #[.func (.func 92) #[] #[.pointer (some ⟨w.heap.size + 1 + 1 + 1 + 1, 0, none⟩), .pointer (some ⟨w.heap.size + 1, 0, none⟩), .pointer (some ⟨w.heap.size + 1 + 1, 0, none⟩), .pointer (some ⟨w.heap.size, 0, none⟩), .pointer (some ⟨w.heap.size + 1 + 1 + 1 + 1 + 1, 0, none⟩)]] 64))
    ChSt w.heap.size n k F caps D W [] (.slice (some ⟨w.heap.size + 1 + 1 + 1, 0, none⟩) 0 0) ∧ Below w.heap.size w W := by
  intro W
  obtain ⟨h, hh⟩ : ∃ h, w.heap.size = h := ⟨_, rfl⟩
  have s1 : ∀ (u : World) (o : Obj), (u.alloc o).heap.size = u.heap.size + 1 := fun u o => by simp
  have hb : Below w.heap.size w W := ((((((Below.refl _ _).alloc (by omega) _).alloc (by simp) _).alloc (by simp; omega) _).alloc (by simp; omega) _).alloc (by simp; omega) _).alloc (by simp; omega) _
  have look : ∀ (u : World) (o o' : Obj) (b : Nat), u.heap[b]? = some o → (u.alloc o').heap[b]? = some o := fun u o o' b hx => by
    rw [Below.heap_alloc _ _ _ (Array.getElem?_eq_some_iff.1 hx).1]; exact hx
  have new : ∀ (u : World) (o : Obj) (b : Nat), b = u.heap.size → (u.alloc o).heap[b]? = some o := fun u o b hb => by rw [hb]; exact heap_alloc_new u o
  refine ⟨⟨?_, ?_, ?_, ?_, ?_, ?_, fun j hj hd => ?_, fun g hg hd => ?_, fun b hd => ?_⟩, hb⟩
  · exact look _ _ _ _ (look _ _ _ _ (look _ _ _ _ (look _ _ _ _ (look _ _ _ _ (new _ _ _ rfl)))))
  · exact look _ _ _ _ (look _ _ _ _ (look _ _ _ _ (look _ _ _ _ (new _ _ _ (by simp)))))
  · exact look _ _ _ _ (look _ _ _ _ (look _ _ _ _ (new _ _ _ (by simp))))
  · exact look _ _ _ _ (new _ _ _ (by simp))
  · exact new _ _ _ (by simp)
  · have h3 := World.ownsRow_made (base := w.heap.size + 3) (e := 3) (size := 1) (((w.alloc (.cells #[.int .i64 n] 3)).alloc (.cells #[.int .i64 k] 3)).alloc (.cells #[.func (.func F) #[] caps] 78)) #[] 0 (by simp) (by unfold maxLen; omega) rfl
    have h4 := (h3.alloc (.cells #[.slice (some ⟨w.heap.size + 1 + 1 + 1, 0, none⟩) 0 0] 27)).alloc (.cells #[.func (.func 92) #[] #[.pointer (some ⟨w.heap.size + 1 + 1 + 1 + 1, 0, none⟩), .pointer (some ⟨w.heap.size + 1, 0, none⟩), .pointer (some ⟨w.heap.size + 1 + 1, 0, none⟩), .pointer (some ⟨w.heap.size, 0, none⟩), .pointer (some ⟨w.heap.size + 1 + 1 + 1 + 1 + 1, 0, none⟩)]] 64)
    simp only [s1] at h4
    exact ⟨h4, fun g hg => (h4.lt g hg).2⟩
  · have := hD _ hd; omega
  · simp only [Value.ownBlock, Option.some.injEq] at hg; have := hD _ hd; omega
  · have := hD b hd; have := hb.size; omega

set_option maxRecDepth 100000 in
set_option maxHeartbeats 2000000 in
theorem choices_c {σ : Type} {ok : σ → List Int → Bool} {step : σ → List Int → σ} {V : σ → World → (Nat → Prop) → Prop} {pre : List Int → Prop} {F : Nat} {caps : Array Value} (n k : Nat) (hn : n ≤ 1000) (hk : k ≤ 1000) (s : σ) (D : Nat → Prop) (w : World)
    (HV : Vis σ w.heap.size F caps ok step V pre) (hpre : ∀ xs : List Int, xs.length = k → (∀ x ∈ xs, 0 ≤ x ∧ x < (n : Int)) → xs.Pairwise (· < ·) → pre xs) (hV : V s w D) (hD : ∀ b, D b → b < w.heap.size) :
    Calls Tryz.prog 77 #[.int .i64 n, .int .i64 k, .func (.func F) #[] caps] w (RetV V D w (nextR ok step n k n 0 [] s).1 (nextR ok step n k n 0 [] s).2) := by
  have HVV := hid hV
  clear hV
  go_enter Tryz.func77, Tryz.ntmps77
  go_wp2_with fail
  obtain ⟨hc, hb⟩ := ch_start w n k F caps D hD
  have HC := hid hc
  have HB := hid hb
  clear hc hb
  refine (choices1_c n k hn hk HV hpre n 0 [] _ s D _ (by omega) (Nat.zero_le _) (Nat.zero_le _) (by simp) List.Pairwise.nil HC.out (HV.frame _ _ _ _ HVV.out (KeepOn.of_below HB.out))).mono ?_
  rintro e w1 ⟨D1, rfl, hV1, hD1, hk1, _⟩
  have H1 := hid hV1
  have HD1 := hid (show ∀ c, D1 c → c < w1.heap.size ∧ (D c ∨ w.heap.size ≤ c) from fun c hc => ⟨(hD1 c hc).1, by
    rcases (hD1 c hc).2 with h1 | h1
    · exact .inl h1
    · have := HB.out.size; exact .inr (by omega)⟩)
  have HK1 := hid (show KeepOn (fun c => ¬ D c) w w1 from ⟨hk1.os.trans HB.out.os, hk1.tape.trans HB.out.tape, hk1.output.trans HB.out.output, Nat.le_trans HB.out.size hk1.size, fun b hb hd => (hk1.block b (Nat.lt_of_lt_of_le hb HB.out.size) ⟨hb, hd⟩).trans (HB.out.block b hb)⟩)
  clear hV1 hD1 hk1
  go_wp2
  go_ret
  exact ⟨D1, rfl, H1.out, HD1.out, HK1.out⟩

end Go.Proofs.YtnkbfgnmodfemaaGreatDoor
