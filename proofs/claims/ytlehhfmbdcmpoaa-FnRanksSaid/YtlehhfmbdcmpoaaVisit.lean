/- Visitors: a function value that is called again and again by a function that makes memory of its own: what is asked of it; the choices of k of n points. -/
import Derived.Test.YtlehhfmbdcmpoaaAppend
import Derived.Test.YtlehhfmbdcmpoaaMat
import Derived.RangeFuncBox
import Derived.Deep.AppendLies
import Derived.Laws.EntriesVeiled
namespace Go.Proofs.Ytlehhfmbdcmpoaa
open Go.RowKit
open Go.Lib (hid)

/-- what lies in S is as it was -/
structure KeepOn (S : Nat → Prop) (w w' : World) : Prop where
  os : w'.os = w.os
  tape : w'.tape = w.tape
  output : w'.output = w.output
  size : w.heap.size ≤ w'.heap.size
  block : ∀ b, b < w.heap.size → S b → w'.heap[b]? = w.heap[b]?
theorem KeepOn.refl (S : Nat → Prop) (w : World) : KeepOn S w w := ⟨rfl, rfl, rfl, Nat.le_refl _, fun _ _ _ => rfl⟩
theorem KeepOn.trans {S : Nat → Prop} {a b c : World} (h : KeepOn S a b) (k : KeepOn S b c) : KeepOn S a c :=
  ⟨k.os.trans h.os, k.tape.trans h.tape, k.output.trans h.output, Nat.le_trans h.size k.size, fun i hi hs => (k.block i (Nat.lt_of_lt_of_le hi h.size) hs).trans (h.block i hi hs)⟩
theorem KeepOn.mono {S T : Nat → Prop} {w w' : World} (h : KeepOn S w w') (hs : ∀ b, b < w.heap.size → T b → S b) : KeepOn T w w' := ⟨h.os, h.tape, h.output, h.size, fun b hb ht => h.block b hb (hs b hb ht)⟩
theorem KeepOn.of_below {S : Nat → Prop} {w w' : World} (h : Below w.heap.size w w') : KeepOn S w w' := ⟨h.os, h.tape, h.output, h.size, fun b hb _ => h.block b hb⟩
theorem KeepOn.of_grown {S : Nat → Prop} {w w' : World} {row : Option Nat} (h : w.grownBy w' row) (hs : ∀ b, row = some b → ¬ S b) : KeepOn S w w' := ⟨h.os, h.tape, h.output, h.size, fun b hb ht => h.block b hb (fun e => hs b e.symm ht)⟩
theorem KeepOn.below {S : Nat → Prop} {w w' : World} {B : Nat} (h : KeepOn S w w') (hs : ∀ b, b < B → S b) (hB : B ≤ w.heap.size) : Below B w w' := ⟨h.os, h.tape, h.output, h.size, fun b hb => h.block b (by omega) (hs b hb)⟩
theorem KeepOn.drewN {S : Nat → Prop} {a w : World} (h : KeepOn S a w) (n : Nat) : KeepOn S a (w.drewN n) := ⟨h.os, h.tape, h.output, h.size, h.block⟩
theorem KeepOn.set {S : Nat → Prop} (w : World) (b : Nat) (v : Value) (hs : ¬ S b) : KeepOn S w (w.setCell ⟨b, 0, none⟩ v) :=
  ⟨rfl, rfl, rfl, by simp [World.setCell], fun c _ hc => heap_setCell_other _ _ _ _ (fun e => hs (by have e' : c = b := e; rw [← e']; exact hc))⟩

/-- a visitor returned: whether to go on; its state; its blocks D' -/
def RetV {σ : Type} (V : σ → World → (Nat → Prop) → Prop) (D : Nat → Prop) (w : World) (b : Bool) (s : σ) (e : Ending) (w' : World) : Prop :=
  ∃ D' : Nat → Prop, e = .returned (.bool b) ∧ V s w' D' ∧ (∀ c, D' c → c < w'.heap.size ∧ (D c ∨ w.heap.size ≤ c)) ∧ KeepOn (fun c => ¬ D c) w w'
/-- what is asked of a visitor F, from block h on others work -/
structure Vis (σ : Type) (h : Nat) (F : Nat) (caps : Array Value) (ok : σ → List Int → Bool) (step : σ → List Int → σ) (V : σ → World → (Nat → Prop) → Prop) (pre : List Int → Prop) : Prop where
  enter : ∀ args w, (callFunc F args).run Try.prog w = .ok (.enter F args) w
  frame : ∀ s w w' D, V s w D → KeepOn (fun b => b < h ∨ D b) w w' → V s w' D
  call : ∀ s w D v xs, V s w D → RInts w v xs → pre xs → h ≤ w.heap.size → Calls Try.prog F (#[v] ++ caps) w (RetV V D w (ok s xs) (step s xs))

section
variable {σ : Type} (ok : σ → List Int → Bool) (step : σ → List Int → σ)
/-- a loop over i, as long as it says yes -/
def loopR (f : Nat → σ → Bool × σ) : Nat → Nat → σ → Bool × σ
  | 0, _, s => (true, s)
  | m + 1, i, s => if (f i s).1 then loopR f m (i + 1) (f i s).2 else (false, (f i s).2)
theorem loopR_zero (f : Nat → σ → Bool × σ) (i : Nat) (s : σ) : loopR f 0 i s = (true, s) := rfl
theorem loopR_yes {f : Nat → σ → Bool × σ} {m i : Nat} {s : σ} (h : (f i s).1 = true) : loopR f (m + 1) i s = loopR f m (i + 1) (f i s).2 := by rw [loopR, if_pos h]
theorem loopR_no {f : Nat → σ → Bool × σ} {m i : Nat} {s : σ} (h : (f i s).1 = false) : loopR f (m + 1) i s = (false, (f i s).2) := by rw [loopR, if_neg (by rw [h]; simp)]
/-- all choices of k of n behind xs, from first on -/
def nextR (n k : Nat) : Nat → Nat → List Int → σ → Bool × σ
  | 0, _, xs, s => if xs.length = k then (ok s xs, step s xs) else (true, s)
  | d + 1, first, xs, s => if xs.length = k then (ok s xs, step s xs) else loopR (fun i s => nextR n k d (i + 1) (xs ++ [(i : Int)]) s) (n - first) first s
theorem nextR_yes {n k d first : Nat} {xs : List Int} {s : σ} (h : xs.length = k) : nextR ok step n k d first xs s = (ok s xs, step s xs) := by
  cases d <;> simp [nextR, h]
theorem nextR_no {n k d first : Nat} {xs : List Int} {s : σ} (h : ¬ xs.length = k) : nextR ok step n k (d + 1) first xs s = loopR (fun i s => nextR ok step n k d (i + 1) (xs ++ [(i : Int)]) s) (n - first) first s := by
  simp [nextR, h]
theorem nextR_end {n k first : Nat} {xs : List Int} {s : σ} (h : ¬ xs.length = k) (hf : n ≤ first) (d : Nat) : nextR ok step n k d first xs s = (true, s) := by
  cases d with
  | zero => simp [nextR, h]
  | succ d => rw [nextR_no ok step h, show n - first = 0 by omega, loopR_zero]
end

theorem fints_new {w : World} {lo hi : Nat} {v : Value} {xs : List Int} (h : FInts w lo hi v xs) : FInts w lo w.heap.size v xs := ⟨h.1, fun g hg => (h.1.lt g hg).2⟩
theorem fints_len3 {w : World} {lo hi : Nat} {a : Option Addr} {m c : Nat} {xs : List Int} (h : FInts w lo hi (.slice a m c) xs) : m = xs.length := by
  obtain ⟨a', c', hv, _⟩ := own_form h.1
  simp only [Value.slice.injEq] at hv
  exact hv.2.1
theorem fints_pos {w : World} {lo hi : Nat} {v : Value} {xs : List Int} (h : FInts w lo hi v xs) (h0 : 0 < xs.length) : ∃ g c, v = .slice (some ⟨g, 0, none⟩) xs.length c := by
  obtain ⟨a, cap, rfl⟩ := h.form
  obtain ⟨g, x, rfl, _⟩ := h.at (i := 0) h0
  exact ⟨g, cap, rfl⟩
theorem fints_pop {w : World} {lo hi m cap : Nat} {a : Option Addr} {xs : List Int} {x : Int} (h : FInts w lo hi (.slice a (m + 1) cap) (xs ++ [x])) : FInts w lo hi (.slice a m cap) xs := by
  have hm : m = xs.length := by have := h.form; obtain ⟨_, _, e⟩ := this; simp only [Value.slice.injEq] at e; simp at e; omega
  subst hm
  refine ⟨⟨by simp, ?_⟩, fun g hg => h.2 g (by cases a with | none => simp [Value.ownBlock] at hg | some a => exact hg)⟩
  rcases h.1.2 with ⟨hv, hn⟩ | ⟨g, cap', cur, hv, hb, hg, hnc, hcm, hcs, ht⟩
  · simp at hn
  · simp only [Value.slice.injEq] at hv
    obtain ⟨rfl, _, rfl⟩ := hv
    refine .inr ⟨g, cap, cur, rfl, hb, hg, by simp at hnc; omega, hcm, hcs, ?_⟩
    have h1 := congrArg (List.take xs.length) ht
    rw [List.take_take] at h1
    simp at h1
    rw [Nat.mul_one]
    exact h1


end Go.Proofs.Ytlehhfmbdcmpoaa
